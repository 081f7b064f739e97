import Derived.Test.YtcndbohiiodndaaFeedI
import Derived.Test.YtcndbohiiodndaaMakeG
open Go Go.RowKit
open Go.ChangeMaps (setBlock)
namespace Go.Proofs.Ytcndbohiiodndaa


theorem blk_chain {W w2 w3 : World} {bf size n : Nat} {e : TypeId} {v : Value} {xs : List Value} {o c : Obj} (h : W.heap[bf]? = some o) (hg2 : W.grownBy w2 (Value.slice none 0 0).ownBlock) (hO : W.ownsRow (bf + 1) e size v n xs) (hg3 : (w2.alloc c).grownBy w3 v.ownBlock) : w3.heap[bf]? = some o := by
  have hb := blk_lt h
  have h2 : w2.heap[bf]? = some o := (hg2.block bf hb (by simp [Value.ownBlock])).trans h
  have hs := hg2.size
  refine (hg3.block bf (by rw [World.size_alloc]; omega) fun e => ?_).trans ((Below.heap_alloc _ _ _ (blk_lt h2)).trans h2)
  have := own_base' hO _ e.symm
  omega

theorem new_step {w1 wr W w2 w3 : World} {g : Gram} {q : Nat} {Av Ai Ao : Option Addr} {cv ci co : Nat} {xs : List Value} {r : Rule} {l : List Rule} (hb : Below w1.heap.size w1 wr) (hbF : Below wr.heap.size wr W) (hOd : OwnRules W (w1.heap.size + 1) (.slice Av q cv) l xs) (hll : l.length = q)
    (hFd : W.heap[w1.heap.size]? = some (.cells #[.int .i64 g.terms, .int .i64 g.nons, .int .i64 g.start, .slice Av q cv, .slice none 0 0, .slice none 0 0, .slice none 0 0] 110 (0, 0)))
    (hg2 : W.grownBy w2 (Value.slice none 0 0).ownBlock) (hown2 : w2.ownsRow (w1.heap.size + 1) 67 2 (.slice Ai r.r.length ci) r.r.length ([] ++ symCells r.r))
    (hg3 : (w2.alloc (.cells #[.int .i64 r.l, .slice Ai r.r.length ci] 60)).grownBy w3 (Value.slice Av q cv).ownBlock) (hown3 : w3.ownsRow (w1.heap.size + 1) 60 2 (.slice Ao (q + 1) co) (q + 1) (xs ++ [.int .i64 r.l, .slice Ai r.r.length ci])) :
    Below w1.heap.size w1 (w3.setCell ⟨w1.heap.size, 3, none⟩ (.slice Ao (q + 1) co)) ∧
    (w3.setCell ⟨w1.heap.size, 3, none⟩ (.slice Ao (q + 1) co)).heap[w1.heap.size]? = some (.cells #[.int .i64 g.terms, .int .i64 g.nons, .int .i64 g.start, .slice Ao (q + 1) co, .slice none 0 0, .slice none 0 0, .slice none 0 0] 110 (0, 0)) ∧
    OwnRules (w3.setCell ⟨w1.heap.size, 3, none⟩ (.slice Ao (q + 1) co)) (w1.heap.size + 1) (.slice Ao (q + 1) co) (l ++ [r]) (xs ++ [.int .i64 r.l, .slice Ai r.r.length ci]) := by
  subst hll
  have hk3 := blk_chain hFd hg2 hOd.own hg3
  have hs1 := hb.size
  have hsF := hbF.size
  have hs2 := hg2.size
  refine ⟨?_, by rw [heap_set hk3]; rfl, ?_⟩
  · refine Below.setCell ((((hb.trans (hbF.mono hs1)).grown hg2 (by omega) (by intro k hk; cases hk)).alloc (by omega) _).grown hg3 (by rw [World.size_alloc]; omega) fun k hk => ?_) (Nat.le_refl _) _
    have := own_base' hOd.own k hk
    omega
  · refine OwnRules.setCell (OwnRules.snoc ((hOd.grownSym rfl hg2).alloc _) (hown2.alloc _) hg3 hown3) (by omega)


theorem FeedAt.weakD {D D' : Nat → Prop} {w : World} {bf lim : Nat} {g : Gram} {gd : List Bool} {x : List Int} {S : Nat → Item → Prop} {A : Option Addr} {cr : Nat} {B : Option Addr} {cg : Nat} {C : Option Addr} {cw : Nat} {E : Option Addr} {cs : Nat} {rs : List Nat}
    (h : FeedAt D w bf lim g gd x S A cr B cg C cw E cs rs) (hD : ∀ b, D b → D' b) : FeedAt D' w bf lim g gd x S A cr B cg C cw E cs rs :=
  ⟨h.blk, h.lt, h.le, h.rules, h.good, h.gdlen, h.word, fun a ha => hD _ (h.wordD a ha), h.sets, fun a ha => hD _ (h.setsD a ha), h.len, h.dist, fun k hk => ⟨(h.maps k hk).1, hD _ (h.maps k hk).2.1, (h.maps k hk).2.2⟩, h.ok⟩

theorem FeedAt.capD {D : Nat → Prop} {w : World} {bf lim : Nat} {g : Gram} {gd : List Bool} {x : List Int} {S : Nat → Item → Prop} {A : Option Addr} {cr : Nat} {B : Option Addr} {cg : Nat} {C : Option Addr} {cw : Nat} {E : Option Addr} {cs : Nat} {rs : List Nat}
    (h : FeedAt D w bf lim g gd x S A cr B cg C cw E cs rs) : FeedAt (fun b => D b ∧ b < w.heap.size) w bf lim g gd x S A cr B cg C cw E cs rs :=
  ⟨h.blk, h.lt, h.le, h.rules, h.good, h.gdlen, h.word, fun a ha => ⟨h.wordD a ha, (h.word.lt a.block (by rw [ha]; rfl)).2⟩, h.sets, fun a ha => ⟨h.setsD a ha, (h.sets.lt a.block (by rw [ha]; rfl)).2⟩, h.len, h.dist, fun k hk => ⟨(h.maps k hk).1, ⟨(h.maps k hk).2.1, (h.maps k hk).1.lt⟩, (h.maps k hk).2.2⟩, h.ok⟩

/-- a feed that has read nothing, before its set is completed -/
theorem FeedAt.first {w : World} {bf M s : Nat} {g : Gram} {gd : List Bool} {Av : Option Addr} {cv bg : Nat} (hg : Good g gd)
    (hF : w.heap[bf]? = some (.cells #[.int .i64 g.terms, .int .i64 g.nons, .int .i64 g.start, .slice Av g.rules.length cv, .slice (some ⟨bg, 0, none⟩) gd.length gd.length, .slice none 0 0, .slice none 0 0] 110 (0, 0)))
    (hbf : bf < M) (hO : IsSl Elt.rule (fun b => bf + 1 ≤ b ∧ b < M) w (.slice Av g.rules.length cv) g.rules) (hbg : w.heap[bg]? = some (.cells (gd.map Value.bool).toArray 4 (0, 0))) (hbg1 : bf < bg) (hbg2 : bg < M)
    (hM : SetIs w M (Init g gd)) (hs : s = w.heap.size) (h32 : g.rules.length ≤ 32) :
    FeedAt (fun b => M ≤ b) ((w.alloc (.cells #[.map (some M)] 112)).setCell ⟨bf, 6, none⟩ (.slice (some ⟨s, 0, none⟩) 1 1)) bf M g gd [] (updS (fun _ _ => False) 0 (Init g gd)) Av cv (some ⟨bg, 0, none⟩) gd.length none 0 (some ⟨s, 0, none⟩) 1 [M] := by
  subst hs
  have hMl := hM.lt
  have hbl := blk_lt hF
  have hF2 : (w.alloc (.cells #[.map (some M)] 112)).heap[bf]? = some (.cells #[.int .i64 g.terms, .int .i64 g.nons, .int .i64 g.start, .slice Av g.rules.length cv, .slice (some ⟨bg, 0, none⟩) gd.length gd.length, .slice none 0 0, .slice none 0 0] 110 (0, 0)) := (Below.heap_alloc _ _ _ hbl).trans hF
  have hk : ∀ j, j < M ∧ j ≠ bf → ((w.alloc (.cells #[.map (some M)] 112)).setCell ⟨bf, 6, none⟩ (.slice (some ⟨w.heap.size, 0, none⟩) 1 1)).heap[j]? = w.heap[j]? := fun j hj => by
    rw [heap_set_ne hj.2, Below.heap_alloc _ _ _ (by omega)]
  have hsz : ((w.alloc (.cells #[.map (some M)] 112)).setCell ⟨bf, 6, none⟩ (.slice (some ⟨w.heap.size, 0, none⟩) 1 1)).heap.size = w.heap.size + 1 := by rw [size_setCell, World.size_alloc]
  refine ⟨?_, hbf, by omega, (hO.weak (fun b hb => ⟨hb.2, by omega⟩)).keep hk (by omega), (sl_of_blk (enc := Value.bool) (fun b => b < M ∧ b ≠ bf) ⟨hbg2, by omega⟩ hbg rfl (by have := hg.len; omega)).keep hk (by omega), hg.len, ?_, ?_, ?_, ?_, rfl, by simp, ?_, ?_⟩
  · rw [heap_set hF2]; rfl
  · exact World.ownsRow_nil _ _ _ _
  · intro a ha; cases ha
  · refine own_setCell (base := M) (b := bf) (v := .slice (some ⟨w.heap.size, 0, none⟩) 1 1) ?_ (by omega) _
    exact World.ownsRow_lit w #[.map (some M)] 1 (by omega) (by unfold maxLen; omega) rfl
  · intro a ha; injection ha with ha; subst ha; show M ≤ w.heap.size; omega
  · intro k hk2
    obtain rfl : k = 0 := by simp at hk2; omega
    refine ⟨?_, Nat.le_refl _, Nat.le_refl _⟩
    rw [updS_same]
    exact (hM.same (Below.heap_alloc _ _ _ hMl)).setCell hF2 _
  · intro k y hk2 hy
    obtain rfl : k = 0 := by simp at hk2; omega
    rw [updS_same] at hy
    obtain ⟨r, h1, _, _, h2, h3⟩ := hy
    exact ⟨r, h1, by omega, by omega⟩

/-- rules and table of a new feed are its own -/
def NewLo (w w' : World) (bf lim : Nat) (g : Gram) (gd : List Bool) (A : Option Addr) (cr : Nat) (B : Option Addr) (cg : Nat) : Prop :=
  IsSl Elt.rule (fun b => w.heap.size ≤ b ∧ b < lim ∧ b ≠ bf) w' (.slice A g.rules.length cr) g.rules ∧ IsSl Elt.bool (fun b => w.heap.size ≤ b ∧ b < lim ∧ b ≠ bf) w' (.slice B gd.length cg) gd

set_option maxRecDepth 100000 in
set_option maxHeartbeats 1600000 in
theorem new_any (F : Nat → Prop) (g : Gram) (A0 : Option Addr) (n c : Nat) (w : World) (hr : IsSl Elt.rule F w (.slice A0 n c) g.rules) (hv : Valid g) (hnc : n ≤ c) :
    Calls Try.prog 18 #[gramV g (.slice A0 n c)] w fun e w' => ∃ bf lim gd A cr B cg C cw E cs rs, e = .returned (.tuple #[.pointer (some ⟨bf, 0, none⟩), .int .i64 0]) ∧ Below w.heap.size w w' ∧ w.heap.size ≤ bf ∧ g.rules.length ≤ cr ∧ Good g gd ∧
      FeedAt (fun b => lim ≤ b ∧ b < w'.heap.size) w' bf lim g gd [] (updS (fun _ _ => False) 0 (Clo g gd (fun _ _ => False) 0 (Init g gd))) A cr B cg C cw E cs rs ∧ NewLo w w' bf lim g gd A cr B cg := by
  obtain ⟨rfl, hn⟩ := hr.len
  have h32 := hv.len
  have hb0 : Below w.heap.size w (w.alloc (.cells #[.int .i64 g.terms, .int .i64 g.nons, .int .i64 g.start, .slice A0 g.rules.length c] 25)) := (Below.refl _ _).alloc (Nat.le_refl _) _
  have hck := check_valid F g A0 g.rules.length c _ (hr.below hb0) hv hnc
  unfold gramV at hck ⊢
  go_enter Try.func18, Try.ntmps18
  go_wp2_with fail
  refine hck.mono ?_
  rintro e1 w1 ⟨rfl, hb1⟩
  have hbx1 := box_cell (j := 0) (hb1.mono (by simp)) rfl
  have hbx2 := box_cell (j := 1) (hb1.mono (by simp)) rfl
  have hbx3 := box_cell (j := 2) (hb1.mono (by simp)) rfl
  have hbx4 := box_cell (j := 3) (hb1.mono (by simp)) rfl
  have hbw1 : Below w.heap.size w w1 := hb0.trans (hb1.mono (by simp))
  have hs1 : w.heap.size < w1.heap.size := by have := hb1.size; rw [World.size_alloc] at this; omega
  clear hck hb0
  go_wp2_with fail
  obtain ⟨is, his, hs0, hs2, hs3⟩ := info_parts Try.infoSym
  obtain ⟨ir, hir, hr0, hr2, hr3⟩ := info_parts Try.infoRule
  have hF0 : (w1.alloc (.cells #[.int .i64 g.terms, .int .i64 g.nons, .int .i64 g.start, .slice none 0 0, .slice none 0 0, .slice none 0 0, .slice none 0 0] 110)).heap[w1.heap.size]? = some (.cells #[.int .i64 g.terms, .int .i64 g.nons, .int .i64 g.start, .slice none 0 0, .slice none 0 0, .slice none 0 0, .slice none 0 0] 110 (0, 0)) := heap_alloc_new w1 _
  have hbA : Below w1.heap.size w1 (w1.alloc (.cells #[.int .i64 g.terms, .int .i64 g.nons, .int .i64 g.start, .slice none 0 0, .slice none 0 0, .slice none 0 0, .slice none 0 0] 110)) := (Below.refl _ _).alloc (Nat.le_refl _) _
  clear hbx1 hbx2 hbx3
  go_loopg [26] g.rules.length (fun gk i wr => ∃ (q : Nat) (v : Value) (xs : List Value), q ≤ g.rules.length ∧ gk = g.rules.length - q ∧ i = .int .i64 q ∧ Below w1.heap.size w1 wr ∧ wr.heap[w1.heap.size]? = some (.cells #[.int .i64 g.terms, .int .i64 g.nons, .int .i64 g.start, v, .slice none 0 0, .slice none 0 0, .slice none 0 0] 110 (0, 0)) ∧ OwnRules wr (w1.heap.size + 1) v (g.rules.take q) xs)
  case atStart => exact ⟨0, _, [], by omega, by omega, rfl, hbA, hF0, OwnRules.nil _ _⟩
  case round =>
    clear hbA hF0
    obtain ⟨q, v, xs, hq, rfl, rfl, hb, hF, hO⟩ := hrel
    obtain ⟨Av, cv, rfl⟩ := own_form hO.own
    have hlq : (g.rules.take q).length = q := by rw [List.length_take]; omega
    by_cases hlt : q < g.rules.length
    · rw [hlq] at hF hO
      obtain ⟨b, o, rfl, hFb, hl, hc1, A', c', hc2, hsy⟩ := hr.ruleAt q hlt
      have hok := hv.ok g.rules[q] (by simp)
      have ln := hok.len
      have hbw : Below w.heap.size w wr := hbw1.trans (hb.mono (by omega))
      have hc1' := (hbw.cell (p := ⟨b, o + q * 2, none⟩) hl).trans hc1
      have hc2' := (hbw.cell (p := ⟨b, o + q * 2 + 1, none⟩) hl).trans hc2
      have hsyw := hsy.below hbw
      have htake : g.rules.take (q + 1) = g.rules.take q ++ [g.rules[q]] := by rw [List.take_add_one, List.getElem?_eq_getElem hlt]; rfl
      have HTAKE := Lib.hid htake
      clear htake
      generalize g.rules[q] = r at hc1' hc2' hsyw HTAKE ln hc1 hc2 hsy hok
      have hF3 := blk_cell hF (i := 3) rfl
      have hbfl := blk_lt hF
      have hbF : Below wr.heap.size wr (wr.alloc (.cells #[.int .i64 r.l, .slice A' r.r.length c'] 60)).drew := ((Below.refl _ _).alloc (Nat.le_refl _) _).drew
      have hOd := hO.below hbF
      have hownD := hOd.own
      rw [hlq] at hownD
      have hsyd := hsyw.below hbF
      have hr0b : (wr.alloc (.cells #[.int .i64 r.l, .slice A' r.r.length c'] 60)).drew.heap[wr.heap.size]? = some (.cells #[.int .i64 r.l, .slice A' r.r.length c'] 60 (0, 0)) := by rw [drew_heap, heap_alloc_new]
      have hszd : (wr.alloc (.cells #[.int .i64 r.l, .slice A' r.r.length c'] 60)).drew.heap.size = wr.heap.size + 1 := World.size_alloc _ _
      have hFd := blk_below hbF hbfl hF
      have hqz : (q : Int) < (g.rules.length : Int) := by omega
      clear hc1 hc2 hsy
      go_wp2_with fail
      go_region_law (first | (refine step_append_src _ rfl (.const (.slice none 0 0)) (.tmp 39) 58 rfl (w1.heap.size + 1) 67 is (.agg #[.bool false, .int .i64 0]) 2 16 Try.underlying58 his hs0 hs2 hs3 rfl (by decide) (.slice none 0 0) 0 [] rfl (World.ownsRow_nil _ _ _ _) A' r.r.length c' (symCells r.r) rfl (symCells_length _) (sl_none hsyd) (sl_syms hsyd) (symCells_one _) r.r.length (Nat.zero_add _) (by unfold maxLen; omega) (by omega) (by omega) ?_; intro Ai ci w2 hown2 hg2 hat2; have e20 := blk_cell (blk_nil hr0b hg2) (i := 0) rfl; have e23 := blk_cell (blk_nil hFd hg2) (i := 3) rfl; have e2l := blk_lt (blk_nil hFd hg2)) | (refine step_append_src _ rfl (.tmp 35) (.tmp 42) 23 rfl (w1.heap.size + 1) 60 ir (.agg #[.int .i64 0, .slice none 0 0]) 2 32 Try.underlying23 hir hr0 hr2 hr3 rfl (by decide) _ q xs rfl ((own_nil hownD hg2).alloc _) (some ⟨w2.heap.size, 0, none⟩) 1 1 [.int .i64 r.l, .slice Ai r.r.length ci] rfl rfl (by intro h; cases h) (fun a ha j u hj => by injection ha with ha; subst ha; exact cells_new _ _ _ _ _ hj) (by intro u hu; simp at hu; rcases hu with rfl | rfl <;> rfl) (q + 1) rfl (by unfold maxLen; omega) (by omega) (by rw [World.size_alloc]; have := hg2.size; omega) ?_; intro Ao co w3 hown3 hg3 hat3; have hk3 := blk_chain hFd hg2 hownD hg3; have hk3c := blk_cell hk3 (i := 3) rfl; have hk3f : w3.frozen? ⟨w1.heap.size, 3, none⟩ = false := blk_free hk3))
      all_goals
        obtain ⟨hz1, hz2, hz3⟩ := new_step hb hbF hOd hlq hFd hg2 hown2 hg3 hown3
        go_wp2
        go_roundg (g.rules.length - (q + 1))
        case measure => omega
        case rel => exact ⟨q + 1, _, _, by omega, rfl, by go_num, hz1, hz2, by rw [HTAKE.out]; exact hz3⟩
    · obtain rfl : q = g.rules.length := by omega
      rw [List.take_length] at hF hO
      have HCV := Lib.hid (own_cap hO.own)
      have hF0 := blk_cell hF (i := 0) rfl
      have hF1 := blk_cell hF (i := 1) rfl
      have hF2 := blk_cell hF (i := 2) rfl
      have hF3 := blk_cell hF (i := 3) rfl
      have hbfl := blk_lt hF
      go_wp2_with fail
      refine (productive_any _ g Av g.rules.length cv wr hO.isSl hv).mono ?_
      rintro e2 w2 ⟨bg, gd, rfl, hgd, hb2, hbg, hgb⟩
      have hF' := blk_below hb2 hbfl hF
      have hO' := hO.below hb2
      have hs1' := hb.size
      have hs2 := hb2.size
      have hF4 := blk_cell hF' (i := 4) rfl
      have hF3' := blk_cell hF' (i := 3) rfl
      have hF4f : w2.frozen? ⟨w1.heap.size, 4, none⟩ = false := blk_free hF'
      have hbgl := blk_lt hgb
      have hbf2 : w1.heap.size < w2.heap.size := by omega
      have hmm : (Instr.makeMap 112 none).run Try.prog (w2.setCell ⟨w1.heap.size, 4, none⟩ (.slice (some ⟨bg, 0, none⟩) gd.length gd.length)) = .ok (.map (some w2.heap.size)) ((w2.setCell ⟨w1.heap.size, 4, none⟩ (.slice (some ⟨bg, 0, none⟩) gd.length gd.length)).alloc (.map #[] 0)) := by
        rw [run_makeMap, size_setCell]
      clear hF0 hF1 hF2 hF3
      go_wp2_with fail
      have hF5 : ((w2.setCell ⟨w1.heap.size, 4, none⟩ (.slice (some ⟨bg, 0, none⟩) gd.length gd.length)).alloc (.map #[] 0)).heap[w1.heap.size]? = some (.cells #[.int .i64 g.terms, .int .i64 g.nons, .int .i64 g.start, .slice Av g.rules.length cv, .slice (some ⟨bg, 0, none⟩) gd.length gd.length, .slice none 0 0, .slice none 0 0] 110 (0, 0)) := by
        rw [Below.heap_alloc _ _ _ (by rw [size_setCell]; omega), heap_set hF']; rfl
      have hO5 : IsSl Elt.rule (fun b => w1.heap.size + 1 ≤ b ∧ b < w2.heap.size) ((w2.setCell ⟨w1.heap.size, 4, none⟩ (.slice (some ⟨bg, 0, none⟩) gd.length gd.length)).alloc (.map #[] 0)) (.slice Av g.rules.length cv) g.rules :=
        (hO'.isSl.old).keep (fun j hj => by rw [Below.heap_alloc _ _ _ (by rw [size_setCell]; exact hj.2), heap_set_ne (by have := hj.1; omega)]) (by rw [World.size_alloc, size_setCell]; omega)
      have hg5 : ((w2.setCell ⟨w1.heap.size, 4, none⟩ (.slice (some ⟨bg, 0, none⟩) gd.length gd.length)).alloc (.map #[] 0)).heap[bg]? = some (.cells (gd.map Value.bool).toArray 4 (0, 0)) := by
        rw [Below.heap_alloc _ _ _ (by rw [size_setCell]; exact hbgl), heap_set_ne (by omega)]; exact hgb
      have hM5 : IsMap itemV Value.bool ((w2.setCell ⟨w1.heap.size, 4, none⟩ (.slice (some ⟨bg, 0, none⟩) gd.length gd.length)).alloc (.map #[] 0)) w2.heap.size [] := by
        have := IsMap.new itemV Value.bool (w2.setCell ⟨w1.heap.size, 4, none⟩ (.slice (some ⟨bg, 0, none⟩) gd.length gd.length))
        rwa [size_setCell] at this
      have hb5 : Below w1.heap.size w1 ((w2.setCell ⟨w1.heap.size, 4, none⟩ (.slice (some ⟨bg, 0, none⟩) gd.length gd.length)).alloc (.map #[] 0)) :=
        ((hb.trans (hb2.mono (by omega))).setCell (Nat.le_refl _) _).alloc (by rw [size_setCell]; omega) _
      have hbgM : w1.heap.size < bg := by omega
      have hsM : w2.heap.size < ((w2.setCell ⟨w1.heap.size, 4, none⟩ (.slice (some ⟨bg, 0, none⟩) gd.length gd.length)).alloc (.map #[] 0)).heap.size := hM5.lt
      clear hmm hF4 hF4f hF3' hgb hO' hF' hF hO hbfl hb hb2
      generalize ((w2.setCell ⟨w1.heap.size, 4, none⟩ (.slice (some ⟨bg, 0, none⟩) gd.length gd.length)).alloc (.map #[] 0)) = W4 at hF5 hO5 hg5 hM5 hb5 hsM ⊢
      generalize w2.heap.size = M at hO5 hM5 hsM hbf2 hbgl ⊢
      clear hs2 hbg hs1'
      go_loopg [63] g.rules.length (fun gk i wr => ∃ (q : Nat) (nl : List (Item × Bool)), q ≤ g.rules.length ∧ gk = g.rules.length - q ∧ i = .int .i64 q ∧ Below M W4 wr ∧ M < wr.heap.size ∧ IsMap itemV Value.bool wr M nl ∧ (∀ p ∈ nl, p.2 = true) ∧ ∀ z, z ∈ nl.map (·.1) ↔ z.1 < q ∧ Init g gd z)
      case atStart => exact ⟨0, [], by omega, by omega, rfl, Below.refl _ _, hsM, hM5, by simp, fun z => by simp⟩
      case round =>
        clear hM5 hsM
        obtain ⟨q, nl, hq, rfl, rfl, hbr, hMr, hnm, hnt, hnk⟩ := hrel
        have hF6 := blk_below hbr (by omega) hF5
        have hg6 := blk_below hbr (by omega) hg5
        have hO6 : IsSl Elt.rule (fun b => w1.heap.size + 1 ≤ b ∧ b < M) wr (.slice Av g.rules.length cv) g.rules := hO5.keep (fun j hj => hbr.block j hj.2) hbr.size
        have hbfr : w1.heap.size < wr.heap.size := by omega
        have hbgr : bg < wr.heap.size := by omega
        by_cases hlt : q < g.rules.length
        · obtain ⟨b, o, rfl, hFb, hl, hc1, A', c', hc2, hsy⟩ := hO6.ruleAt q hlt
          have hqz : (q : Int) < (g.rules.length : Int) := by omega
          have hgq : q < gd.length := by rw [hgd.len]; exact hlt
          have hgz : (q : Int) < (gd.length : Int) := by omega
          have hc2s := blk_cell hF6 (i := 2) rfl
          have hc4s := blk_cell hF6 (i := 4) rfl
          have hgc : wr.cell? ⟨bg, q, none⟩ = some (.bool gd[q]) := blk_cell hg6 (by simp [hgq])
          have hrq := List.getElem?_eq_getElem hlt
          have hgq2 := List.getElem?_eq_getElem hgq
          have HRQ := Lib.hid hrq
          have HGQ := Lib.hid hgq2
          clear hrq hgq2
          generalize g.rules[q] = r at hc1 hc2 hsy HRQ
          generalize gd[q] = gq at hgc HGQ
          have hnm3 := hnm.below (w' := wr.alloc (.cells #[.int .i64 r.l, .slice A' r.r.length c'] 60)) ((Below.refl _ _).alloc (Nat.le_refl _) _)
          have hbr3 : Below M W4 (wr.alloc (.cells #[.int .i64 r.l, .slice A' r.r.length c'] 60)) := hbr.alloc (by omega) _
          have hMr3 : M < (wr.alloc (.cells #[.int .i64 r.l, .slice A' r.r.length c'] 60)).heap.size := by rw [World.size_alloc]; omega
          have hnot : ¬ (r.l = g.start ∧ gq = true) → ∀ z, z ∈ nl.map (·.1) ↔ z.1 < q + 1 ∧ Init g gd z := fun hno z => by
            rw [hnk]
            constructor
            · rintro ⟨h1, h2⟩; exact ⟨by omega, h2⟩
            · rintro ⟨h1, h2⟩
              refine ⟨?_, h2⟩
              obtain ⟨r', k1, k2, k3, _⟩ := h2
              rcases Nat.lt_or_ge z.1 q with h3 | h3
              · exact h3
              · have e : z.1 = q := by omega
                rw [e, HRQ.out] at k1
                injection k1 with k1
                subst k1
                rw [e, HGQ.out] at k3
                injection k3 with k3
                exact absurd ⟨k2, k3⟩ hno
          by_cases hls : r.l = g.start
          · have hlsb : (r.l == g.start) = true := by simp [hls]
            have HLS := Lib.hid hls
            clear hls
            cases gq
            · have hno := hnot (by rintro ⟨_, h⟩; cases h)
              clear hnot hnk
              go_wp2_with fail
              go_quiet (fail)
              go_wp2_with fail
              go_roundg (g.rules.length - (q + 1))
              case measure => omega
              case rel => exact ⟨q + 1, nl, by omega, rfl, by go_num, below_drewN hbr3 _, hMr3, hnm3.same rfl, hnt, hno⟩
            · go_wp2_with fail
              go_quiet (fail)
              obtain ⟨o7, hput0, hnm7⟩ := (hnm3.same (w' := (wr.alloc (.cells #[.int .i64 r.l, .slice A' r.r.length c'] 60)).drewN nq) rfl).put (P := Try.prog) Try.itemKey Try.underlying112 (q, 0, 0) true
              have hput : (Instr.mapUpdate 112 (.map (some M)) (.agg #[.int .i64 q, .int .i64 0, .int .i64 0]) (.bool true)).run Try.prog ((wr.alloc (.cells #[.int .i64 r.l, .slice A' r.r.length c'] 60)).drewN nq) = .ok () (setBlock ((wr.alloc (.cells #[.int .i64 r.l, .slice A' r.r.length c'] 60)).drewN nq) M o7) := hput0
              clear hput0
              go_wp2_with fail
              go_roundg (g.rules.length - (q + 1))
              case measure => omega
              case rel =>
                refine ⟨q + 1, aput nl (q, 0, 0) true, by omega, rfl, by go_num, below_setBlock (below_drewN hbr3 _) (Nat.le_refl _) _, by rw [setBlock_size]; exact hMr3, hnm7, aput_true _ hnt _, fun z => ?_⟩
                rw [mem_aput, hnk]
                constructor
                · rintro (rfl | ⟨h1, h2⟩)
                  · exact ⟨Nat.lt_succ_self _, r, HRQ.out, HLS.out, HGQ.out, rfl, rfl⟩
                  · exact ⟨by omega, h2⟩
                · rintro ⟨h1, h2⟩
                  rcases Nat.lt_or_ge z.1 q with h3 | h3
                  · exact .inr ⟨h3, h2⟩
                  · obtain ⟨r', k1, k2, k3, k4, k5⟩ := h2
                    obtain ⟨z1, z2, z3⟩ := z
                    simp only at *
                    exact .inl (by rw [k4, k5, show z1 = q by omega])
          · have hlsb : (r.l == g.start) = false := by simp [hls]
            have hno := hnot (by rintro ⟨h, _⟩; exact hls h)
            clear hnot hnk hls
            go_wp2_with fail
            go_quiet (fail)
            go_wp2_with fail
            go_roundg (g.rules.length - (q + 1))
            case measure => omega
            case rel => exact ⟨q + 1, nl, by omega, rfl, by go_num, below_drewN hbr3 _, hMr3, hnm3.same rfl, hnt, hno⟩
        · obtain rfl : q = g.rules.length := by omega
          have hc6s := blk_cell hF6 (i := 6) rfl
          have hf6s : wr.frozen? ⟨w1.heap.size, 6, none⟩ = false := blk_free hF6
          have hMS : SetIs wr M (Init g gd) := ⟨nl, hnm, hnt, fun z => (hnk z).trans ⟨fun h => h.2, fun h => ⟨by obtain ⟨r, h1, _⟩ := h; exact (List.getElem?_eq_some_iff.1 h1).1, h⟩⟩⟩
          have hfin := FeedAt.first (s := wr.heap.size) hgd hF6 (by omega) hO6 hg6 hbgM hbgl hMS rfl h32
          rw [World.setCell_alloc_past (n := w1.heap.size) (hn := hbfr)] at hfin
          have hcc := complete_any 0 _ hfin (by simp) h32 (fun r hr => (hv.ok r hr).len) (by simp)
          go_wp2_with fail
          refine hcc.mono ?_
          rintro e6 w6 ⟨rfl, hgr6, hF6⟩
          have hkeep : ∀ b, w1.heap.size + 1 ≤ b ∧ b < M → w6.heap[b]? = wr.heap[b]? := fun b hb => by
            rw [hgr6.block b (by rw [World.size_alloc, size_setCell]; omega) (by intro e; injection e with e; simp at e; omega), Below.heap_alloc _ _ _ (by rw [size_setCell]; omega), heap_set_ne (by omega)]
          have hs6 : wr.heap.size ≤ w6.heap.size := by have := hgr6.size; rw [World.size_alloc, size_setCell] at this; omega
          have hsw1 := hbw1.size
          have hlo : NewLo w w6 w1.heap.size M g gd Av cv (some ⟨bg, 0, none⟩) gd.length := by
            refine ⟨(hO6.keep hkeep hs6).weak fun b hb => by omega, ?_⟩
            exact ((sl_of_blk (enc := Value.bool) (fun b => w1.heap.size + 1 ≤ b ∧ b < M) ⟨by omega, hbgl⟩ hg6 rfl (by have := hgd.len; omega)).keep hkeep hs6).weak fun b hb => by omega
          have hg6 := hgr6
          have hbl6 : Below w.heap.size w w6 := by
            refine ((((hbw1.trans (hb5.mono (by omega))).trans (hbr.mono (by omega))).setCell (p := ⟨w1.heap.size, 6, none⟩) (show w.heap.size ≤ w1.heap.size by omega) _).alloc (by rw [size_setCell]; omega) _).grown hg6 (by rw [World.size_alloc, size_setCell]; omega) ?_
            intro k hk; injection hk with hk; simp at hk; omega
          go_wp2
          go_ret2
          refine ⟨w1.heap.size, M, gd, Av, cv, some ⟨bg, 0, none⟩, gd.length, none, 0, some ⟨wr.heap.size, 0, none⟩, 1, [M], rfl, hbl6, by omega, HCV.out, hgd, ?_⟩
          refine ⟨?_, hlo⟩
          rw [← upd_clo]
          exact hF6.capD
end Go.Proofs.Ytcndbohiiodndaa
