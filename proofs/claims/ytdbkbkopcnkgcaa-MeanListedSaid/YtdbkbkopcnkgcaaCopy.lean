import Derived.Test.YtdbkbkopcnkgcaaMade
import Derived.Deep.DeepCutAuto
open Go Go.RowKit
namespace Go.Proofs.Ytdbkbkopcnkgcaa

set_option maxRecDepth 100000 in
/-- slices.Clone of symbols -/
theorem clone_syms (F : Nat → Prop) (l : List Sym) (A : Option Addr) (n c : Nat) (w : World) (hl : IsSl Elt.sym F w (.slice A n c) l) (hn : l.length ≤ 1000000) :
    Calls Try.prog 86 #[.slice A n c] w fun e w' => ∃ A' c', e = .returned (.slice A' l.length c') ∧ Below w.heap.size w w' ∧ w'.ownsRow w.heap.size 37 2 (.slice A' l.length c') l.length (symCells l) := by
  obtain ⟨rfl, hmx⟩ := hl.len
  obtain ⟨ip, hip, h0, h2, h3⟩ := info_parts Try.infoSym
  cases A with
  | none =>
    have hz := sl_none hl rfl
    have hl0 : l = [] := List.eq_nil_of_length_eq_zero hz
    subst hl0
    have hu : ∀ (w : World) (n : Nat), (binOp .eql 45 (.slice none n c) (.slice none 0 0)).run Try.prog w = .ok (.bool true) w := fun w n => Lib.run_eql_slice_nil w _ _ none n c 0 0 Try.underlying45
    go_enter Try.func86, Try.ntmps86
    go_wp2
    go_ret
    exact ⟨none, 0, rfl, Below.refl _ _, World.ownsRow_nil _ _ _ _⟩
  | some a =>
    have hcells := sl_syms hl a rfl
    have HC := Lib.hid hcells
    have HN := Lib.hid hn
    have HL := Lib.hid hl
    clear hcells hn hl
    have hu : ∀ (w : World) (n : Nat), (binOp .eql 45 (.slice (some a) n c) (.slice none 0 0)).run Try.prog w = .ok (.bool false) w := fun w n => Lib.run_eql_slice_nil w _ _ (some a) n c 0 0 Try.underlying45
    go_enter Try.func86, Try.ntmps86
    go_wp2_with (first | (at_builtin; refine wpList_append_src _ rfl (.tmp 5) (.tmp 6) 45 rfl w.heap.size 37 ip (.agg #[.bool false, .int .i64 0]) 2 16 Try.underlying45 hip h0 h2 h3 rfl (by decide) _ 0 [] rfl ?ho (some a) l.length c (symCells l) rfl ?c0 ?c1 ?c2 ?c3 ?c4 ?c5 ?c6 ?_))
    case ho => exact ⟨rfl, .inr ⟨w.heap.size, 0, #[], rfl, Nat.le_refl _, heap_alloc_new w _, Nat.le_refl _, by unfold maxLen; omega, rfl, rfl⟩⟩
    case c0 => rw [symCells_length]
    case c1 => intro h; cases h
    case c2 =>
      intro a' ha j u hj
      injection ha with ha
      subst ha
      have hlt := HC.out j u hj
      exact (World.cell?_of_block (w := w) (Below.heap_alloc w _ _ (World.block_lt_of_cell? w _ hlt))).trans hlt
    case c3 => exact symCells_one l
    case c4 => have := HN.out; unfold maxLen; omega
    case c5 => have := HN.out; omega
    case c6 => rw [World.size_alloc]; omega
    intro v' w1 hown hg _
    obtain ⟨A', c', rfl⟩ := own_form hown
    go_wp2
    go_ret
    refine ⟨A', c', by simp, ?_, hown⟩
    exact ((Below.refl _ _).alloc (Nat.le_refl _) _).grown hg (by simp) (fun k hk => by
      have : k = w.heap.size := by simpa [Value.ownBlock] using hk.symm
      omega)

theorem copy_step {w wr W w8 w9 : World} {gb rb base q : Nat} {Av Ai Ao : Option Addr} {cv ci co : Nat} {xs : List Value} {r : Rule} {l : List Rule} {t n s : Value} {o : Obj} (hb : Below w.heap.size w wr) (hbF : Below wr.heap.size wr W) (hb8 : Below W.heap.size W w8)
    (hO : OwnRules W base (.slice Av q cv) l xs) (hlq : l.length = q) (ho8 : w8.ownsRow W.heap.size 37 2 (.slice Ai r.r.length ci) r.r.length (symCells r.r)) (hg9 : (w8.alloc (.cells #[.int .i64 r.l, .slice Ai r.r.length ci] 47)).grownBy w9 (Value.slice Av q cv).ownBlock)
    (hown9 : w9.ownsRow base 47 2 (.slice Ao (q + 1) co) (q + 1) (xs ++ [.int .i64 r.l, .slice Ai r.r.length ci])) (hG : W.heap[gb]? = some (.cells #[t, n, s, .slice Av q cv] 25 (0, 0))) (hR : W.heap[rb]? = some o) (h1 : gb < base) (h2 : rb < base) (h3 : rb ≠ gb) (h4 : w.heap.size ≤ gb) (h5 : base ≤ W.heap.size) (h6 : w.heap.size ≤ base) :
    Below w.heap.size w (w9.setCell ⟨gb, 3, none⟩ (.slice Ao (q + 1) co)) ∧ (w9.setCell ⟨gb, 3, none⟩ (.slice Ao (q + 1) co)).heap[gb]? = some (.cells #[t, n, s, .slice Ao (q + 1) co] 25 (0, 0)) ∧ (w9.setCell ⟨gb, 3, none⟩ (.slice Ao (q + 1) co)).heap[rb]? = some o ∧
      OwnRules (w9.setCell ⟨gb, 3, none⟩ (.slice Ao (q + 1) co)) base (.slice Ao (q + 1) co) (l ++ [r]) (xs ++ [.int .i64 r.l, .slice Ai r.r.length ci]) := by
  subst hlq
  have hgl := blk_lt hG
  have hrl := blk_lt hR
  have hs8 := hb8.size
  have hsb := hb.size
  have hsF := hbF.size
  have hrow : ∀ k, (Value.slice Av l.length cv).ownBlock = some k → base ≤ k := fun k hk => own_base' hO.own _ hk
  have hk : ∀ j, j < W.heap.size → j < base → w9.heap[j]? = W.heap[j]? := fun j hj hj2 => (hg9.block j (by rw [World.size_alloc]; omega) (fun e => by have := hrow j e.symm; omega)).trans ((Below.heap_alloc _ _ _ (by omega)).trans (hb8.block j hj))
  have hbW : Below w.heap.size w W := hb.trans (hbF.mono hsb)
  have hb9 : Below w.heap.size w w9 := ((hbW.trans (hb8.mono (by omega))).alloc (by omega) _).grown hg9 (by rw [World.size_alloc]; omega) (fun k hk => by have := hrow k hk; omega)
  refine ⟨hb9.setCell (by show w.heap.size ≤ gb; omega) _, ?_, ?_, ?_⟩
  · rw [heap_set ((hk gb hgl h1).trans hG)]; rfl
  · rw [heap_set_ne h3, hk rb hrl h2]; exact hR
  · refine OwnRules.setCell (OwnRules.snoc ((hO.below hb8).alloc _) ((ho8.mono_base h5).alloc _) hg9 hown9) h1

theorem own_lt0 {w : World} {base size n : Nat} {e : TypeId} {v : Value} {xs : List Value} (h : w.ownsRow base e size v n xs) (k : Nat) (hk : v.ownBlock = some k) : k < w.heap.size := by
  obtain ⟨cs, T, fr, h1⟩ := own_block h k hk
  exact blk_lt h1
/-- the right sides lie in rows of their own, all apart -/
def DistR (xs : List Value) (n : Nat) : Prop := ∀ i j, i < j → j < n → ∀ b, (xs.getD (i * 2 + 1) undef).ownBlock = some b → (xs.getD (j * 2 + 1) undef).ownBlock ≠ some b
theorem dist_snoc {W w8 : World} {base q : Nat} {v : Value} {l : List Rule} {xs : List Value} {a : Value} {Ai : Option Addr} {ni ci size : Nat} {e : TypeId} {ys : List Value} (hO : OwnRules W base v l xs) (hlq : l.length = q) (hD : DistR xs q) (ho8 : w8.ownsRow W.heap.size e size (.slice Ai ni ci) ni ys) : DistR (xs ++ [a, .slice Ai ni ci]) (q + 1) := by
  have hxl : xs.length = q * 2 := by have := hO.own.1; omega
  intro i j hij hj b h1 h2
  rw [List.getD_eq_getElem?_getD, List.getElem?_append_left (by omega), ← List.getD_eq_getElem?_getD] at h1
  by_cases e1 : j < q
  · rw [List.getD_eq_getElem?_getD, List.getElem?_append_left (by omega), ← List.getD_eq_getElem?_getD] at h2
    exact hD i j hij e1 b h1 h2
  · obtain rfl : j = q := by omega
    rw [List.getD_eq_getElem?_getD, List.getElem?_append_right (by omega), hxl] at h2
    have h3 : (Value.slice Ai ni ci).ownBlock = some b := by
      have e2 : j * 2 + 1 - j * 2 = 1 := by omega
      rw [e2] at h2
      exact h2
    have h4 := own_base' ho8 b h3
    obtain ⟨_, A, c, h5, h6⟩ := hO.at_ i (by omega)
    rw [List.getD_eq_getElem?_getD, h5] at h1
    have := own_lt0 h6 b h1
    omega

set_option maxRecDepth 100000 in
set_option maxHeartbeats 1600000 in
theorem copyOf_dist (F : Nat → Prop) (g : Gram) (A0 : Option Addr) (c : Nat) (w : World) (hr : IsSl Elt.rule F w (.slice A0 g.rules.length c) g.rules) (hv : Valid g) :
    Calls Try.prog 39 #[gramV g (.slice A0 g.rules.length c)] w fun e w' => ∃ A' c', e = .returned (gramV g (.slice A' g.rules.length c')) ∧ Below w.heap.size w w' ∧ g.rules.length ≤ c' ∧ IsSl Elt.rule (fun b => w.heap.size ≤ b) w' (.slice A' g.rules.length c') g.rules ∧ ∃ xs, OwnRules w' (w.heap.size + 3) (.slice A' g.rules.length c') g.rules xs ∧ DistR xs g.rules.length := by
  have h32 := hv.len
  unfold gramV
  go_enter Try.func39, Try.ntmps39
  go_wp2_with fail
  obtain ⟨is, his, hs0, hs2, hs3⟩ := info_parts Try.infoSym
  obtain ⟨ir, hir, hr0, hr2, hr3⟩ := info_parts Try.infoRule
  have hbA : Below w.heap.size w (((w.alloc (.cells #[.int .i64 g.terms, .int .i64 g.nons, .int .i64 g.start, .slice A0 g.rules.length c] 25)).alloc (.cells #[.int .i64 0, .int .i64 0, .int .i64 0, .slice none 0 0] 25)).alloc (.cells #[.int .i64 g.terms, .int .i64 g.nons, .int .i64 g.start, .slice none 0 0] 25)) := (((Below.refl _ _).alloc (Nat.le_refl _) _).alloc (by simp) _).alloc (by simp; omega) _
  have hF0 : (((w.alloc (.cells #[.int .i64 g.terms, .int .i64 g.nons, .int .i64 g.start, .slice A0 g.rules.length c] 25)).alloc (.cells #[.int .i64 0, .int .i64 0, .int .i64 0, .slice none 0 0] 25)).alloc (.cells #[.int .i64 g.terms, .int .i64 g.nons, .int .i64 g.start, .slice none 0 0] 25)).heap[w.heap.size + 2]? = some (.cells #[.int .i64 g.terms, .int .i64 g.nons, .int .i64 g.start, .slice none 0 0] 25 (0, 0)) := by
    rw [show w.heap.size + 2 = ((w.alloc (.cells #[.int .i64 g.terms, .int .i64 g.nons, .int .i64 g.start, .slice A0 g.rules.length c] 25)).alloc (.cells #[.int .i64 0, .int .i64 0, .int .i64 0, .slice none 0 0] 25)).heap.size by simp, heap_alloc_new]
  have hR0 : (((w.alloc (.cells #[.int .i64 g.terms, .int .i64 g.nons, .int .i64 g.start, .slice A0 g.rules.length c] 25)).alloc (.cells #[.int .i64 0, .int .i64 0, .int .i64 0, .slice none 0 0] 25)).alloc (.cells #[.int .i64 g.terms, .int .i64 g.nons, .int .i64 g.start, .slice none 0 0] 25)).heap[w.heap.size + 1]? = some (.cells #[.int .i64 0, .int .i64 0, .int .i64 0, .slice none 0 0] 25 (0, 0)) := by
    rw [Below.heap_alloc _ _ _ (by simp), show w.heap.size + 1 = (w.alloc (.cells #[.int .i64 g.terms, .int .i64 g.nons, .int .i64 g.start, .slice A0 g.rules.length c] 25)).heap.size by simp, heap_alloc_new]
  have hsA : w.heap.size + 3 = (((w.alloc (.cells #[.int .i64 g.terms, .int .i64 g.nons, .int .i64 g.start, .slice A0 g.rules.length c] 25)).alloc (.cells #[.int .i64 0, .int .i64 0, .int .i64 0, .slice none 0 0] 25)).alloc (.cells #[.int .i64 g.terms, .int .i64 g.nons, .int .i64 g.start, .slice none 0 0] 25)).heap.size := by simp
  go_loopg [11] g.rules.length (fun gk i wr => ∃ (q : Nat) (v : Value) (xs : List Value), q ≤ g.rules.length ∧ gk = g.rules.length - q ∧ i = .int .i64 q ∧ Below w.heap.size w wr ∧ wr.heap[w.heap.size + 2]? = some (.cells #[.int .i64 g.terms, .int .i64 g.nons, .int .i64 g.start, v] 25 (0, 0)) ∧ wr.heap[w.heap.size + 1]? = some (.cells #[.int .i64 0, .int .i64 0, .int .i64 0, .slice none 0 0] 25 (0, 0)) ∧ w.heap.size + 3 ≤ wr.heap.size ∧ OwnRules wr (w.heap.size + 3) v (g.rules.take q) xs ∧ DistR xs q)
  case atStart => exact ⟨0, _, [], by omega, by omega, rfl, hbA, hF0, hR0, by omega, OwnRules.nil _ _, fun i j _ hj => by omega⟩
  case round =>
    clear hbA hF0 hR0 hsA
    obtain ⟨q, v, xs, hq, rfl, rfl, hb, hF, hR, hsz, hO, hD⟩ := hrel
    obtain ⟨Av, cv, rfl⟩ := own_form hO.own
    have hlq : (g.rules.take q).length = q := by rw [List.length_take]; omega
    obtain ⟨wo, rfl⟩ : ∃ wo : World, wo = wr := ⟨_, rfl⟩
    by_cases hlt : q < g.rules.length
    · rw [hlq] at hF hO
      obtain ⟨b, o, rfl, hFb, hl, hc1, A', c', hc2, hsy⟩ := hr.ruleAt q hlt
      have hok := hv.ok g.rules[q] (by simp)
      have ln := hok.len
      have hc1' := (hb.cell (p := ⟨b, o + q * 2, none⟩) hl).trans hc1
      have hc2' := (hb.cell (p := ⟨b, o + q * 2 + 1, none⟩) hl).trans hc2
      have hsyw := hsy.below hb
      have htake : g.rules.take (q + 1) = g.rules.take q ++ [g.rules[q]] := by rw [List.take_add_one, List.getElem?_eq_getElem hlt]; rfl
      have HTAKE := Lib.hid htake
      clear htake
      generalize g.rules[q] = r at hc1' hc2' hsyw HTAKE ln hc1 hc2 hsy hok
      have hF3 := blk_cell hF (i := 3) rfl
      have hbfl := blk_lt hF
      have hbF : Below wo.heap.size wo (wo.alloc (.cells #[.int .i64 r.l, .slice A' r.r.length c'] 47)).drew := ((Below.refl _ _).alloc (Nat.le_refl _) _).drew
      have hOd := hO.below hbF
      have hownD := hOd.own
      rw [hlq] at hownD
      have hsyd := hsyw.below hbF
      have hr0b : (wo.alloc (.cells #[.int .i64 r.l, .slice A' r.r.length c'] 47)).drew.heap[wo.heap.size]? = some (.cells #[.int .i64 r.l, .slice A' r.r.length c'] 47 (0, 0)) := by rw [drew_heap, heap_alloc_new]
      have hszd : (wo.alloc (.cells #[.int .i64 r.l, .slice A' r.r.length c'] 47)).drew.heap.size = wo.heap.size + 1 := World.size_alloc _ _
      have hFd := blk_below hbF hbfl hF
      have hRd := blk_below hbF (blk_lt hR) hR
      have hqz : (q : Int) < (g.rules.length : Int) := by omega
      have hcl := clone_syms _ r.r A' _ c' _ hsyd (by omega)
      clear hc1 hc2 hsy
      go_wp2_with fail
      go_region_law (first | (refine step_call rfl 86 Try.f86 Try.func86 (by kernel_rfl) (by kernel_rfl) [_] _ rfl [.slice A' r.r.length c'] rfl _ hcl ?_; rintro e8 w8 ⟨A8, c8, rfl, hb8, ho8⟩; refine ⟨_, rfl, ?_⟩; have hs8 := hb8.size; have hr8 := blk_below hb8 (blk_lt hr0b) hr0b; have hr80 := blk_cell hr8 (i := 0) rfl; have hF8 := blk_below hb8 (blk_lt hFd) hFd; have hF83 := blk_cell hF8 (i := 3) rfl; have h8l := blk_lt hF8; have hown8 := (hOd.below hb8).own; rw [hlq] at hown8) | (refine step_append_src _ rfl (.tmp 16) (.tmp 23) 23 rfl (w.heap.size + 3) 47 ir (.agg #[.int .i64 0, .slice none 0 0]) 2 32 Try.underlying23 hir hr0 hr2 hr3 rfl (by decide) _ q xs rfl (hown8.alloc _) (some ⟨w8.heap.size, 0, none⟩) 1 1 [.int .i64 r.l, .slice A8 r.r.length c8] rfl rfl (by intro h; cases h) (fun a ha j u hj => by injection ha with ha; subst ha; exact cells_new _ _ _ _ _ hj) (by intro u hu; simp at hu; rcases hu with rfl | rfl <;> rfl) (q + 1) rfl (by unfold maxLen; omega) (by omega) (by rw [World.size_alloc]; omega) ?_; intro Ao co w9 hown9 hg9 hat9; have hk9 : w9.heap[w.heap.size + 2]? = _ := (hg9.block _ (by rw [World.size_alloc]; omega) (fun e => by have := own_base' hownD _ e.symm; omega)).trans ((Below.heap_alloc _ _ _ (by omega)).trans hF8); have hk9c := blk_cell hk9 (i := 3) rfl; have hk9f : w9.frozen? ⟨w.heap.size + 2, 3, none⟩ = false := blk_free hk9))
      all_goals
        obtain ⟨hz1, hz2, hz3, hz4⟩ := copy_step hb hbF hb8 (hlq ▸ hOd) hlq ho8 hg9 hown9 hFd hRd (by omega) (by omega) (by omega) (by omega) (by omega) (by omega)
        have hsz9 : w.heap.size + 3 ≤ (w9.setCell ⟨w.heap.size + 2, 3, none⟩ (.slice Ao (q + 1) co)).heap.size := by rw [size_setCell]; have := hg9.size; rw [World.size_alloc] at this; omega
        go_wp2
        go_roundg (g.rules.length - (q + 1))
        case measure => omega
        case rel => exact ⟨q + 1, _, _, by omega, rfl, by go_num, hz1, hz2, hz3, hsz9, by rw [HTAKE.out]; exact hz4, dist_snoc hOd hlq hD ho8⟩
    · obtain rfl : q = g.rules.length := by omega
      rw [List.take_length] at hF hO
      have hF0 := blk_cell hF (i := 0) rfl
      have hF1 := blk_cell hF (i := 1) rfl
      have hF2 := blk_cell hF (i := 2) rfl
      have hF3 := blk_cell hF (i := 3) rfl
      have r0 := blk_cell hR (i := 0) rfl
      have r1 := blk_cell hR (i := 1) rfl
      have r2 := blk_cell hR (i := 2) rfl
      have r3 := blk_cell hR (i := 3) rfl
      have f0 : wo.frozen? ⟨w.heap.size + 1, 0, none⟩ = false := blk_free hR
      have f1 : wo.frozen? ⟨w.heap.size + 1, 1, none⟩ = false := blk_free hR
      have f2 : wo.frozen? ⟨w.heap.size + 1, 2, none⟩ = false := blk_free hR
      have f3 : wo.frozen? ⟨w.heap.size + 1, 3, none⟩ = false := blk_free hR
      have hfin : ((((wo.setCell ⟨w.heap.size + 1, 0, none⟩ (.int .i64 g.terms)).setCell ⟨w.heap.size + 1, 1, none⟩ (.int .i64 g.nons)).setCell ⟨w.heap.size + 1, 2, none⟩ (.int .i64 g.start)).setCell ⟨w.heap.size + 1, 3, none⟩ (.slice Av g.rules.length cv)).heap[w.heap.size + 1]? = some (.cells #[.int .i64 g.terms, .int .i64 g.nons, .int .i64 g.start, .slice Av g.rules.length cv] 25 (0, 0)) := by
        rw [heap_set (heap_set (heap_set (heap_set hR _ _) _ _) _ _)]; rfl
      have hbl : Below w.heap.size w ((((wo.setCell ⟨w.heap.size + 1, 0, none⟩ (.int .i64 g.terms)).setCell ⟨w.heap.size + 1, 1, none⟩ (.int .i64 g.nons)).setCell ⟨w.heap.size + 1, 2, none⟩ (.int .i64 g.start)).setCell ⟨w.heap.size + 1, 3, none⟩ (.slice Av g.rules.length cv)) :=
        (((hb.setCell (p := ⟨w.heap.size + 1, 0, none⟩) (show w.heap.size ≤ w.heap.size + 1 by omega) _).setCell (p := ⟨w.heap.size + 1, 1, none⟩) (show w.heap.size ≤ w.heap.size + 1 by omega) _).setCell (p := ⟨w.heap.size + 1, 2, none⟩) (show w.heap.size ≤ w.heap.size + 1 by omega) _).setCell (p := ⟨w.heap.size + 1, 3, none⟩) (show w.heap.size ≤ w.heap.size + 1 by omega) _
      have hsl : IsSl Elt.rule (fun b => w.heap.size ≤ b) ((((wo.setCell ⟨w.heap.size + 1, 0, none⟩ (.int .i64 g.terms)).setCell ⟨w.heap.size + 1, 1, none⟩ (.int .i64 g.nons)).setCell ⟨w.heap.size + 1, 2, none⟩ (.int .i64 g.start)).setCell ⟨w.heap.size + 1, 3, none⟩ (.slice Av g.rules.length cv)) (.slice Av g.rules.length cv) g.rules :=
        (hO.isSl.keep (fun j hj => by rw [heap_set_ne (by omega), heap_set_ne (by omega), heap_set_ne (by omega), heap_set_ne (by omega)]) (by simp only [size_setCell]; exact Nat.le_refl _)).weak (fun j hj => by omega)
      have hcap := hO.cap
      have hown := (((hO.setCell (b := w.heap.size + 1) (i := 0) (u := .int .i64 g.terms) (by omega)).setCell (b := w.heap.size + 1) (i := 1) (u := .int .i64 g.nons) (by omega)).setCell (b := w.heap.size + 1) (i := 2) (u := .int .i64 g.start) (by omega)).setCell (b := w.heap.size + 1) (i := 3) (u := .slice Av g.rules.length cv) (by omega)
      go_wp2_with fail
      first
        | refine bodyPost_ret (results_cell rfl rfl (run_loadVar_row _ (w.heap.size + 1) 25 25 #[.int .i64 g.terms, .int .i64 g.nons, .int .i64 g.start, .slice Av g.rules.length cv] (0, 0) _ hfin Try.underlying25 rfl (by kernel_rfl))) rfl ?_
        | refine bodyPost_end (results_cell rfl rfl (run_loadVar_row _ (w.heap.size + 1) 25 25 #[.int .i64 g.terms, .int .i64 g.nons, .int .i64 g.start, .slice Av g.rules.length cv] (0, 0) _ hfin Try.underlying25 rfl (by kernel_rfl))) rfl ?_
        | trace_state
      exact ⟨Av, cv, rfl, hbl, hcap, hsl, _, hown, hD⟩

theorem copyOf_own (F : Nat → Prop) (g : Gram) (A0 : Option Addr) (c : Nat) (w : World) (hr : IsSl Elt.rule F w (.slice A0 g.rules.length c) g.rules) (hv : Valid g) :
    Calls Try.prog 39 #[gramV g (.slice A0 g.rules.length c)] w fun e w' => ∃ A' c', e = .returned (gramV g (.slice A' g.rules.length c')) ∧ Below w.heap.size w w' ∧ g.rules.length ≤ c' ∧ IsSl Elt.rule (fun b => w.heap.size ≤ b) w' (.slice A' g.rules.length c') g.rules ∧ ∃ xs, OwnRules w' (w.heap.size + 3) (.slice A' g.rules.length c') g.rules xs :=
  (copyOf_dist F g A0 c w hr hv).mono fun _ _ ⟨A', c', h1, h2, h3, h4, xs, h5, _⟩ => ⟨A', c', h1, h2, h3, h4, xs, h5⟩
theorem copyOf_any (F : Nat → Prop) (g : Gram) (A0 : Option Addr) (c : Nat) (w : World) (hr : IsSl Elt.rule F w (.slice A0 g.rules.length c) g.rules) (hv : Valid g) :
    Calls Try.prog 39 #[gramV g (.slice A0 g.rules.length c)] w fun e w' => ∃ A' c', e = .returned (gramV g (.slice A' g.rules.length c')) ∧ Below w.heap.size w w' ∧ g.rules.length ≤ c' ∧ IsSl Elt.rule (fun b => w.heap.size ≤ b) w' (.slice A' g.rules.length c') g.rules :=
  (copyOf_own F g A0 c w hr hv).mono fun _ _ ⟨A', c', h1, h2, h3, h4, _⟩ => ⟨A', c', h1, h2, h3, h4⟩
end Go.Proofs.Ytdbkbkopcnkgcaa
