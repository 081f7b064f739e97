import Derived.Test.YtcndbohiiodndaaFeedH
import Derived.Test.YtcndbohiiodndaaMakeW
open Go Go.RowKit
open Go.ChangeMaps (setBlock)
namespace Go.Proofs.Ytcndbohiiodndaa

theorem clo_congr {g : Gram} {gd : List Bool} {S S' : Nat → Item → Prop} {k : Nat} {base : Item → Prop} (h : ∀ j, j ≠ k → S j = S' j) (z : Item) (hz : Clo g gd S k base z) : Clo g gd S' k base z := by
  induction hz with
  | base z h => exact .base z h
  | pred x r n m r' _ hr hn h1 h2 h3 ih => exact .pred x r n m r' ih hr hn h1 h2 h3
  | old x r m e h' r' _ hr hd hk h1 h2 h3 ih => exact .old x r m e h' r' ih hr hd hk (by rw [← h _ hk]; exact h1) h2 h3
  | own x r m e h' r' _ hr hd hk _ h2 h3 ih ih2 => exact .own x r m e h' r' ih hr hd hk ih2 h2 h3
theorem upd_clo (g : Gram) (gd : List Bool) (S : Nat → Item → Prop) (k : Nat) (T : Item → Prop) : updS (updS S k T) k (Clo g gd (updS S k T) k (updS S k T k)) = updS S k (Clo g gd S k T) := by
  funext j
  by_cases e : j = k
  · subst e
    rw [updS_same, updS_same, updS_same]
    funext z
    exact propext ⟨clo_congr (fun i hi => updS_other _ _ _ hi) z, clo_congr (fun i hi => (updS_other _ _ _ hi).symm) z⟩
  · rw [updS_other _ _ _ e, updS_other _ _ _ e, updS_other _ _ _ e]

/-- the items of the start -/
def Init (g : Gram) (gd : List Bool) (z : Item) : Prop := ∃ r, g.rules[z.1]? = some r ∧ r.l = g.start ∧ gd[z.1]? = some true ∧ z.2.1 = 0 ∧ z.2.2 = 0

/-- the items that a terminal leads to -/
def Scan (g : Gram) (T : Item → Prop) (t : Int) (z : Item) : Prop := ∃ m e h r, T (m, e, h) ∧ g.rules[m]? = some r ∧ r.r[e]? = some ⟨true, t⟩ ∧ z = (m, e + 1, h)

theorem Try.infoItemMap : (Try.prog.info? 112).map (fun i => (i.zero, i.size, i.bytes)) = some (some (.map none), 1, 8) := by kernel_rfl

theorem mem_aput (l : List (Item × Bool)) (z y : Item) : y ∈ (aput l z true).map (·.1) ↔ y = z ∨ y ∈ l.map (·.1) := by
  by_cases h : z ∈ l.map (·.1)
  · rw [aput_keys_old h]
    constructor
    · exact .inr
    · rintro (rfl | h2)
      · exact h
      · exact h2
  · rw [aput_new h]; simp [or_comm]
theorem aput_true (l : List (Item × Bool)) (h : ∀ p ∈ l, p.2 = true) (z : Item) : ∀ p ∈ aput l z true, p.2 = true := by
  induction l with
  | nil => intro p hp; simp [aput] at hp; rw [hp]
  | cons a l ih =>
    obtain ⟨a1, a2⟩ := a
    intro p hp
    unfold aput at hp
    split at hp
    · rcases List.mem_cons.1 hp with rfl | hp
      · rfl
      · exact h p (List.mem_cons_of_mem _ hp)
    · rcases List.mem_cons.1 hp with rfl | hp
      · exact h _ (List.mem_cons_self ..)
      · exact ih (fun q hq => h q (List.mem_cons_of_mem _ hq)) p hp
theorem aput_len (l : List (Item × Bool)) (z : Item) : (aput l z true).length ≤ l.length + 1 := by
  induction l with
  | nil => simp [aput]
  | cons a l ih =>
    obtain ⟨a1, a2⟩ := a
    unfold aput
    split <;> simp; omega

section
variable {D : Nat → Prop} {bf lim : Nat} {g : Gram} {gd : List Bool} {x : List Int} {S : Nat → Item → Prop} {A : Option Addr} {cr : Nat} {B : Option Addr} {cg : Nat} {C : Option Addr} {cw : Nat} {E : Option Addr} {cs : Nat} {rs : List Nat}

/-- what Put leaves when the terminal is taken -/
def Taken (D : Nat → Prop) (w w' : World) (bf lim : Nat) (g : Gram) (gd : List Bool) (x : List Int) (S : Nat → Item → Prop) (A : Option Addr) (cr : Nat) (B : Option Addr) (cg : Nat) (t : Int) : Prop :=
  Away w.heap.size (fun b => b = bf ∨ (lim ≤ b ∧ D b)) w w' ∧ ∃ C' cw' E' cs' rs', FeedAt (fun b => D b ∨ w.heap.size ≤ b) w' bf lim g gd (x ++ [t]) (updS S (x.length + 1) (Clo g gd S (x.length + 1) (Scan g (S x.length) t))) A cr B cg C' cw' E' cs' rs'

set_option maxRecDepth 100000 in
set_option maxHeartbeats 1600000 in
theorem put_any (t : Nat) (w : World) (h : FeedAt D w bf lim g gd x S A cr B cg C cw E cs rs) (hv : Valid g) (hx : x.length < 12) (ht : (t : Int) < g.terms) :
    Calls Try.prog 22 #[.pointer (some ⟨bf, 0, none⟩), .int .i64 t] w fun e w' => (¬ NextT g (S x.length) t ∧ e = .returned (.int .i64 10) ∧ Below w.heap.size w w') ∨ (NextT g (S x.length) t ∧ e = .returned (.int .i64 0) ∧ Taken D w w' bf lim g gd x S A cr B cg t) := by
  obtain ⟨T, hT⟩ : ∃ T : Nat, g.terms = T := ⟨g.terms.toNat, by have := hv.t1; omega⟩
  have hT8 : T ≤ 8 := by have := hv.t8; omega
  have h32 := hv.len
  have h4 : ∀ r ∈ g.rules, r.r.length ≤ 4 := fun r hr => (hv.ok r hr).len
  have hc0 := blk_cell h.blk (i := 0) rfl
  rw [hT] at hc0 ht
  have hc5 := blk_cell h.blk (i := 5) rfl
  have hbl := blk_lt h.blk
  have ht1 : decide ((t : Int) < 0) = false := by simp
  have ht2 : decide ((T : Int) ≤ (t : Int)) = false := by simp; omega
  have hx12 : ((x.length : Int) == 12) = false := by rw [beq_eq_false_iff_ne]; omega
  have HT := Lib.hid hT
  clear hT
  go_enter Try.func22, Try.ntmps22
  go_wp2_with fail
  refine (next_any w h hv (by omega)).mono ?_
  rintro e1 w1 ⟨bo, o, rfl, hout, hb1, hbo, hoc⟩
  have hol := hout.len
  rw [HT.out] at hol
  have htl : t < o.length := by omega
  have hocell := blk_cell (i := t) hoc (v := .bool o[t]) (by simp [htl])
  have htz : (t : Int) < (o.length : Int) := by omega
  have hterm := hout.term t (by rw [HT.out]; exact ht)
  rw [List.getElem?_eq_getElem htl] at hterm
  have HTERM := Lib.hid hterm
  clear hterm hoc hout hbo
  have HOL := Lib.hid hol
  clear hol
  generalize o[t] = ot at hocell HTERM
  cases ot
  · go_wp2
    go_ret
    exact .inl ⟨fun hn => (by have := HTERM.out.2 hn; cases this), rfl, hb1⟩
  · have hmm : (Instr.makeMap 112 none).run Try.prog w1 = .ok (.map (some w1.heap.size)) (w1.alloc (.map #[] 0)) := rfl
    go_wp2_with fail
    clear hmm hocell
    have hk : x.length < rs.length := by have := h.len; omega
    have hkz : (x.length : Int) < (rs.length : Int) := by omega
    have hs1 := hb1.size
    have hbf1 : bf < w1.heap.size := by omega
    have hb2 : Below w.heap.size w (w1.alloc (.map #[] 0)) := hb1.trans ((Below.refl _ _).alloc hb1.size _)
    have hM2 : SetIs (w1.alloc (.map #[] 0)) w1.heap.size (fun _ => False) := ⟨[], IsMap.new _ _ w1, by simp, by simp⟩
    have hsz2 : (w1.alloc (.map #[] 0)).heap.size = w1.heap.size + 1 := World.size_alloc _ _
    obtain ⟨eb, rfl, hebl, hec⟩ := h.setAt x.length hk
    obtain ⟨⟨lm, hmap, htrue, hmem⟩, hD, hlimr⟩ := h.maps x.length hk
    have hc3 := blk_cell h.blk (i := 3) rfl
    have hc6 := blk_cell h.blk (i := 6) rfl
    obtain ⟨nl0, hnm0, hnt0, hnk0⟩ := hM2
    generalize hW2 : w1.alloc (.map #[] 0) = W2 at hb2 hsz2 hnm0 ⊢
    generalize hMd : w1.heap.size = M at hsz2 hs1 hbf1 hnm0 ⊢
    clear hW2 hMd
    have hc5w := (hb2.cell (p := ⟨bf, 5, none⟩) hbl).trans hc5
    have hc6w := (hb2.cell (p := ⟨bf, 6, none⟩) hbl).trans hc6
    have hecw := (hb2.cell (p := ⟨eb, x.length, none⟩) hebl).trans hec
    have hbf2 : bf < W2.heap.size := by omega
    have heb2 : eb < W2.heap.size := by omega
    have HS2 := Lib.hid hsz2
    obtain ⟨o2, hrun0, hit⟩ := run_rangeM (P := Try.prog) (w := W2.drew) Try.underlying112 (hmap.same (w' := W2.drew) (hb2.block _ hmap.lt))
    have hrun : (Instr.range 112 (.map (some rs[x.length]))).run Try.prog W2.drew = .ok (.pointer (some ⟨W2.heap.size, 0, none⟩)) (W2.alloc o2).drew := hrun0
    have hit0 : Iter itemV Value.bool (W2.alloc o2).drew W2.heap.size rs[x.length] lm (lm.map (·.1)) [] := hit.same rfl rfl
    clear hsz2
    go_region
    clear hrun hrun0 hit hc5w hc6w hecw
    go_wp2
    have hbS : Below w.heap.size w ((W2.alloc o2).drew) := (hb2.alloc hb2.size _).drew
    have hnmS : IsMap itemV Value.bool ((W2.alloc o2).drew) M nl0 := hnm0.same (Below.heap_alloc _ _ _ hnm0.lt)
    have hMlt : M < W2.heap.size := hnm0.lt
    have hszS : W2.heap.size < ((W2.alloc o2).drew).heap.size := by
      have : ((W2.alloc o2).drew).heap.size = W2.heap.size + 1 := World.size_alloc _ _
      omega
    have hnl0 : nl0 = [] := by
      cases nl0 with
      | nil => rfl
      | cons a l => exact ((hnk0 a.1).1 (by simp)).elim
    subst hnl0
    go_loopg [75] 2080 (fun gk _v wr => ∃ (done : List Item) (nl : List (Item × Bool)), gk = 2080 - done.length ∧ Below w.heap.size w wr ∧ W2.heap.size < wr.heap.size ∧ IsMap itemV Value.bool wr M nl ∧ (∀ p ∈ nl, p.2 = true) ∧ (∀ z, z ∈ nl.map (·.1) ↔ Scan g (fun z => z ∈ done) t z) ∧ Iter itemV Value.bool wr W2.heap.size rs[x.length] lm (lm.map (·.1)) done)
    case atStart => exact ⟨[], [], rfl, hbS, hszS, hnmS, by simp, fun z => ⟨fun h => (by cases h), fun ⟨m, e, h, r, k, _⟩ => (by cases k)⟩, hit0⟩
    case round =>
      clear hbS hnmS hit0 hszS hnm0 hnt0 hnk0 hb2
      obtain ⟨done, nl, rfl, hbw, hszw, hnm, hnt, hnk, hit⟩ := hrel
      rcases hit.next (P := Try.prog) itemV_inj 0 with ⟨nn, hdone, hnx⟩ | ⟨nn, z, zv, o3, hzk, hzd, hzm, hnx, hit2, hent⟩
      · have hF := h.below (below_drewN hbw nn)
        have hbW := below_drewN hbw nn
        have hMW : SetIs (wr.drewN nn) M (Scan g (S x.length) t) := ⟨nl, hnm.same rfl, hnt, fun z => (hnk z).trans ⟨fun ⟨m, e, h', r, k1, k2⟩ => ⟨m, e, h', r, (hmem _).1 (by
          obtain ⟨es, clock, since, seen, last, _, _, _, _, _, _, _, hnd, hsub⟩ := hit
          exact hsub _ k1), k2⟩, fun ⟨m, e, h', r, k1, k2⟩ => ⟨m, e, h', r, hdone _ ((hmem _).2 k1), k2⟩⟩⟩
        have hsc : ∀ y, Scan g (S x.length) t y → OkItem g (x.length + 1) y := by
          rintro y ⟨m, e, h', r, k1, k2, k3, rfl⟩
          obtain ⟨r2, k4, k5, k6⟩ := h.ok _ _ (Nat.le_refl _) k1
          simp only at k4 k5 k6
          exact ⟨r, k2, (List.getElem?_eq_some_iff.1 k3).1, by simp only; omega⟩
        have hnx2 : NextT g (S x.length) t := by simpa using HTERM.out
        obtain ⟨ii, hi, hz0, hz1, hz2⟩ := info_parts Try.infoIntT
        obtain ⟨ij, hj, hy0, hy1, hy2⟩ := info_parts Try.infoItemMap
        generalize hW3 : wr.drewN nn = W3 at hnx hF hbW hMW
        have hc5w := blk_cell hF.blk (i := 5) rfl
        have hbf3 := blk_lt hF.blk
        have hle3 := hF.le
        clear hit hnm hnk hc3 hc6 hec hmap hmem h4 hW3 hbw
        go_wp2_with (first | (at_builtin; refine wpList_append_own_at _ rfl (.tmp 89) (.tmp 91) 22 rfl lim 3 ii (.int .i64 0) 1 8 Try.underlying22 hi hz0 hz1 hz2 rfl (by decide) _ x.length (x.map (Value.int .i64)) rfl ?ho ⟨W3.heap.size, 0, none⟩ 1 1 [.int .i64 t] rfl rfl ?c1 ?c2 ?c3 ?c4 ?c5 ?_))
        case ho => exact hF.word.alloc _
        case c2 => rfl
        case c3 => unfold maxLen; omega
        case c4 => omega
        case c5 => omega
        intro v' w4 hown' hgrow _ hat
        obtain ⟨C', cw', rfl⟩ := own_form hown'
        have hk5 := hF.blk1 hgrow
        have hH := FeedAt.half h hF hbW hMW hs1 hown' hgrow hat
        have hc55 := blk_cell hk5 (i := 5) rfl
        have hf55 : w4.frozen? ⟨bf, 5, none⟩ = false := blk_free hk5
        have hc66 := blk_cell hH.blk (i := 6) rfl
        have hle4 := hH.away.size
        have hlim4 := Nat.le_trans h.le hle4
        go_wp2_with (first | (at_builtin; refine wpList_append_own_at _ rfl (.tmp 99) (.tmp 101) 108 rfl lim 112 ij (.map none) 1 8 Try.underlying108 hj hy0 hy1 hy2 rfl (by decide) _ rs.length (rs.map fun r => Value.map (some r)) rfl ?ho2 ⟨w4.heap.size, 0, none⟩ 1 1 [.map (some M)] rfl rfl ?d1 ?d2 ?d3 ?d4 ?d5 ?_))
        case d1 => intro j u hju; exact cells_new' (by rw [size_setCell]) _ _ _ _ hju
        case d2 => intro u hu; simp only [List.mem_singleton] at hu; rw [hu]; rfl
        case d3 => have := h.len; unfold maxLen; omega
        case d4 => have := h.len; omega
        case d5 => rw [World.size_alloc]; omega
        case ho2 => exact hH.sets.alloc _
        intro u w5 hown2 hgrow2 _ hat2
        obtain ⟨E', cs', rfl⟩ := own_form hown2
        have hk6 := hH.blk1 h hgrow2
        obtain ⟨haw, C2, cw2, E2, cs2, he1, he2, hfin⟩ := hH.full h hown2 hgrow2 (by rw [size_setCell]; exact hat2) hsc
        have hc61 := blk_cell hk6 (i := 6) rfl
        have hf61 : w5.frozen? ⟨bf, 6, none⟩ = false := blk_free hk6
        injection he1 with he11 he12 he13
        injection he2 with he21 he22 he23
        subst he11
        subst he13
        subst he21
        subst he23
        clear hc5w hc55 hf55 hc66 hk5 hown' hgrow hat hown2 hgrow2 hat2 he12 he22 hF hbW
        have hc57 := blk_cell hfin.blk (i := 5) rfl
        rw [show (x ++ [(t : Int)]).length = x.length + 1 by simp] at hc57
        go_wp2_with fail
        have hl1 : (x ++ [(t : Int)]).length = x.length + 1 := by simp
        have hl2 : (rs ++ [M]).length = rs.length + 1 := by simp
        have hlen := h.len
        have hcc := complete_any (x.length + 1) _ hfin (by omega) h32 (fun r hr => (hv.ok r hr).len) (by omega)
        have hcast : ((x.length + 1 : Nat) : Int) = (x.length : Int) + 1 := by simp
        rw [hcast] at hcc
        refine hcc.mono ?_
        rintro e6 w6 ⟨rfl, hg6, hF6⟩
        go_wp2
        go_ret
        refine .inr ⟨hnx2, rfl, haw.trans (Away.grown hg6 haw.size fun k hk => ?_), C', cw', E', cs', rs ++ [M], ?_⟩
        · injection hk with hk
          have e2 : (rs ++ [M])[x.length + 1] = M := by simp [← hlen]
          rw [e2] at hk
          subst hk
          exact .inr hH.lt
        · rw [← upd_clo]; exact hF6
      · have hdn : done.length + 1 ≤ 2080 := by
          have h1 := items_bound (g := g) (m := x.length) (l := z :: done) ?_ ?_ h32 h4 (by omega)
          · simpa using h1
          · obtain ⟨es, clock, since, seen, last, _, _, _, _, _, _, _, hnd, hsub⟩ := hit2
            exact hnd
          · intro y hy
            obtain ⟨es, clock, since, seen, last, _, _, _, _, _, _, _, hnd, hsub⟩ := hit2
            exact h.ok x.length y (Nat.le_refl _) ((hmem y).1 (hsub y hy))
        have hbW : Below w.heap.size w (setBlock (wr.drewN nn) W2.heap.size o3) := below_setBlock (below_drewN hbw _) (by have := HS2.out; omega) _
        have hnmW : IsMap itemV Value.bool (setBlock (wr.drewN nn) W2.heap.size o3) M nl := hnm.same (setBlock_other _ _ _ (by omega))
        have hsW : (setBlock (wr.drewN nn) W2.heap.size o3).heap.size = wr.heap.size := setBlock_size _ _ _
        generalize setBlock (wr.drewN nn) W2.heap.size o3 = W1 at hnx hit2 hent hbW hnmW hsW
        clear hit hbw hnm
        obtain ⟨m, e, h'⟩ := z
        obtain ⟨r, hm, he4, hh'⟩ := h.ok x.length _ (Nat.le_refl _) ((hmem _).1 hzk)
        simp only at hm he4 hh'
        obtain ⟨hm1, hm2⟩ := List.getElem?_eq_some_iff.1 hm
        obtain ⟨b5, o5, rfl, hF5, hl5, hc11, A5, c5, hc12, hsy5⟩ := (h.rules.below hbW).ruleAt m hm1
        rw [hm2] at hc11 hc12 hsy5
        have hok := hv.ok r (List.mem_of_getElem? hm)
        have hrl : r.r.length ≤ 4 := hok.len
        have hc3r := (hbW.cell (p := ⟨bf, 3, none⟩) hbl).trans hc3
        have hmz : (m : Int) < (g.rules.length : Int) := by omega
        unfold itemV at hnx hent
        have hbf3 : bf < W1.heap.size := by omega
        have hb5 : b5 < W1.heap.size := by omega
        have HSW := Lib.hid hsW
        have HSZ := Lib.hid hszw
        clear hsW hszw
        have hnone : (∀ r', g.rules[m]? = some r' → r'.r[e]? ≠ some ⟨true, t⟩) → ∀ z, z ∈ nl.map (·.1) ↔ Scan g (fun z => z ∈ (m, e, h') :: done) t z := fun hno z => by
          rw [hnk]
          constructor
          · rintro ⟨m1, e1, h1, r1, k1, k2⟩; exact ⟨m1, e1, h1, r1, List.mem_cons_of_mem _ k1, k2⟩
          · rintro ⟨m1, e1, h1, r1, k1, k2, k3, k4⟩
            rcases List.mem_cons.1 k1 with k1 | k1
            · simp only [Prod.mk.injEq] at k1
              obtain ⟨rfl, rfl, rfl⟩ := k1
              exact absurd k3 (hno r1 k2)
            · exact ⟨m1, e1, h1, r1, k1, k2, k3, k4⟩
        go_wp2_with fail
        have hit3 := hit2.below (w' := W1.alloc (.cells #[.int .i64 m, .int .i64 e, .int .i64 h'] 114)) ((Below.refl _ _).alloc (Nat.le_refl _) _)
        have hnm3 := hnmW.below (w' := W1.alloc (.cells #[.int .i64 m, .int .i64 e, .int .i64 h'] 114)) ((Below.refl _ _).alloc (Nat.le_refl _) _)
        have hbW3 : Below w.heap.size w (W1.alloc (.cells #[.int .i64 m, .int .i64 e, .int .i64 h'] 114)) := hbW.alloc hbW.size _
        have hs3 : W2.heap.size < (W1.alloc (.cells #[.int .i64 m, .int .i64 e, .int .i64 h'] 114)).heap.size := by have := HSW.out; have := HSZ.out; rw [World.size_alloc]; omega
        by_cases hee : e < r.r.length
        · obtain ⟨b6, o6, rfl, hF6, hl6, hc13, hc14⟩ := hsy5.symAt e hee
          have hez : (e : Int) < (r.r.length : Int) := by omega
          have hsome := List.getElem?_eq_getElem hee
          have HSM := Lib.hid hsome
          clear hsome
          generalize hye : r.r[e] = ye at hc13 hc14 HSM
          clear hye
          obtain ⟨yt, yn⟩ := ye
          have hb6 : b6 < W1.heap.size := by omega
          cases yt
          · have hno := hnone (fun r' k1 => by
              rw [hm] at k1; injection k1 with k1; subst k1
              rw [HSM.out]; intro k2; injection k2 with k2; injection k2 with k2; cases k2)
            clear hnone hnk
            go_quiet (fail)
            go_wp2_with fail
            go_roundg (2080 - (done.length + 1))
            case measure => omega
            case rel => exact ⟨(m, e, h') :: done, nl, by simp, below_drewN hbW3 _, hs3, hnm3.same rfl, hnt, hno, hit3.same rfl rfl⟩
          · by_cases hyt : yn = (t : Int)
            · have hyt2 : (yn == (t : Int)) = true := by simp [hyt]
              have HYT := Lib.hid hyt
              clear hyt hnone
              have he5 : e ≤ 4 := by omega
              go_quiet (fail)
              obtain ⟨o7, hput0, hnm7⟩ := (hnm3.same (w' := (W1.alloc (.cells #[.int .i64 m, .int .i64 e, .int .i64 h'] 114)).drewN nq) rfl).put (P := Try.prog) Try.itemKey Try.underlying112 (m, e + 1, h') true
              have hput : (Instr.mapUpdate 112 (.map (some M)) (.agg #[.int .i64 m, .int .i64 ((e : Int) + 1), .int .i64 h']) (.bool true)).run Try.prog ((W1.alloc (.cells #[.int .i64 m, .int .i64 e, .int .i64 h'] 114)).drewN nq) = .ok () (setBlock ((W1.alloc (.cells #[.int .i64 m, .int .i64 e, .int .i64 h'] 114)).drewN nq) M o7) := hput0
              clear hput0
              go_wp2_with fail
              go_roundg (2080 - (done.length + 1))
              case measure => omega
              case rel =>
                refine ⟨(m, e, h') :: done, aput nl (m, e + 1, h') true, by simp, below_setBlock (below_drewN hbW3 _) hs1 _, by rw [setBlock_size]; exact hs3, hnm7, aput_true _ hnt _, fun z => ?_, ?_⟩
                · rw [mem_aput, hnk]
                  constructor
                  · rintro (rfl | ⟨m1, e1, h1, r1, k1, k2⟩)
                    · exact ⟨m, e, h', r, List.mem_cons_self .., hm, by rw [HSM.out, HYT.out], rfl⟩
                    · exact ⟨m1, e1, h1, r1, List.mem_cons_of_mem _ k1, k2⟩
                  · rintro ⟨m1, e1, h1, r1, k1, k2, k3, rfl⟩
                    rcases List.mem_cons.1 k1 with k1 | k1
                    · simp only [Prod.mk.injEq] at k1
                      obtain ⟨rfl, rfl, rfl⟩ := k1
                      exact .inl rfl
                    · exact .inr ⟨m1, e1, h1, r1, k1, k2, k3, rfl⟩
                · refine hit3.same (setBlock_other _ _ _ ?_) (setBlock_other _ _ _ ?_)
                  · have := hmap.lt; omega
                  · omega
            · have hyt2 : (yn == (t : Int)) = false := by simp [hyt]
              have hno := hnone (fun r' k1 => by
                rw [hm] at k1; injection k1 with k1; subst k1
                rw [HSM.out]; intro k2; injection k2 with k2; injection k2 with _ k2; exact hyt k2)
              clear hnone hnk hyt
              go_quiet (fail)
              go_wp2_with fail
              go_roundg (2080 - (done.length + 1))
              case measure => omega
              case rel => exact ⟨(m, e, h') :: done, nl, by simp, below_drewN hbW3 _, hs3, hnm3.same rfl, hnt, hno, hit3.same rfl rfl⟩
        · have hed : decide ((e : Int) < (r.r.length : Int)) = false := by simp; omega
          have hno := hnone (fun r' k1 => by
            rw [hm] at k1; injection k1 with k1; subst k1
            rw [List.getElem?_eq_none (by omega)]; intro k2; cases k2)
          clear hnone hnk
          go_quiet (fail)
          go_wp2_with fail
          go_roundg (2080 - (done.length + 1))
          case measure => omega
          case rel => exact ⟨(m, e, h') :: done, nl, by simp, below_drewN hbW3 _, hs3, hnm3.same rfl, hnt, hno, hit3.same rfl rfl⟩
end
end Go.Proofs.Ytcndbohiiodndaa
