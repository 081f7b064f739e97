import Derived.Test.YtdbkbkopcnkgcaaGreatTreeG
open Go Go.RowKit
open Go.ChangeMaps (setBlock)
namespace Go.Proofs.YtdbkbkopcnkgcaaGreat

/-! ### best.reach -/
theorem Tryz.infoMpart : (Tryz.prog.info? 78).map (fun i => (i.zero, i.size, i.bytes)) = some (some (.agg #[.int .i64 0, .int .i64 0, .int .i64 0]), 3, 24) := by kernel_rfl
def mpC (y : MPart) : List Value := [.int .i64 y.n, .int .i64 y.i, .int .i64 y.j]
def nilAll (s : List MPart) : List (MPart × Hd) := s.map fun y => (y, ⟨none, 0, 0⟩)
theorem nilAll_look (s : List MPart) (y : MPart) : alook (nilAll s) y = if y ∈ s then some ⟨none, 0, 0⟩ else none := by
  induction s with
  | nil => rfl
  | cons z s ih =>
    unfold nilAll alook
    simp only [List.map_cons]
    by_cases h : z = y
    · simp [h]
    · rw [if_neg h]
      have h2 : ¬ y = z := fun e => h e.symm
      have := ih
      unfold nilAll at this
      rw [this]
      simp [h2]
theorem nilAll_put {s : List MPart} {y : MPart} (h : y ∉ s) : aput (nilAll s) y ⟨none, 0, 0⟩ = nilAll (s ++ [y]) := by
  rw [aput_new]
  · unfold nilAll; rw [List.map_append]; rfl
  · unfold nilAll
    rw [List.map_map]
    simpa [Function.comp_def] using h
theorem mpC_len : ∀ s : List MPart, (s.flatMap mpC).length = s.length * 3
  | [] => rfl
  | y :: s => by rw [List.flatMap_cons, List.length_append, mpC_len s, List.length_cons, Nat.succ_mul]; simp [mpC]; omega

structure RcAt (K : Nat → Prop) (base : Nat) (w : World) (bb be most bo : Nat) (s : List MPart) : Prop where
  map : IsMap mpartV hdR w bo (nilAll s)
  row : ∃ A c, w.heap[bb]? = some (.cells #[.pointer (some ⟨be, 0, none⟩), .int .i64 most, .map (some bo), .slice A s.length c] 83 (0, 0)) ∧ w.ownsRow base 78 3 (.slice A s.length c) s.length (s.flatMap mpC) ∧ ∀ b, (Value.slice A s.length c).ownBlock = some b → ¬ K b
  nb : ¬ K bb
  no : ¬ K bo
theorem own_keep {w w' : World} {base size n : Nat} {e : TypeId} {v : Value} {xs : List Value} (h : w.ownsRow base e size v n xs) (hrow : ∀ b, v.ownBlock = some b → w'.heap[b]? = w.heap[b]?) : w'.ownsRow base e size v n xs := by
  refine ⟨h.1, ?_⟩
  rcases h.2 with h2 | ⟨g, cap, cur, hv, h3, h4, h5⟩
  · exact .inl h2
  · exact .inr ⟨g, cap, cur, hv, h3, (hrow g (by rw [hv]; rfl)).trans h4, h5⟩
section
variable {K : Nat → Prop} {base : Nat} {w w' : World} {bb be most bo : Nat} {s : List MPart}
theorem RcAt.keeps (h : RcAt K base w bb be most bo s) (hk : ∀ b, ¬ K b → b < w.heap.size → w'.heap[b]? = w.heap[b]?) : RcAt K base w' bb be most bo s := by
  obtain ⟨A, c, h1, h2, h3⟩ := h.row
  exact ⟨h.map.same (hk bo h.no h.map.lt), ⟨A, c, (hk bb h.nb (blk_lt h1)).trans h1, own_keep h2 fun b hb => hk b (h3 b hb) (h2.lt b hb).2, h3⟩, h.nb, h.no⟩
theorem RcAt.below (h : RcAt K base w bb be most bo s) (hb : Below w.heap.size w w') : RcAt K base w' bb be most bo s := h.keeps fun b _ hl => hb.block b hl
theorem RcAt.poke {b i : Nat} {v : Value} (h : RcAt K base w bb be most bo s) (hK : K b) : RcAt K base (w.setCell ⟨b, i, none⟩ v) bb be most bo s := h.keeps fun b' hb' _ => heap_set_ne (fun e => hb' (by rw [e]; exact hK)) _ _
theorem RcAt.less {K' : Nat → Prop} (h : RcAt K base w bb be most bo s) (hk : ∀ b, K' b → b < w.heap.size → K b) : RcAt K' base w bb be most bo s := by
  obtain ⟨A, c, h1, h2, h3⟩ := h.row
  exact ⟨h.map, ⟨A, c, h1, h2, fun b hb e => h3 b hb (hk b e (h2.lt b hb).2)⟩, fun e => h.nb (hk bb e (blk_lt h1)), fun e => h.no (hk bo e h.map.lt)⟩
end

theorem parts_few {g : Gram} {x : List Int} (hv : Valid g) (hx : x.length ≤ 12) : (partsM g x).length ≤ 1690 := by
  have h1 : (partsM g x).length = g.nons.toNat * ((x.length + 1) * (x.length + 1)) := by
    unfold partsM
    simp [List.length_flatMap, List.map_const', List.sum_replicate_nat]
  rw [h1]
  have h2 : g.nons.toNat ≤ 10 := by have := hv.n10; omega
  have h3 : (x.length + 1) * (x.length + 1) ≤ 13 * 13 := Nat.mul_le_mul (by omega) (by omega)
  exact Nat.mul_le_mul h2 h3
/-- what is asked of reach at the fuel that is left -/
def ReachH (Fe : Nat → Prop) (base bb be most bo : Nat) (g : Gram) (x : List Int) (M : List (List Nat)) (A : Option Addr) (n c : Nat) (B : Option Addr) (m d : Nat) (C : Option Addr) (p q : Nat) (F : MPart → List MPart → List MPart) (lim : Nat) : Prop :=
  ∀ (K : Nat → Prop) (y : MPart) (s : List MPart) (W : World), OkMP g x y → RchOk g x s → lim ≤ s.length → (∀ b, Fe b → K b) → (∀ b, K b → b < W.heap.size) → base ≤ W.heap.size → IsEnds Fe W be g x M A n c B m d C p q → RcAt K base W bb be most bo s →
    Calls Tryz.prog 25 #[.pointer (some ⟨bb, 0, none⟩), mpartV y] W fun e w' => e = .returned (.tuple #[]) ∧ RcAt K base w' bb be most bo (F y s) ∧ Away W.heap.size (fun b => ¬ K b) W w'

set_option maxRecDepth 100000 in
set_option maxHeartbeats 3200000 in
theorem rcb_any {Fe : Nat → Prop} {base bb be most bo : Nat} {g : Gram} {x : List Int} {M : List (List Nat)} {A : Option Addr} {n c : Nat} {B : Option Addr} {m d : Nat} {C : Option Addr} {p q : Nat} {F : MPart → List MPart → List MPart} {lim : Nat} {K Fs : Nat → Prop} {W : World} {bx br bp b : Nat} {y0 : MPart} {r : Rule} {R : Option Addr} {rc : Nat} {s : List MPart} {L : List Nat}
    (hR : ReachH Fe base bb be most bo g x M A n c B m d C p q F lim) (hF : GoodR2 g x F) (hv : Valid g) (hr : r ∈ g.rules) (hL : L.length = r.r.length) (hL2 : ∀ z ∈ L, z ≤ x.length) (hi : y0.i ≤ x.length)
    (hFK : ∀ b, Fe b → K b) (hKW : ∀ b, K b → b < W.heap.size) (hbW : base ≤ W.heap.size) (hends : IsEnds Fe W be g x M A n c B m d C p q) (hs : RchOk g x s) (hlim : lim ≤ s.length) (h : RcAt K base W bb be most bo s)
    (hbx : W.heap[bx]? = some (.cells #[.int .i64 y0.n, .int .i64 y0.i, .int .i64 y0.j] 78 (0, 0))) (hbr : W.heap[br]? = some (.cells #[.int .i64 r.l, .slice R r.r.length rc] 99 (0, 0))) (hbp : W.heap[bp]? = some (.cells #[.pointer (some ⟨bb, 0, none⟩)] 79 (0, 0)))
    (kp : K bp) (kb : K b) (hb : W.heap[b]? = some (.cells (L.map fun v : Nat => Value.int .i64 v).toArray 3 (0, 0))) (hsy : IsSl Elt.sym Fs W (.slice R r.r.length rc) r.r) (hFs : ∀ b, Fs b → K b) :
    Calls Tryz.prog 46 #[.slice (some ⟨b, 0, none⟩) r.r.length r.r.length, .pointer (some ⟨bx, 0, none⟩), .pointer (some ⟨br, 0, none⟩), .pointer (some ⟨bp, 0, none⟩)] W fun e w' => e = .returned (.tuple #[]) ∧ RcAt K base w' bb be most bo (rsyms F r.r L y0.i s) ∧ Away W.heap.size (fun b => ¬ K b) W w' := by
  have hr4 := (hv.ok r hr).len
  generalize hfin : rsyms F r.r L y0.i s = fin
  have hfin0 : rsyms F (r.r.drop 0) (L.drop 0) y0.i s = fin := by rw [List.drop_zero, List.drop_zero]; exact hfin
  have HFIN := Lib.hid hfin0
  clear hfin hfin0
  have HH := Lib.hid h
  have HS := Lib.hid hs
  have HE := Lib.hid hends
  clear h hs hends
  have c0 := blk_cell hbx (i := 1) rfl
  have c1 := blk_cell hbr (i := 1) rfl
  go_enter Tryz.func46, Tryz.ntmps46
  go_wp2_with fail
  clear c0 c1
  go_loopg [13, 5] r.r.length (fun gk i av wr => ∃ (j a : Nat) (s1 : List MPart), j ≤ r.r.length ∧ gk = r.r.length - j ∧ i = .int .i64 j ∧ av = .int .i64 a ∧ a ≤ x.length ∧ RchOk g x s1 ∧ lim ≤ s1.length ∧ RcAt K base wr bb be most bo s1 ∧ Away W.heap.size (fun b => ¬ K b) W wr ∧ rsyms F (r.r.drop j) (L.drop j) a s1 = fin)
  case atStart => exact ⟨0, y0.i, s, Nat.zero_le _, rfl, rfl, rfl, hi, HS.out, hlim, HH.out, Away.refl _ _ _, HFIN.out⟩
  case round =>
    obtain ⟨j, a, s1, hj, rfl, rfl, rfl, ha, hs1, hlim1, hat, haw, hfo⟩ := hrel
    obtain ⟨wo, rfl⟩ : ∃ wo : World, wo = wr := ⟨_, rfl⟩
    have hsz := haw.size
    by_cases hlt : j < r.r.length
    · have hsyo : IsSl Elt.sym (fun b => Fs b ∧ b < W.heap.size) wo (.slice R r.r.length rc) r.r := hsy.old.keep (fun b hb => haw.block b hb.2 fun e => e (hFs b hb.1)) hsz
      obtain ⟨b5, o5, hA, hF5, hl5, d0, d1⟩ := hsyo.symAt j hlt
      subst hA
      have hjL : j < L.length := by omega
      rw [List.drop_eq_getElem_cons hlt, List.drop_eq_getElem_cons hjL] at hfo
      unfold rsyms at hfo
      have hz := hL2 L[j] (List.getElem_mem hjL)
      have hbo : wo.heap[b]? = some (.cells (L.map fun v : Nat => Value.int .i64 v).toArray 3 (0, 0)) := (haw.block b (hKW b kb) fun e => e kb).trans hb
      have hLz := List.getElem?_eq_getElem hjL
      have e8 : wo.cell? ⟨b, j, none⟩ = some (.int .i64 L[j]) := blk_cell hbo (by rw [List.getElem?_toArray, List.getElem?_map, hLz]; rfl)
      have hsk := (hv.ok r hr).syms r.r[j] (List.getElem_mem hlt)
      generalize L[j] = z at hfo hz e8 hLz
      generalize r.r[j] = y at hfo d0 d1 hsk
      obtain ⟨yt, yn⟩ := y
      simp only at hfo d0 d1
      have hkz : (j : Int) < (r.r.length : Int) := by omega
      obtain ⟨W1, hW1⟩ : ∃ W1 : World, W1 = wo.alloc (.cells #[.bool yt, .int .i64 yn] 70) := ⟨_, rfl⟩
      have hbA : Below wo.heap.size wo W1 := by rw [hW1]; exact below1 wo _
      have gS : W1.heap[wo.heap.size]? = some (.cells #[.bool yt, .int .i64 yn] 70 (0, 0)) := by rw [hW1]; exact heap_alloc_new wo _
      have hat1 := hat.below hbA
      have haw1 : Away W.heap.size (fun b => ¬ K b) W W1 := haw.trans ((Away.ofBelow hbA).mono hsz fun _ _ h => h)
      have e9 : W1.cell? ⟨b, j, none⟩ = some (.int .i64 z) := cell_lift hbA e8
      cases yt
      · rw [if_neg (by decide)] at hfo
        have hyn := hsk.nn rfl
        have hok : OkMP g x ⟨yn, a, z⟩ := ⟨hsk.n0, hyn, ha, hz⟩
        have hst := hF ⟨yn, a, z⟩ s1 hok hs1
        have hbd : Below W1.heap.size W1 W1.drew := (Below.refl _ _).drew
        have haw1d := haw1.trans ((Away.ofBelow hbd).mono haw1.size fun _ _ h => h)
        have hreach := hR K ⟨yn, a, z⟩ s1 W1.drew hok hs1 hlim1 hFK (fun b hb => Nat.lt_of_lt_of_le (hKW b hb) haw1d.size) (Nat.le_trans hbW haw1d.size) (ends_keep HE.out (fun b hb hl => haw1d.block b hl fun e => e (hFK b hb)) haw1d.size) (hat1.below hbd)
        unfold mpartV at hreach
        have hptr := blk_cell ((haw1.block bp (hKW bp kp) fun e => e kp).trans hbp) (i := 0) rfl
        have hyc := blk_cell gS (i := 1) rfl
        have HFO := Lib.hid hfo
        have HRC := Lib.hid hreach
        have HST := Lib.hid hst
        clear hfo hreach hst hat hat1 hsy hsyo hok hs1 haw e8 hyn hsk hbo gS
        have HLZ := Lib.hid hLz
        clear hLz
        go_wp2_with fail
        rw [← hW1]
        clear hW1 d0 d1
        refine wp_region_any (by kernel_rfl) ?_
        change wpAny _ _ _ _ _ _ _ (World.drew _)
        refine wpAny_take (i := 1) (v := ?_) rfl (by kernel_rfl) (by kernel_rfl) (by kernel_rfl) (fun _ _ _ h => h) (Or.inl ⟨by go_simp, ?_⟩) ?_
        rotate_left
        · (intro w'; go_simp; first | done | with_reducible rfl)
        refine wpAny_take (i := 3) (v := ?_) rfl (by kernel_rfl) (by kernel_rfl) (by kernel_rfl) (fun _ _ _ h => h) (Or.inl ⟨by go_simp, ?_⟩) ?_
        rotate_left
        · (intro w'; go_simp; first | done | with_reducible rfl)
        refine wpAny_take (i := 4) (v := ?_) rfl (by kernel_rfl) (by kernel_rfl) (by kernel_rfl) (fun _ _ _ h => h) (Or.inl ⟨by go_simp, ?_⟩) ?_
        rotate_left
        · (intro w'; go_simp; first | done | with_reducible rfl)
        refine wpAny_take (i := 5) (v := ?_) rfl (by kernel_rfl) (by kernel_rfl) (by kernel_rfl) (fun _ _ _ h => h) (Or.inl ⟨by go_simp, ?_⟩) ?_
        rotate_left
        · (intro w'; go_simp; first | done | with_reducible rfl)
        refine wpAny_take (i := 6) (v := ?_) rfl (by kernel_rfl) (by kernel_rfl) (by kernel_rfl) (fun _ _ _ h => h) (Or.inl ⟨by go_simp, ?_⟩) ?_
        rotate_left
        · (intro w'; go_simp; first | done | with_reducible rfl)
        refine wpAny_of_D (S := fun w' => w' = W1.drew) (dep := 9) _ _ _ _ ?_
        refine wpAnyD_load (i := 0) (v := .pointer (some ⟨bb, 0, none⟩)) [9] rfl (by kernel_rfl) (by kernel_rfl) (by kernel_rfl) (by kernel_rfl) (by kernel_rfl) (by kernel_rfl) (by kernel_rfl) (fun _ _ _ h => h) (by go_simp) ?_ rfl ?_
        · (intro w' hS; subst hS; go_simp)
        refine wpAnyD_load (i := 2) (v := .int .i64 yn) [8, 9] rfl (by kernel_rfl) (by kernel_rfl) (by kernel_rfl) (by kernel_rfl) (by kernel_rfl) (by kernel_rfl) (by kernel_rfl) (fun _ _ _ h => h) (by go_simp) ?_ rfl ?_
        · (intro w' hS; subst hS; go_simp)
        refine wpAnyD_load (i := 7) (v := .int .i64 z) [8, 9] rfl (by kernel_rfl) (by kernel_rfl) (by kernel_rfl) (by kernel_rfl) (by kernel_rfl) (by kernel_rfl) (by kernel_rfl) (fun _ _ _ h => h) (by go_simp) ?_ rfl ?_
        · (intro w' hS; subst hS; go_simp)
        refine wpAnyD_pure (i := 8) (v := ?_) [9] rfl (by kernel_rfl) (by kernel_rfl) (by kernel_rfl) (by kernel_rfl) (by kernel_rfl) (by kernel_rfl) (by kernel_rfl) (fun _ _ _ h => h) (by go_simp) ?_ rfl ?_
        rotate_left
        · (intro w'; go_simp; first | done | with_reducible rfl)
        refine wpAnyD_each (rs := [9]) (by kernel_rfl) (by simp) ?_
        refine EachD.cons (i := 9) (o := _) rfl (fun KK hKK => ?_) EachD.nil
        simp only [List.getElem_toArray, List.getElem_cons_succ, List.getElem_cons_zero]
        refine step_call rfl 25 Tryz.f25 Tryz.func25 (by kernel_rfl) (by kernel_rfl) [.tmp 21, .tmp 29] #[79, 78] (by rfl) [.pointer (some ⟨bb, 0, none⟩), .agg #[.int .i64 yn, .int .i64 a, .int .i64 z]] (by kernel_rfl) _ HRC.out ?_
        rintro e5 w5 ⟨rfl, hat5, ha5⟩
        refine ⟨_, rfl, ?_⟩
        have haw5 : Away W.heap.size (fun b => ¬ K b) W w5 := haw1d.trans (ha5.mono haw1d.size fun _ _ h => h)
        have hb5 : w5.heap[b]? = some (.cells (L.map fun v : Nat => Value.int .i64 v).toArray 3 (0, 0)) := (haw5.block b (hKW b kb) fun e => e kb).trans hb
        have e10 : w5.cell? ⟨b, j, none⟩ = some (.int .i64 z) := blk_cell hb5 (by rw [List.getElem?_toArray, List.getElem?_map, HLZ.out]; rfl)
        have HAT5 := Lib.hid hat5
        clear hat5 ha5 hb5
        try go_simp
        refine hKK _ _ (fun e => Bool.noConfusion (show true = false from e)) ?_
        clear hKK KK
        refine wpAnyD_of _ _ _ _ (by kernel_rfl) ?_
        refine wpAny_done (by kernel_rfl) ?_ _
        go_wp2_with fail
        go_roundg (r.r.length - (j + 1))
        case measure => omega
        case rel => exact ⟨j + 1, z, _, by omega, rfl, by go_num, rfl, hz, HST.out.ok, Nat.le_trans hlim1 HST.out.len, HAT5.out, haw5, HFO.out⟩
      · rw [if_pos rfl] at hfo
        have HFO := Lib.hid hfo
        have HS1 := Lib.hid hs1
        clear hfo hs1 hat haw hsy hsyo hsk hbo
        rw [hW1] at e9
        have HAT1 := Lib.hid hat1
        have HAW1 := Lib.hid haw1
        clear hat1 haw1 gS
        go_wp2_with fail
        rw [← hW1]
        go_roundg (r.r.length - (j + 1))
        case measure => omega
        case rel => exact ⟨j + 1, z, s1, by omega, rfl, by go_num, rfl, hz, HS1.out, hlim1, HAT1.out, HAW1.out, HFO.out⟩
    · obtain rfl : j = r.r.length := by omega
      rw [List.drop_length] at hfo
      unfold rsyms at hfo
      subst hfo
      go_wp2_with fail
      exact bodyPost_end (v := .tuple #[]) (by kernel_rfl) rfl ⟨rfl, hat, haw⟩

/-- the splits of a rule, with the closure of reach -/
theorem sp_reach {Fe : Nat → Prop} {base bb be most bo : Nat} {g : Gram} {x : List Int} {M : List (List Nat)} {A : Option Addr} {n c : Nat} {B : Option Addr} {m d : Nat} {C : Option Addr} {p q : Nat} {F : MPart → List MPart → List MPart} {lim : Nat} {K : Nat → Prop} {W0 W : World} {bx br bp : Nat} {y0 : MPart} {r : Rule} {R : Option Addr} {rc : Nat} {s : List MPart}
    (hR : ReachH Fe base bb be most bo g x M A n c B m d C p q F lim) (hF : GoodR2 g x F) (hv : Valid g) (hr : r ∈ g.rules) (hx : x.length ≤ 12) (hsh : MShape g x M) (hshort : Short x M) (hlow : MLow M) (hy : OkMP g x y0)
    (hFK : ∀ b, Fe b → K b) (hKW : ∀ b, K b → b < W0.heap.size) (hbW : base ≤ W0.heap.size) (hW : W0.heap.size ≤ W.heap.size) (hends : IsEnds Fe W be g x M A n c B m d C p q) (hs : RchOk g x s) (hlim : lim ≤ s.length) (h : RcAt (fun b => K b ∨ b = bx ∨ b = br ∨ b = bp) base W bb be most bo s) (haw : Away W0.heap.size (fun b => ¬ K b) W0 W)
    (hbx : W.heap[bx]? = some (.cells #[.int .i64 y0.n, .int .i64 y0.i, .int .i64 y0.j] 78 (0, 0))) (hbr : W.heap[br]? = some (.cells #[.int .i64 r.l, .slice R r.r.length rc] 99 (0, 0))) (hbp : W.heap[bp]? = some (.cells #[.pointer (some ⟨bb, 0, none⟩)] 79 (0, 0))) (hsy : IsSl Elt.sym Fe W (.slice R r.r.length rc) r.r) :
    Calls Tryz.prog 42 #[.pointer (some ⟨be, 0, none⟩), .slice R r.r.length rc, .int .i64 y0.i, .int .i64 y0.j, .func (.func 46) #[] #[.pointer (some ⟨bx, 0, none⟩), .pointer (some ⟨br, 0, none⟩), .pointer (some ⟨bp, 0, none⟩)]] W fun e w' => e = .returned (.tuple #[]) ∧ RcAt (fun b => K b ∨ b = bx ∨ b = bp) base w' bb be most bo ((splC x M y0.j r.r y0.i).foldl (fun s L => rsyms F r.r L y0.i s) s) ∧ Away W0.heap.size (fun b => ¬ K b) W0 w' ∧ w'.heap[bx]? = some (.cells #[.int .i64 y0.n, .int .i64 y0.i, .int .i64 y0.j] 78 (0, 0)) ∧ w'.heap[bp]? = some (.cells #[.pointer (some ⟨bb, 0, none⟩)] 79 (0, 0)) := by
  have hok4 := hv.ok r hr
  have hml := hsh.len
  obtain ⟨F', hF'⟩ : ∃ F' : Nat → Prop, F' = fun b => K b ∨ b = bx ∨ b = br ∨ b = bp := ⟨_, rfl⟩
  have f0 : ∀ b, K b → F' b := fun b hb => by rw [hF']; exact .inl hb
  have f1 : F' bx := by rw [hF']; simp
  have f2 : F' br := by rw [hF']; simp
  have f3 : F' bp := by rw [hF']; simp
  have l1 := blk_lt hbx
  have l2 := blk_lt hbr
  have l3 := blk_lt hbp
  rw [← hF'] at h
  have H : SpCallK (fun K2 (s : List MPart) w2 => RcAt K2 base w2 bb be most bo s ∧ RchOk g x s ∧ lim ≤ s.length ∧ Away W0.heap.size (fun b => ¬ K b) W0 w2 ∧ W.heap.size ≤ w2.heap.size ∧ w2.heap[bx]? = some (.cells #[.int .i64 y0.n, .int .i64 y0.i, .int .i64 y0.j] 78 (0, 0)) ∧ w2.heap[br]? = some (.cells #[.int .i64 r.l, .slice R r.r.length rc] 99 (0, 0)) ∧ w2.heap[bp]? = some (.cells #[.pointer (some ⟨bb, 0, none⟩)] 79 (0, 0))) (fun s L => rsyms F r.r L y0.i s) (fun _ _ => True) F' W 46 #[.pointer (some ⟨bx, 0, none⟩), .pointer (some ⟨br, 0, none⟩), .pointer (some ⟨bp, 0, none⟩)] be g x M A n c B m d C p q R rc r.r y0.i y0.j := by
    refine ⟨fun args w => ?_, hx, fun z hz => ?_, hsh.row, hsh.small, hshort, hlow, hy.2.2.1, hy.2.2.2, hok4.len, ends_weak hends fun b hb => f0 b (hFK b hb), hsy.weak fun b hb => f0 b (hFK b hb), fun K2 K3 s2 W1 h1 hk => ⟨h1.1.less hk, h1.2⟩, fun K2 s2 w1 w2 h1 hb => ?_, fun K2 s2 W1 b i u hb hK h1 => ?_, fun K2 s2 W1 L b hL hP hFK2 hKW2 h1 hb kb harr hen2 hsy1 => ?_⟩
    · have hfn := Tryz.func46
      have hnm : (Tryz.f46.name == "runtime.NumGoroutine") = false := by kernel_rfl
      have hbd : Tryz.f46.body.isNone = false := by kernel_rfl
      simp only [beq_eq_false_iff_ne, Option.isNone_eq_false_iff, Option.isSome_iff_ne_none] at hnm hbd
      simp [callFunc, hfn, hnm, hbd]
    · have := hok4.syms z hz
      exact ⟨this.n0, fun ht => by have := this.nn ht; omega⟩
    · obtain ⟨a1, a2, a3, a4, a5, a6, a7, a8⟩ := h1
      exact ⟨a1.below hb, a2, a3, a4.trans ((Away.ofBelow hb).mono a4.size fun _ _ h => h), Nat.le_trans a5 hb.size, blk_below hb (blk_lt a6) a6, blk_below hb (blk_lt a7) a7, blk_below hb (blk_lt a8) a8⟩
    · obtain ⟨a1, a2, a3, a4, a5, a6, a7, a8⟩ := h1
      exact ⟨a1.poke hK, a2, a3, a4.trans (Away.setCell _ _ _ _ (.inr (by omega))), by rw [size_setCell]; exact a5, by rw [heap_set_ne (by omega)]; exact a6, by rw [heap_set_ne (by omega)]; exact a7, by rw [heap_set_ne (by omega)]; exact a8⟩
    · obtain ⟨a1, a2, a3, a4, a5, a6, a7, a8⟩ := h1
      have hl := splL_le hL
      have hKK : ∀ b, K b → K2 b := fun b hb => hFK2 b (f0 b hb) (Nat.lt_of_lt_of_le (hKW b hb) hW)
      have hl2 : ∀ z ∈ L, z ≤ x.length := fun z hz => by have := hl.2 z hz; have := hy.2.2.2; omega
      have hst := rsyms_ok hF r.r L y0.i s2 (fun y hy2 ht => by
        have := hok4.syms y hy2
        exact ⟨this.n0, this.nn ht⟩) hl2 hy.2.2.1 a2
      have hen1 : IsEnds Fe W1 be g x M A n c B m d C p q := ends_keep hends (fun b hb _ => (a4.block b (hKW b (hFK b hb)) fun e => e (hFK b hb)).trans (haw.block b (hKW b (hFK b hb)) fun e => e (hFK b hb)).symm) a5
      refine (rcb_any hR hF hv hr hl.1 hl2 hy.2.2.1 (fun b hb => hKK b (hFK b hb)) hKW2 (by omega) hen1 a2 a3 a1 a6 a7 a8 (hFK2 _ f3 l3) kb harr (hsy1.old.weak fun b hb => ?_) (Fs := K2) fun b hb => hb).mono ?_
      · have hl3 : b < W.heap.size := by
          have h6 := hb.1
          rw [hF'] at h6
          rcases h6 with h6 | h6 | h6 | h6
          · exact Nat.lt_of_lt_of_le (hKW b h6) hW
          · rw [h6]; exact l1
          · rw [h6]; exact l2
          · rw [h6]; exact l3
        exact hFK2 b hb.1 hl3
      · rintro e w' ⟨rfl, h4, h5⟩
        have hbx2 := fun {z : Nat} (hz : F' z) (l : z < W.heap.size) => h5.block z (Nat.lt_of_lt_of_le l a5) fun e => e (hFK2 z hz l)
        exact ⟨rfl, ⟨h4, hst.ok, Nat.le_trans a3 hst.len, a4.trans (h5.mono a4.size fun b hb e => fun hk => e (hKK b hk)), Nat.le_trans a5 h5.size, (hbx2 f1 l1).trans a6, (hbx2 f2 l2).trans a7, (hbx2 f3 l3).trans a8⟩, h5⟩
  refine (splits_anyK W s H ⟨h.less fun b hb _ => hb.1, hs, hlim, haw, Nat.le_refl _, hbx, hbr, hbp⟩ (AllP.of fun _ _ _ => trivial)).mono ?_
  rintro e w' ⟨rfl, a1, a2, a3, a4, a5, a6, a7, a8⟩
  refine ⟨rfl, a1.less fun b hb _ => ?_, a4, a6, a8⟩
  rcases hb with hb | hb | hb
  · exact ⟨f0 b hb, Nat.lt_of_lt_of_le (hKW b hb) hW⟩
  · subst hb; exact ⟨f1, l1⟩
  · subst hb; exact ⟨f3, l3⟩

set_option maxRecDepth 100000 in
set_option maxHeartbeats 3200000 in
/-- reach: a part and all parts below it -/
theorem bestReach_any {Fe : Nat → Prop} {base bb be most bo : Nat} {g : Gram} {x : List Int} {M : List (List Nat)} {A : Option Addr} {n c : Nat} {B : Option Addr} {m d : Nat} {C : Option Addr} {p q : Nat} (hv : Valid g) (hx : x.length ≤ 12) (hsh : MShape g x M) (hshort : Short x M) (hlow : MLow M) (hlen : g.rules.length = n) : ∀ f, ReachH Fe base bb be most bo g x M A n c B m d C p q (rchP g x M f) ((partsM g x).length + 1 - f)
  | 0 => fun K y s W hy hs hlim _ _ _ _ _ => by
    have := hs.few
    omega
  | f + 1 => fun K y s W hy hs hlim hFK hKW hbW hends h => by
    have ih := bestReach_any (Fe := Fe) (base := base) (bb := bb) (be := be) (most := most) (bo := bo) (A := A) (c := c) (B := B) (m := m) (d := d) (C := C) (p := p) (q := q) hv hx hsh hshort hlow hlen f
    have hn32 : n ≤ 32 := by have := hv.len; omega
    have hb2 := below2 W (.cells #[.pointer (some ⟨bb, 0, none⟩)] 79) (.cells #[.int .i64 y.n, .int .i64 y.i, .int .i64 y.j] 78)
    have g0 := blk_new1 (w := W) rfl (.cells #[.pointer (some ⟨bb, 0, none⟩)] 79) (.cells #[.int .i64 y.n, .int .i64 y.i, .int .i64 y.j] 78)
    have g1 := blk_new' (w := W.alloc (.cells #[.pointer (some ⟨bb, 0, none⟩)] 79)) (a := W.heap.size + 1) (by rw [World.size_alloc]) (.cells #[.int .i64 y.n, .int .i64 y.i, .int .i64 y.j] 78)
    have h2 := h.below hb2
    obtain ⟨Av, cv, hblkW, hownW, hnK⟩ := h.row
    have hblk := blk_below hb2 (blk_lt hblkW) hblkW
    have hown := own_belowV hownW hb2
    have hlbb := blk_lt hblkW
    have hlbo := h.map.lt
    have hlrow := fun b hb => (hownW.lt b hb).2
    clear hblkW hownW
    have hlk : ∀ P : Behind ((W.alloc (.cells #[.pointer (some ⟨bb, 0, none⟩)] 79)).alloc (.cells #[.int .i64 y.n, .int .i64 y.i, .int .i64 y.j] 78)), (Instr.lookup 80 (.map (some bo)) (mpartV y) true).run Tryz.prog P.w' = .ok (.tuple #[.slice none 0 0, .bool (decide (y ∈ s))]) P.w' := fun P => by
      have := run_look_ok (P := Tryz.prog) Tryz.mpartKey Tryz.underlying80 Tryz.zeroRankeds (h2.map.below P.h) y
      rw [nilAll_look] at this
      by_cases hm : y ∈ s
      · rw [if_pos hm] at this; simpa [hm, hdR] using this
      · rw [if_neg hm] at this; simpa [hm] using this
    have e0 := cell_behind (blk_cell g0 (i := 0) rfl)
    have e1 := cell_behind (blk_cell g1 (i := 0) rfl)
    have e2 := cell_behind (blk_cell g1 (i := 1) rfl)
    have e3 := cell_behind (blk_cell g1 (i := 2) rfl)
    have e4 := cell_behind (blk_cell hblk (i := 2) rfl)
    by_cases hm : y ∈ s
    · have hd : decide (y ∈ s) = true := by simpa using hm
      have hfin : rchP g x M (f + 1) y s = s := by unfold rchP; rw [if_pos hm]
      rw [hd] at hlk
      rw [hfin]
      have HH := Lib.hid h
      unfold mpartV at hlk ⊢
      clear h h2 hd hm hfin ih hblk hown hnK hs hy hends
      go_enter Tryz.func25, Tryz.ntmps25
      go_wp2_with fail
      refine wp_region_behind (by kernel_rfl) (by kernel_rfl) ?_
      repeat (go_big_quiet_step (fail))
      refine wpQuiet_nil ?_
      intro _ hw'
      obtain ⟨P2, hw''⟩ := hw'
      subst hw''
      have hbP := P2.h
      clear hlk e0 e1 e2 e3 e4
      generalize P2.w' = W3 at hbP ⊢
      go_wp2_with fail
      have hb3 := hb2.trans (hbP.mono hb2.size)
      exact bodyPost_ret (v := .tuple #[]) (by kernel_rfl) rfl ⟨rfl, HH.out.below hb3, Away.ofBelow hb3⟩
    · have hd : decide (y ∈ s) = false := by simpa using hm
      have hfin : rchP g x M (f + 1) y s = g.rules.foldl (rruleP (rchP g x M f) x M y) (s ++ [y]) := by rw [rchP]; rw [if_neg hm]
      rw [hd] at hlk
      rw [hfin]
      generalize hfd : g.rules.foldl (rruleP (rchP g x M f) x M y) (s ++ [y]) = fin
      have hsn : RchOk g x (s ++ [y]) := by
        refine ⟨?_, fun z hz => ?_⟩
        · rw [List.nodup_append]
          exact ⟨hs.nodup, by simp, fun a ha b hb e => by simp at hb; subst hb; subst e; exact hm ha⟩
        · rcases List.mem_append.1 hz with hz | hz
          · exact hs.sub z hz
          · simp at hz; rw [hz]; exact hy
      have hfd0 : (g.rules.drop 0).foldl (rruleP (rchP g x M f) x M y) (s ++ [y]) = fin := by rw [List.drop_zero]; exact hfd
      have HFD := Lib.hid hfd0
      have HSN := Lib.hid hsn
      have HM := Lib.hid hm
      have HY := Lib.hid hy
      have HEN := Lib.hid hends
      have IH := Lib.hid ih
      have hsl := hs.few
      have hfew := hsn.few
      unfold mpartV at hlk ⊢
      clear h hd hm hfin ih hs hy hends hfd hfd0 hsn
      go_enter Tryz.func25, Tryz.ntmps25
      go_wp2_with fail
      refine wp_region_behind (by kernel_rfl) (by kernel_rfl) ?_
      repeat (go_big_quiet_step (fail))
      refine wpQuiet_nil ?_
      intro _ hw'
      obtain ⟨P2, hw''⟩ := hw'
      subst hw''
      have hbP := P2.h
      have h4 := h2.below hbP
      have g04 := blk_below hbP (blk_lt g0) g0
      have g14 := blk_below hbP (blk_lt g1) g1
      have hblk4 := blk_below hbP (blk_lt hblk) hblk
      have hown4 := own_belowV hown hbP
      have hl0 := blk_lt g0
      have hl1 := blk_lt g1
      have hb4 : Below W.heap.size W P2.w' := hb2.trans (hbP.mono hb2.size)
      clear hlk e0 e1 e2 e3 e4 g0 g1 h2 hblk hown hb2
      generalize P2.w' = W4 at hbP h4 g04 g14 hblk4 hown4 hb4 ⊢
      clear P2 hbP
      go_wp2_with fail
      have r0 := blk_cell g04 (i := 0) rfl
      have r1 := blk_cell g14 (i := 0) rfl
      have r2 := blk_cell g14 (i := 1) rfl
      have r3 := blk_cell g14 (i := 2) rfl
      have r5 := blk_cell hblk4 (i := 2) rfl
      obtain ⟨o4, hput, hm4⟩ := (h4.map.same (w' := W4.drew) rfl).put (P := Tryz.prog) Tryz.mpartKey Tryz.underlying80 y (⟨none, 0, 0⟩ : Hd)
      rw [nilAll_put HM.out] at hm4
      unfold mpartV hdR at hput
      go_region
      have hne : ∀ {b2 : Nat} {cs : Array Value} {T : TypeId} {fr : Nat × Nat}, W4.heap[b2]? = some (.cells cs T fr) → b2 ≠ bo := fun h1 => map_ne h4.map h1
      have hne2 : ∀ {b2 : Nat} {cs : Array Value} {T : TypeId} {fr : Nat × Nat}, W4.heap[b2]? = some (.cells cs T fr) → (setBlock W4.drew bo o4).heap[b2]? = some (.cells cs T fr) := fun h1 => (setBlock_other _ _ _ (hne h1)).trans h1
      have g05 := hne2 g04
      have g15 := hne2 g14
      have hblk5 := hne2 hblk4
      have hrown : ∀ b, (Value.slice Av s.length cv).ownBlock = some b → b ≠ bo := fun b hb e => by
        rcases hown4.2 with ⟨h1, _⟩ | ⟨g', cap, cur, h1, _, h3, _⟩
        · rw [h1] at hb; cases hb
        · rw [h1] at hb
          injection hb with hb
          subst hb
          exact hne h3 e
      have hown5 : (setBlock W4.drew bo o4).ownsRow base 78 3 (.slice Av s.length cv) s.length (s.flatMap mpC) := own_keep hown4 fun b hb => setBlock_other _ _ _ (hrown b hb)
      have ha5 : Away W.heap.size (fun b => ¬ K b) W (setBlock W4.drew bo o4) := (Away.ofBelow hb4).trans ⟨rfl, rfl, rfl, by rw [setBlock_size]; exact Nat.le_refl _, fun b2 _ hF => setBlock_other _ _ _ fun e => hF (by rw [e]; exact h4.no)⟩
      have hs5 : W.heap.size ≤ (setBlock W4.drew bo o4).heap.size := ha5.size
      have hKb := h4.nb
      have hKo := h4.no
      clear r0 r1 r2 r3 r5 hput hne hne2 g04 g14 hblk4 hown4 hrown hb4 h4
      generalize setBlock W4.drew bo o4 = W5 at hm4 g05 g15 hblk5 hown5 ha5 hs5 ⊢
      obtain ⟨n1, hn1⟩ : ∃ n1, n1 = s.length := ⟨_, rfl⟩
      rw [← hn1] at hblk5 hown5 hnK hlrow
      obtain ⟨im, him, hM0, hM2, hM3⟩ := info_parts Tryz.infoMpart
      have hfp := parts_few hv hx
      have hn1b : n1 ≤ 1690 := by omega
      obtain ⟨bp, hbp⟩ : ∃ b, b = W.heap.size := ⟨_, rfl⟩
      obtain ⟨bx, hbx⟩ : ∃ b, b = W.heap.size + 1 := ⟨_, rfl⟩
      rw [← hbp] at g05
      rw [← hbx] at g15
      obtain ⟨oX, hoX⟩ : ∃ o : Obj, o = .cells #[.int .i64 y.n, .int .i64 y.i, .int .i64 y.j] 78 := ⟨_, rfl⟩
      have hbe : base ≤ W5.drew.heap.size := Nat.le_trans hbW hs5
      have HEND : ∀ (A7 : Option Addr) (c7 : Nat) (w7 : World), w7.ownsRow base 78 3 (.slice A7 (n1 + 1) c7) (n1 + 1) (s.flatMap mpC ++ [.int .i64 y.n, .int .i64 y.i, .int .i64 y.j]) → (W5.drew.alloc oX).grownBy w7 (Value.slice Av n1 cv).ownBlock → ((Value.slice A7 (n1 + 1) c7).ownBlock = (Value.slice Av n1 cv).ownBlock ∨ (Value.slice A7 (n1 + 1) c7).ownBlock = some (W5.drew.alloc oX).heap.size) →
          (w7.heap[bp]? = some (.cells #[.pointer (some ⟨bb, 0, none⟩)] 79 (0, 0)) ∧ w7.heap[bx]? = some (.cells #[.int .i64 y.n, .int .i64 y.i, .int .i64 y.j] 78 (0, 0)) ∧ w7.heap[bb]? = some (.cells #[.pointer (some ⟨be, 0, none⟩), .int .i64 most, .map (some bo), .slice Av n1 cv] 83 (0, 0))) ∧
          (RcAt (fun b => K b ∨ b = bx ∨ b = bp) base (w7.setCell ⟨bb, 3, none⟩ (.slice A7 (n1 + 1) c7)) bb be most bo (s ++ [y]) ∧ Away W.heap.size (fun b => ¬ K b) W (w7.setCell ⟨bb, 3, none⟩ (.slice A7 (n1 + 1) c7)) ∧ (w7.setCell ⟨bb, 3, none⟩ (.slice A7 (n1 + 1) c7)).heap[bx]? = some (.cells #[.int .i64 y.n, .int .i64 y.i, .int .i64 y.j] 78 (0, 0)) ∧ (w7.setCell ⟨bb, 3, none⟩ (.slice A7 (n1 + 1) c7)).heap[bp]? = some (.cells #[.pointer (some ⟨bb, 0, none⟩)] 79 (0, 0))) := fun A7 c7 w7 hown7 hg7 hat7 => by
        have hb6 := below1 W5.drew oX
        have hsz6 := hb6.size
        have hs5' : W.heap.size ≤ W5.drew.heap.size := hs5
        have hk7 : ∀ b, b < W5.drew.heap.size → (Value.slice Av n1 cv).ownBlock ≠ some b → w7.heap[b]? = W5.heap[b]? := fun b hl hne => (hg7.block b (by omega) fun e => hne e.symm).trans (hb6.block b hl)
        have e1 := (hk7 bp (blk_lt g05) fun e => by have := hlrow _ e; omega).trans g05
        have e2 := (hk7 bx (blk_lt g15) fun e => by have := hlrow _ e; omega).trans g15
        have e3 := (hk7 bb (blk_lt hblk5) fun e => absurd (own_type hown5 e hblk5) (by decide)).trans hblk5
        have hbx3 : bx ≠ bb := by omega
        have hbp3 : bp ≠ bb := by omega
        have hno7 : (Value.slice Av n1 cv).ownBlock ≠ some bo := fun e => by
          have h1 := own_keep hown7 (w' := w7) fun _ _ => rfl
          rcases hown5.2 with ⟨h1, _⟩ | ⟨g', cap, cur, h1, _, h3, _⟩
          · rw [h1] at e; cases e
          · rw [h1] at e
            injection e with e
            subst e
            exact map_ne hm4 h3 rfl
        have hboL := hm4.lt
        refine ⟨⟨e1, e2, e3⟩, ⟨?_, ⟨A7, c7, ?_, ?_, fun b hb hK => ?_⟩, fun hK => ?_, fun hK => ?_⟩, ?_, ?_, ?_⟩
        · refine hm4.same ((heap_set_ne (map_ne hm4 hblk5).symm _ _).trans (hk7 bo hboL hno7))
        · rw [heap_set e3, List.length_append, ← hn1]; rfl
        · rw [List.length_append, ← hn1, List.flatMap_append]
          refine own_keep (w := w7) (by simpa [mpC] using hown7) fun b hb => heap_set_ne (fun e => ?_) _ _
          rw [e] at hb
          exact absurd (own_type hown7 (by simpa using hb) e3) (by decide)
        · rw [List.length_append, ← hn1] at hb
          rcases hat7 with h1 | h1
          · rw [show (Value.slice A7 (n1 + [y].length) c7).ownBlock = (Value.slice A7 (n1 + 1) c7).ownBlock from rfl, h1] at hb
            have hl := hlrow b hb
            rcases hK with hK | hK | hK
            · exact hnK b hb hK
            · omega
            · omega
          · rw [show (Value.slice A7 (n1 + [y].length) c7).ownBlock = (Value.slice A7 (n1 + 1) c7).ownBlock from rfl, h1] at hb
            injection hb with hb
            have hx5 := blk_lt g15
            have hp5 := blk_lt g05
            have hx6 : bx < W5.drew.heap.size := hx5
            have hp6 : bp < W5.drew.heap.size := hp5
            rcases hK with hK | hK | hK
            · have := hKW b hK; omega
            · omega
            · omega
        · rcases hK with hK | hK | hK
          · exact hKb hK
          · omega
          · omega
        · rcases hK with hK | hK | hK
          · exact hKo hK
          · omega
          · omega
        · exact (((ha5.trans ((Away.ofBelow (Below.refl _ _).drew).mono hs5 fun _ _ h => h)).trans ((Away.ofBelow hb6).mono hs5' fun _ _ h => h)).trans (Away.grown hg7 (by omega) fun j hj => .inl (hnK j hj))).trans (Away.setCell _ _ _ _ (.inl hKb))
        · rw [heap_set_ne hbx3]; exact e2
        · rw [heap_set_ne hbp3]; exact e1
      have HOWN := Lib.hid (show W5.drew.ownsRow base 78 3 (.slice Av n1 cv) n1 (s.flatMap mpC) from hown5)
      have hS0 : W5.drew.heap[bp]? = some (.cells #[.pointer (some ⟨bb, 0, none⟩)] 79 (0, 0)) ∧ W5.drew.heap[bx]? = some (.cells #[.int .i64 y.n, .int .i64 y.i, .int .i64 y.j] 78 (0, 0)) ∧ W5.drew.heap[bb]? = some (.cells #[.pointer (some ⟨be, 0, none⟩), .int .i64 most, .map (some bo), .slice Av n1 cv] 83 (0, 0)) := ⟨g05, g15, hblk5⟩
      have HN1 := Lib.hid hn1
      clear hm4 g05 g15 hblk5 hown5 ha5 hnK hlrow hn1
      subst hoX
      rw [← hbx, ← hbp]
      have HBP := Lib.hid hbp
      have HBX := Lib.hid hbx
      clear hbp hbx
      go_wp2_with fail
      refine wp_region_any (by kernel_rfl) ?_
      change wpAny _ _ _ _ _ _ _ (World.drew _)
      refine wpAny_of_D (S := fun w' => w'.heap[bp]? = some (.cells #[.pointer (some ⟨bb, 0, none⟩)] 79 (0, 0)) ∧ w'.heap[bx]? = some (.cells #[.int .i64 y.n, .int .i64 y.i, .int .i64 y.j] 78 (0, 0)) ∧ w'.heap[bb]? = some (.cells #[.pointer (some ⟨be, 0, none⟩), .int .i64 most, .map (some bo), .slice Av n1 cv] 83 (0, 0))) (dep := 10) _ _ _ _ ?_
      refine wpAnyD_load (i := 0) (v := .pointer (some ⟨bb, 0, none⟩)) [8, 9, 10] rfl (by kernel_rfl) (by kernel_rfl) (by kernel_rfl) (by kernel_rfl) (by kernel_rfl) (by kernel_rfl) (by kernel_rfl) (fun _ _ _ h => h) (by go_simp) ?_ hS0 ?_
      · (intro w' hS; obtain ⟨y1, y2, y3⟩ := hS; have z0 := blk_cell y1 (i := 0) rfl; go_simp)
      refine wpAnyD_load (i := 1) (v := .pointer (some ⟨bb, 0, none⟩)) [2, 3, 4, 7, 10] rfl (by kernel_rfl) (by kernel_rfl) (by kernel_rfl) (by kernel_rfl) (by kernel_rfl) (by kernel_rfl) (by kernel_rfl) (fun _ _ _ h => h) (by go_simp) ?_ hS0 ?_
      · (intro w' hS; obtain ⟨y1, y2, y3⟩ := hS; have z0 := blk_cell y1 (i := 0) rfl; go_simp)
      refine wpAnyD_pure (i := 2) (v := ?_) [3, 4, 7, 10] rfl (by kernel_rfl) (by kernel_rfl) (by kernel_rfl) (by kernel_rfl) (by kernel_rfl) (by kernel_rfl) (by kernel_rfl) (fun _ _ _ h => h) (by go_simp) ?_ hS0 ?_
      rotate_left
      · (intro w'; go_simp; first | done | with_reducible rfl)
      refine wpAnyD_pure (i := 3) (v := ?_) [4, 7, 10] rfl (by kernel_rfl) (by kernel_rfl) (by kernel_rfl) (by kernel_rfl) (by kernel_rfl) (by kernel_rfl) (by kernel_rfl) (fun _ _ _ h => h) (by go_simp) ?_ hS0 ?_
      rotate_left
      · (intro w'; go_simp; first | done | with_reducible rfl)
      refine wpAnyD_load (i := 4) (v := .slice Av n1 cv) [7, 10] rfl (by kernel_rfl) (by kernel_rfl) (by kernel_rfl) (by kernel_rfl) (by kernel_rfl) (by kernel_rfl) (by kernel_rfl) (fun _ _ _ h => h) (by go_simp) ?_ hS0 ?_
      · (intro w' hS; obtain ⟨y1, y2, y3⟩ := hS; have z0 := blk_cell y3 (i := 3) rfl; go_simp)
      refine wpAnyD_load (i := 5) (v := .agg #[.int .i64 y.n, .int .i64 y.i, .int .i64 y.j]) [6, 7, 10] rfl (by kernel_rfl) (by kernel_rfl) (by kernel_rfl) (by kernel_rfl) (by kernel_rfl) (by kernel_rfl) (by kernel_rfl) (fun _ _ _ h => h) (by go_simp) ?_ hS0 ?_
      · (intro w' hS; obtain ⟨y1, y2, y3⟩ := hS; have z0 := blk_cell y2 (i := 0) rfl; have z1 := blk_cell y2 (i := 1) rfl; have z2 := blk_cell y2 (i := 2) rfl; go_simp)
      refine wpAnyD_each (rs := [6]) (by kernel_rfl) (by simp) ?_
      refine EachD.cons (i := 6) (o := _) rfl (fun KK hKK => ?_) EachD.nil
      go_simp
      have hb6 := below1 W5.drew (.cells #[.int .i64 y.n, .int .i64 y.i, .int .i64 y.j] 78)
      have hS6 : (W5.drew.alloc (.cells #[.int .i64 y.n, .int .i64 y.i, .int .i64 y.j] 78)).heap[bp]? = some (.cells #[.pointer (some ⟨bb, 0, none⟩)] 79 (0, 0)) ∧ (W5.drew.alloc (.cells #[.int .i64 y.n, .int .i64 y.i, .int .i64 y.j] 78)).heap[bx]? = some (.cells #[.int .i64 y.n, .int .i64 y.i, .int .i64 y.j] 78 (0, 0)) ∧ (W5.drew.alloc (.cells #[.int .i64 y.n, .int .i64 y.i, .int .i64 y.j] 78)).heap[bb]? = some (.cells #[.pointer (some ⟨be, 0, none⟩), .int .i64 most, .map (some bo), .slice Av n1 cv] 83 (0, 0)) := ⟨blk_below hb6 (blk_lt hS0.1) hS0.1, blk_below hb6 (blk_lt hS0.2.1) hS0.2.1, blk_below hb6 (blk_lt hS0.2.2) hS0.2.2⟩
      refine hKK _ _ (fun _ => hS6) ?_
      clear hKK KK
      refine wpAnyD_each (rs := [7]) (by kernel_rfl) (by simp) ?_
      refine EachD.cons (i := 7) (o := _) rfl (fun KK hKK => ?_) EachD.nil
      refine step_append_src _ rfl (.tmp 27) (.tmp 29) 81 rfl base 78 im (.agg #[.int .i64 0, .int .i64 0, .int .i64 0]) 3 24 Tryz.underlying81 him hM0 hM2 hM3 rfl (by decide) (.slice Av n1 cv) n1 (s.flatMap mpC) (by rfl) (own_belowV HOWN.out hb6) (some ⟨W5.drew.heap.size, 0, none⟩) 1 1 [.int .i64 y.n, .int .i64 y.i, .int .i64 y.j] (by rfl) rfl (fun h => by cases h) (fun a ha j u hj => by injection ha with ha; subst ha; exact cells_new _ _ _ _ _ hj) (by intro u hu; simp at hu; rcases hu with rfl | rfl | rfl <;> rfl) (n1 + 1) rfl (by unfold maxLen; omega) (by omega) (Nat.le_trans hbe hb6.size) ?_
      intro A7 c7 w7 hown7 hg7 hat7
      have hend := HEND A7 c7 w7 hown7 hg7 hat7
      obtain ⟨hS7, hend⟩ := hend
      have HE7 := Lib.hid hend
      clear hend hown7 hg7 hat7 hb6 hS6
      refine hKK _ _ (fun _ => hS7) ?_
      clear hKK KK
      refine wpAnyD_pure (i := 8) (v := ?_) [9, 10] rfl (by kernel_rfl) (by kernel_rfl) (by kernel_rfl) (by kernel_rfl) (by kernel_rfl) (by kernel_rfl) (by kernel_rfl) (fun _ _ _ h => h) (by go_simp) ?_ hS7 ?_
      rotate_left
      · (intro w'; go_simp; first | done | with_reducible rfl)
      refine wpAnyD_pure (i := 9) (v := ?_) [10] rfl (by kernel_rfl) (by kernel_rfl) (by kernel_rfl) (by kernel_rfl) (by kernel_rfl) (by kernel_rfl) (by kernel_rfl) (fun _ _ _ h => h) (by go_simp) ?_ hS7 ?_
      rotate_left
      · (intro w'; go_simp; first | done | with_reducible rfl)
      refine wpAnyD_each (rs := [10]) (by kernel_rfl) (by simp) ?_
      refine EachD.cons (i := 10) (o := _) rfl (fun KK hKK => ?_) EachD.nil
      have z0 := blk_cell hS7.2.2 (i := 3) rfl
      have z1 : w7.frozen? ⟨bb, 3, none⟩ = false := blk_free hS7.2.2
      go_simp
      refine hKK _ _ (fun e => Bool.noConfusion (show true = false from e)) ?_
      clear hKK KK
      refine wpAnyD_of _ _ _ _ (by kernel_rfl) ?_
      refine wpAny_done (by kernel_rfl) ?_ _
      obtain ⟨hrc, hac, gxc, gpc⟩ := HE7.out
      clear z0 z1 HE7 HEND HOWN hS0 hS7
      generalize w7.setCell ⟨bb, 3, none⟩ (.slice A7 (n1 + 1) c7) = Wc at hrc hac gxc gpc ⊢
      clear hs5 hbe
      have hen := ends_keep HEN.out (fun b hb _ => hac.block b (hKW b (hFK b hb)) fun e => e (hFK b hb)) hac.size
      obtain ⟨Aw, cw, hblk8, _, _⟩ := hrc.row
      have r0 := blk_cell gpc (i := 0) rfl
      have r1 := blk_cell hblk8 (i := 0) rfl
      have r2 := hen.c3
      have HRC := Lib.hid hrc
      clear hrc hblk8 hen
      go_wp2_with fail
      clear r0 r1 r2
      go_loopg [42] n (fun gk i wr => ∃ (k : Nat) (s1 : List MPart), k ≤ n ∧ gk = n - k ∧ i = .int .i64 k ∧ RcAt (fun b => K b ∨ b = bx ∨ b = bp) base wr bb be most bo s1 ∧ Away W.heap.size (fun b => ¬ K b) W wr ∧ wr.heap[bx]? = some (.cells #[.int .i64 y.n, .int .i64 y.i, .int .i64 y.j] 78 (0, 0)) ∧ wr.heap[bp]? = some (.cells #[.pointer (some ⟨bb, 0, none⟩)] 79 (0, 0)) ∧ RchOk g x s1 ∧ n1 + 1 ≤ s1.length ∧ (g.rules.drop k).foldl (rruleP (rchP g x M f) x M y) s1 = fin)
      case atStart => exact ⟨0, _, Nat.zero_le _, rfl, rfl, HRC.out, hac, gxc, gpc, HSN.out, by rw [List.length_append, ← HN1.out]; exact Nat.le_refl _, HFD.out⟩
      case round =>
        clear HRC hac gxc gpc HFD HSN
        obtain ⟨k, s1, hkn, rfl, rfl, hat, haw, gx, gp, hs1, hlen1, hfo⟩ := hrel
        obtain ⟨wo, rfl⟩ : ∃ wo : World, wo = wr := ⟨_, rfl⟩
        have hszo := haw.size
        by_cases hlt : k < n
        · have hkl : k < g.rules.length := by omega
          have hen := ends_keep HEN.out (fun b hb _ => haw.block b (hKW b (hFK b hb)) fun e => e (hFK b hb)) hszo
          obtain ⟨b5, o5, hA, hF5, hl5, hc1, A', c', hc2, hsy⟩ := hen.rules.ruleAt k hkl
          subst hA
          have hmem : g.rules[k] ∈ g.rules := List.getElem_mem hkl
          rw [List.drop_eq_getElem_cons hkl, List.foldl_cons] at hfo
          generalize g.rules[k] = r at hc1 hc2 hsy hfo hmem
          obtain ⟨W8, hW8⟩ : ∃ W8 : World, W8 = wo.alloc (.cells #[.int .i64 r.l, .slice A' r.r.length c'] 99) := ⟨_, rfl⟩
          have hbB : Below wo.heap.size wo W8 := by rw [hW8]; exact below1 wo _
          have hrr : W8.heap[wo.heap.size]? = some (.cells #[.int .i64 r.l, .slice A' r.r.length c'] 99 (0, 0)) := by rw [hW8]; exact heap_alloc_new wo _
          have hkz : (k : Int) < (n : Int) := by omega
          have gx8 := blk_below hbB (blk_lt gx) gx
          have gp8 := blk_below hbB (blk_lt gp) gp
          have ha8 := haw.trans ((Away.ofBelow (F := fun b => ¬ K b) hbB).mono hszo fun _ _ h => h)
          have u1 := blk_cell gx8 (i := 0) rfl
          by_cases hlf : r.l = y.n
          · have hlz : (r.l != y.n) = false := by simp [hlf]
            have hr0 : rruleP (rchP g x M f) x M y s1 r = (splC x M y.j r.r y.i).foldl (fun s L => rsyms (rchP g x M f) r.r L y.i s) s1 := by unfold rruleP; rw [if_pos hlf]
            have hrt := rruleP_ok (M := M) (rchP_ok (M := M) hv f) hv hmem HY.out hs1
            rw [hr0] at hfo hrt
            have hbd : Below W8.heap.size W8 W8.drew := (Below.refl _ _).drew
            have hrc8 : RcAt (fun b => K b ∨ b = bx ∨ b = wo.heap.size ∨ b = bp) base W8.drew bb be most bo s1 := ((hat.less (K' := fun b => K b ∨ b = bx ∨ b = wo.heap.size ∨ b = bp) fun b hb hl => by
              rcases hb with hb | hb | hb | hb
              · exact .inl hb
              · exact .inr (.inl hb)
              · omega
              · exact .inr (.inr hb)).below hbB).below hbd
            have hawd := ha8.trans ((Away.ofBelow (F := fun b => ¬ K b) hbd).mono ha8.size fun _ _ h => h)
            have hbwd := hbB.trans (hbd.mono hbB.size)
            have hsp := sp_reach IH.out (rchP_ok hv f) hv hmem hx hsh hshort hlow HY.out hFK hKW hbW hawd.size (ends_keep hen (fun b hb hl => hbwd.block b hl) hbwd.size) hs1 (by have := HN1.out; omega) hrc8 hawd gx8 hrr gp8 (hsy.below hbwd)
            have HSP := Lib.hid hsp
            have HFO := Lib.hid hfo
            have HRT := Lib.hid hrt
            obtain ⟨Ax, cx, hblkx, _, _⟩ := hat.row
            have r1 := blk_cell (blk_below hbB (blk_lt hblkx) hblkx) (i := 0) rfl
            have r2 := blk_cell hrr (i := 1) rfl
            have r3 := blk_cell gx8 (i := 1) rfl
            have r4 := blk_cell gx8 (i := 2) rfl
            have r5 := blk_cell gp8 (i := 0) rfl
            have u2 := u1
            rw [hW8] at u2
            clear hsp hfo hrt hr0 hlf hrc8 hat haw hsy hen hrr gx gp gx8 gp8 hblkx hawd hs1
            go_wp2_with fail
            rw [← hW8]
            clear hc1 hc2 u2 hW8
            refine wp_region_any (by kernel_rfl) ?_
            change wpAny _ _ _ _ _ _ _ (World.drew _)
            refine wpAny_take (i := 4) (v := ?_) rfl (by kernel_rfl) (by kernel_rfl) (by kernel_rfl) (fun _ _ _ h => h) (Or.inl ⟨by go_simp, ?_⟩) ?_
            rotate_left
            · (intro w'; go_simp; first | done | with_reducible rfl)
            refine wpAny_take (i := 6) (v := ?_) rfl (by kernel_rfl) (by kernel_rfl) (by kernel_rfl) (fun _ _ _ h => h) (Or.inl ⟨by go_simp, ?_⟩) ?_
            rotate_left
            · (intro w'; go_simp; first | done | with_reducible rfl)
            refine wpAny_take (i := 8) (v := ?_) rfl (by kernel_rfl) (by kernel_rfl) (by kernel_rfl) (fun _ _ _ h => h) (Or.inl ⟨by go_simp, ?_⟩) ?_
            rotate_left
            · (intro w'; go_simp; first | done | with_reducible rfl)
            refine wpAny_take (i := 10) (v := ?_) rfl (by kernel_rfl) (by kernel_rfl) (by kernel_rfl) (fun _ _ _ h => h) (Or.inl ⟨by go_simp, ?_⟩) ?_
            rotate_left
            · (intro w'; go_simp; first | done | with_reducible rfl)
            refine wpAny_of_D (S := fun w' => w' = W8.drew) (dep := 11) _ _ _ _ ?_
            refine wpAnyD_load (i := 0) (v := .pointer (some ⟨bb, 0, none⟩)) [1, 2, 3, 11] rfl (by kernel_rfl) (by kernel_rfl) (by kernel_rfl) (by kernel_rfl) (by kernel_rfl) (by kernel_rfl) (by kernel_rfl) (fun _ _ _ h => h) (by go_simp) ?_ rfl ?_
            · (intro w' hS; subst hS; go_simp)
            refine wpAnyD_pure (i := 1) (v := ?_) [2, 3, 11] rfl (by kernel_rfl) (by kernel_rfl) (by kernel_rfl) (by kernel_rfl) (by kernel_rfl) (by kernel_rfl) (by kernel_rfl) (fun _ _ _ h => h) (by go_simp) ?_ rfl ?_
            rotate_left
            · (intro w'; go_simp; first | done | with_reducible rfl)
            refine wpAnyD_pure (i := 2) (v := ?_) [3, 11] rfl (by kernel_rfl) (by kernel_rfl) (by kernel_rfl) (by kernel_rfl) (by kernel_rfl) (by kernel_rfl) (by kernel_rfl) (fun _ _ _ h => h) (by go_simp) ?_ rfl ?_
            rotate_left
            · (intro w'; go_simp; first | done | with_reducible rfl)
            refine wpAnyD_load (i := 3) (v := .pointer (some ⟨be, 0, none⟩)) [11] rfl (by kernel_rfl) (by kernel_rfl) (by kernel_rfl) (by kernel_rfl) (by kernel_rfl) (by kernel_rfl) (by kernel_rfl) (fun _ _ _ h => h) (by go_simp) ?_ rfl ?_
            · (intro w' hS; subst hS; go_simp)
            refine wpAnyD_load (i := 5) (v := .slice A' r.r.length c') [11] rfl (by kernel_rfl) (by kernel_rfl) (by kernel_rfl) (by kernel_rfl) (by kernel_rfl) (by kernel_rfl) (by kernel_rfl) (fun _ _ _ h => h) (by go_simp) ?_ rfl ?_
            · (intro w' hS; subst hS; go_simp)
            refine wpAnyD_load (i := 7) (v := .int .i64 y.i) [11] rfl (by kernel_rfl) (by kernel_rfl) (by kernel_rfl) (by kernel_rfl) (by kernel_rfl) (by kernel_rfl) (by kernel_rfl) (fun _ _ _ h => h) (by go_simp) ?_ rfl ?_
            · (intro w' hS; subst hS; go_simp)
            refine wpAnyD_load (i := 9) (v := .int .i64 y.j) [11] rfl (by kernel_rfl) (by kernel_rfl) (by kernel_rfl) (by kernel_rfl) (by kernel_rfl) (by kernel_rfl) (by kernel_rfl) (fun _ _ _ h => h) (by go_simp) ?_ rfl ?_
            · (intro w' hS; subst hS; go_simp)
            refine wpAnyD_each (rs := [11]) (by kernel_rfl) (by simp) ?_
            refine EachD.cons (i := 11) (o := _) rfl (fun KK hKK => ?_) EachD.nil
            simp only [List.getElem_toArray, List.getElem_cons_succ, List.getElem_cons_zero]
            refine step_call rfl 42 Tryz.f42 Tryz.func42 (by kernel_rfl) (by kernel_rfl) [.tmp 54, .tmp 56, .tmp 58, .tmp 60, .tmp 61] #[66, 97, 3, 3, 123] (by rfl) [.pointer (some ⟨be, 0, none⟩), .slice A' r.r.length c', .int .i64 y.i, .int .i64 y.j, .func (.func 46) #[] #[.pointer (some ⟨bx, 0, none⟩), .pointer (some ⟨wo.heap.size, 0, none⟩), .pointer (some ⟨bp, 0, none⟩)]] (by kernel_rfl) _ HSP.out ?_
            rintro e5 w5 ⟨rfl, hat5, ha5, gx5, gp5⟩
            refine ⟨_, rfl, ?_⟩
            try go_simp
            refine hKK _ _ (fun e => Bool.noConfusion (show true = false from e)) ?_
            clear hKK KK
            refine wpAnyD_of _ _ _ _ (by kernel_rfl) ?_
            refine wpAny_done (by kernel_rfl) ?_ _
            have HAT5 := Lib.hid hat5
            clear hat5
            go_wp2_with fail
            go_roundg (n - (k + 1))
            case measure => omega
            case rel => exact ⟨k + 1, _, by omega, rfl, by go_num, HAT5.out, ha5, gx5, gp5, HRT.out.ok, Nat.le_trans hlen1 HRT.out.len, HFO.out⟩
          · have hlz : (r.l != y.n) = true := by simp [hlf]
            have hr0 : rruleP (rchP g x M f) x M y s1 r = s1 := by unfold rruleP; rw [if_neg hlf]
            rw [hr0] at hfo
            have HFO := Lib.hid hfo
            have HS1 := Lib.hid hs1
            have HAT8 := Lib.hid (hat.below hbB)
            have u2 := u1
            rw [hW8] at u2
            clear hfo hr0 hlf hs1 hat hsy hen hrr gx gp haw
            go_wp2_with fail
            rw [← hW8]
            go_roundg (n - (k + 1))
            case measure => omega
            case rel => exact ⟨k + 1, s1, by omega, rfl, by go_num, HAT8.out, ha8, gx8, gp8, HS1.out, hlen1, HFO.out⟩
        · obtain rfl : k = n := by omega
          rw [← hlen, List.drop_length] at hfo
          simp only [List.foldl_nil] at hfo
          subst hfo
          go_wp2_with fail
          exact bodyPost_end (v := .tuple #[]) (by kernel_rfl) rfl ⟨rfl, hat.less fun b hb _ => .inl hb, haw⟩
end Go.Proofs.YtdbkbkopcnkgcaaGreat
