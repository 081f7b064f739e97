import Derived.Test.YtdbkbkopcnkgcaaGreatTreeK
import Derived.Test.YtdbkbkopcnkgcaaGreatWoodFact
import Derived.Test.YtdbkbkopcnkgcaaGreatLawMeanMir
open Go Go.RowKit
namespace Go.Proofs.YtdbkbkopcnkgcaaGreat

/-! ### the fact of the laws of mean -/
theorem doub_drv {x : List Int} (hx : ∀ i, i < x.length → x[i]? = some 0) : ∀ d i, i + d + 1 ≤ x.length → Drv doubG x [⟨false, 0⟩] i (i + d + 1)
  | 0, i, h => doub_one x i (hx i (by omega))
  | d + 1, i, h => doub_two (doub_drv hx d i (by omega)) (doub_one x (i + d + 1) (hx _ (by omega)))
theorem doub_isMn {x : List Int} {row : List Nat} (hx : ∀ i, i < x.length → x[i]? = some 0) (hs : MShape doubG x [row]) (hb : ∀ i ∈ List.range row.length, row.getD i 0 < 2 ^ (x.length + 1) ∧ ∀ j ∈ List.range (x.length + 1), (row.getD i 0).testBit j = true → i < j) (hc : ∀ r ∈ doubG.rules, ∀ i ∈ List.range (x.length + 1), seqEnds x [row] r.r (2 ^ i) &&& entry [row] r.l i = seqEnds x [row] r.r (2 ^ i)) : IsM doubG x [row] := by
  refine ⟨hs, fun n i j hn h => ?_, closed_dec hc⟩
  obtain ⟨m, rfl⟩ : ∃ m : Nat, n = m := ⟨n.toNat, by omega⟩
  have hM : entry [row] m i = if m = 0 then row.getD i 0 else 0 := by
    match m with
    | 0 => rfl
    | m + 1 => simp [entry]
  rw [hM] at h
  by_cases h0 : m = 0
  · subst h0
    rw [if_pos rfl] at h
    have hi : i < row.length := by
      rcases Nat.lt_or_ge i row.length with h1 | h1
      · exact h1
      · rw [List.getD_eq_getElem?_getD, List.getElem?_eq_none h1] at h
        simp at h
    obtain ⟨h1, h2⟩ := hb i (by simpa using hi)
    have hj : j < x.length + 1 := by
      rcases Nat.lt_or_ge j (x.length + 1) with h3 | h3
      · exact h3
      · rw [Nat.testBit_lt_two_pow (Nat.lt_of_lt_of_le h1 (Nat.pow_le_pow_right (by decide) h3))] at h
        cases h
    have hij := h2 j (by simpa using hj) h
    have := doub_drv hx (j - i - 1) i (by omega)
    rwa [show i + (j - i - 1) + 1 = j by omega] at this
  · rw [if_neg h0] at h
    simp at h
def doubM1 : List (List Nat) := [[2, 0]]
def doubM3 : List (List Nat) := [[14, 12, 8, 0]]
theorem doub_isM1 : IsM doubG [0] doubM1 := doub_isMn (by intro i h; match i, h with | 0, _ => rfl) ⟨by decide, by decide, by decide⟩ (by decide) (by decide)
theorem doub_isM3 : IsM doubG [0, 0, 0] doubM3 := doub_isMn (by intro i h; match i, h with | 0, _ => rfl | 1, _ => rfl | 2, _ => rfl) ⟨by decide, by decide, by decide⟩ (by decide) (by decide)
theorem doub_cnt1 : cntU doubG [0] doubM1 = 1 := by
  unfold cntU
  rw [if_pos (by decide), ← cnt_root doub_valid (sound_low doub_isM1.2.1)]
  decide +kernel
theorem doub_cnt3 : cntU doubG [0, 0, 0] doubM3 = 2 := by
  unfold cntU
  rw [if_pos (by decide), ← cnt_root doub_valid (sound_low doub_isM3.2.1)]
  decide +kernel
theorem doub_ok (n : Nat) : OkWord doubG (List.replicate n 0) := by
  intro t ht
  have := List.eq_of_mem_replicate ht
  subst this
  exact ⟨by decide, by decide⟩
theorem firstP_one {most : Nat} (hm : 0 < most) (a : Rk) : firstP most [a] = [a] := by
  unfold firstP
  rw [List.mergeSort_singleton]
  exact List.take_of_length_le hm
def doubRk : Rk := ⟨2, [1, -1], [Tr.mk 1 0 [Tr.mk (-1) 0 []]]⟩
theorem doub_again (of : MPart → List Rk) : againP doubG [0] doubM1 3 of ⟨0, 0, 1⟩ = [doubRk] := by
  have h0 : splC [0] doubM1 1 [⟨false, 0⟩, ⟨false, 0⟩] 0 = [] := by decide +kernel
  have h1 : splC [0] doubM1 1 [⟨true, 0⟩] 0 = [[1]] := by decide +kernel
  unfold againP
  have hr : rulesR [0] doubM1 3 of ⟨0, 0, 1⟩ 0 doubG.rules [] = wayR 3 of 1 ⟨0, [⟨true, 0⟩]⟩ 0 [] [1] := by
    show rulesR [0] doubM1 3 of ⟨0, 0, 1⟩ 0 [⟨0, [⟨false, 0⟩, ⟨false, 0⟩]⟩, ⟨0, [⟨true, 0⟩]⟩] [] = _
    unfold rulesR rulesR rulesR
    have e0 : ruleR [0] doubM1 3 of ⟨0, 0, 1⟩ 0 ⟨0, [⟨false, 0⟩, ⟨false, 0⟩]⟩ [] = [] := by
      unfold ruleR
      rw [if_pos rfl]
      show (splC [0] doubM1 1 [⟨false, 0⟩, ⟨false, 0⟩] 0).foldl _ [] = []
      rw [h0]; rfl
    rw [e0]
    unfold ruleR
    rw [if_pos rfl]
    show (splC [0] doubM1 1 [⟨true, 0⟩] 0).foldl _ [] = _
    rw [h1]; rfl
  rw [hr]
  have hw : wayR 3 of 1 ⟨0, [⟨true, 0⟩]⟩ 0 [] [1] = [doubRk] := by
    unfold wayR
    show [] ++ (rowsP 3 of [⟨true, 0⟩] [1] 0 [⟨1, [((1 : Nat) : Int)], []⟩]).map (wrapR 1) = _
    unfold rowsP rowsP
    have hj : joinP 3 [⟨1, [((1 : Nat) : Int)], []⟩] (nextP of ⟨true, 0⟩ 0 1) = [⟨2, [1, -1], [Tr.mk (-1) 0 []]⟩] := by
      unfold joinP
      have : jAll 3 0 [⟨1, [((1 : Nat) : Int)], []⟩] (nextP of ⟨true, 0⟩ 0 1) = [⟨2, [1, -1], [Tr.mk (-1) 0 []]⟩] := by
        unfold nextP
        rw [if_pos rfl]
        simp [jAll, jRow, catR]
      rw [this]
      exact firstP_one (by decide) _
    rw [hj]
    rfl
  rw [hw]
  exact firstP_one (by decide) _
theorem doub_partsR : partsR doubG [0] doubM1 = [⟨0, 0, 1⟩] := by
  unfold partsR rootM
  decide +kernel
theorem doub_loop {f : Nat} {of' : MPart → List Rk} (h : loopP doubG [0] doubM1 3 (partsR doubG [0] doubM1) f (fun _ => []) = some of') : of' (rootM doubG [0]) = [doubRk] := by
  rw [doub_partsR] at h
  have p0 : passP doubG [0] doubM1 3 [⟨0, 0, 1⟩] (fun _ => []) = (setP (fun _ => []) ⟨0, 0, 1⟩ [doubRk], true) := by
    unfold passP
    simp only [List.foldl_cons, List.foldl_nil]
    unfold stepP
    simp only [doub_again]
    rw [if_neg (by decide)]
  have p1 : passP doubG [0] doubM1 3 [⟨0, 0, 1⟩] (setP (fun _ => []) ⟨0, 0, 1⟩ [doubRk]) = (setP (fun _ => []) ⟨0, 0, 1⟩ [doubRk], false) := by
    unfold passP
    simp only [List.foldl_cons, List.foldl_nil]
    unfold stepP
    simp only [doub_again]
    rw [if_pos (by unfold setP; rw [if_pos rfl]; unfold sameP; simp)]
  match f, h with
  | 0, h => cases h
  | 1, h =>
    unfold loopP at h
    rw [p0, if_pos rfl] at h
    cases h
  | f + 2, h =>
    unfold loopP at h
    rw [p0, if_pos rfl] at h
    unfold loopP at h
    rw [p1, if_neg (by decide)] at h
    injection h with h
    subst h
    show (if (⟨0, 0, 1⟩ : MPart) = rootM doubG [0] then [doubRk] else []) = [doubRk]
    exact if_pos rfl
theorem doub_loops : loopP doubG [0] doubM1 3 (partsR doubG [0] doubM1) 2 (fun _ => []) = some (setP (fun _ => []) ⟨0, 0, 1⟩ [doubRk]) := by
  rw [doub_partsR]
  have p0 : passP doubG [0] doubM1 3 [⟨0, 0, 1⟩] (fun _ => []) = (setP (fun _ => []) ⟨0, 0, 1⟩ [doubRk], true) := by
    unfold passP
    simp only [List.foldl_cons, List.foldl_nil]
    unfold stepP
    simp only [doub_again]
    rw [if_neg (by decide)]
  have p1 : passP doubG [0] doubM1 3 [⟨0, 0, 1⟩] (setP (fun _ => []) ⟨0, 0, 1⟩ [doubRk]) = (setP (fun _ => []) ⟨0, 0, 1⟩ [doubRk], false) := by
    unfold passP
    simp only [List.foldl_cons, List.foldl_nil]
    unfold stepP
    simp only [doub_again]
    rw [if_pos (by unfold setP; rw [if_pos rfl]; unfold sameP; simp)]
  unfold loopP
  rw [p0, if_pos rfl]
  unfold loopP
  rw [p1, if_neg (by decide)]

end Go.Proofs.YtdbkbkopcnkgcaaGreat
