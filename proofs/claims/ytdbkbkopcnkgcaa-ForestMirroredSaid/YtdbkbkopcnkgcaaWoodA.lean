import Derived.Test.YtdbkbkopcnkgcaaDoub
open Go Go.RowKit
namespace Go.Proofs.Ytdbkbkopcnkgcaa

/-! ### the forest of the facts, as it is -/
def doubF : ForD := ⟨[⟨⟨true, 0⟩, 0, 1, []⟩, ⟨⟨false, 0⟩, 0, 1, [⟨1, [0]⟩]⟩, ⟨⟨false, 0⟩, 0, 2, [⟨0, [1, 4]⟩]⟩, ⟨⟨true, 0⟩, 1, 2, []⟩, ⟨⟨false, 0⟩, 1, 2, [⟨1, [3]⟩]⟩], 2⟩
def doubKeys : List Part := [⟨⟨true, 0⟩, 0, 1⟩, ⟨⟨false, 0⟩, 0, 1⟩, ⟨⟨false, 0⟩, 0, 2⟩, ⟨⟨true, 0⟩, 1, 2⟩, ⟨⟨false, 0⟩, 1, 2⟩]

theorem doub_ways : (reachF doubG [0, 0] doubM 4000 (rootF doubG [0, 0]) ⟨[], 0⟩).map (fun s => (s.ways, s.many)) = some ([(⟨⟨false, 0⟩, 0, 2⟩, [⟨0, [⟨⟨false, 0⟩, 0, 1⟩, ⟨⟨false, 0⟩, 1, 2⟩]⟩]), (⟨⟨false, 0⟩, 0, 1⟩, [⟨1, [⟨⟨true, 0⟩, 0, 1⟩]⟩]), (⟨⟨true, 0⟩, 0, 1⟩, []), (⟨⟨false, 0⟩, 1, 2⟩, [⟨1, [⟨⟨true, 0⟩, 1, 2⟩]⟩]), (⟨⟨true, 0⟩, 1, 2⟩, [])], 3) := by decide +kernel

theorem doub_forest : madeF doubG [0, 0] doubM = (doubF, 0) := by
  have h := doub_ways
  unfold madeF
  rw [if_neg (by decide)]
  cases hr : reachF doubG [0, 0] doubM 4000 (rootF doubG [0, 0]) ⟨[], 0⟩ with
  | none => rw [hr] at h; cases h
  | some s =>
    rw [hr] at h
    obtain ⟨ways, many⟩ := s
    simp only [Option.map_some, Option.some.injEq, Prod.mk.injEq] at h
    obtain ⟨rfl, rfl⟩ := h
    simp only
    rw [if_neg (by decide)]
    have hk : keysF ⟨[(⟨⟨false, 0⟩, 0, 2⟩, [⟨0, [⟨⟨false, 0⟩, 0, 1⟩, ⟨⟨false, 0⟩, 1, 2⟩]⟩]), (⟨⟨false, 0⟩, 0, 1⟩, [⟨1, [⟨⟨true, 0⟩, 0, 1⟩]⟩]), (⟨⟨true, 0⟩, 0, 1⟩, []), (⟨⟨false, 0⟩, 1, 2⟩, [⟨1, [⟨⟨true, 0⟩, 1, 2⟩]⟩]), (⟨⟨true, 0⟩, 1, 2⟩, [])], 3⟩ = doubKeys := by
      unfold keysF
      rw [parts_sorted (m := doubKeys) (by decide)]
      exact List.mergeSort_of_pairwise (by decide)
    unfold forestF
    rw [hk]
    simp [doubKeys, doubF, nodeF, alook, packF]
    decide

/-! ### the number of trees in a forest: the plain side -/
def maxCount : Int := 1000000000
/-- the number m of a kid is taken into a product -/
def mulC (a m : Int) : Int := if m = -1 ∨ a = -1 then -1 else min (a * m) maxCount
/-- a product is taken into a sum -/
def addC (s a : Int) : Int := if a = -1 ∨ s = -1 then -1 else min (s + a) maxCount

structure CS where
  done : List Int
  op : List Bool
deriving DecidableEq, Repr, Inhabited

def cntF (ns : List NodeD) : Nat → Nat → CS → Option (Int × CS)
  | 0, _, _ => none
  | f + 1, n, s => match ns[n]? with
    | none => none
    | some nd =>
      if nd.y.t = true then some (1, s)
      else if s.op.getD n false = true then some (-1, s)
      else if s.done.getD n 0 ≠ 0 then some (s.done.getD n 0, s)
      else (nd.packs.foldlM (fun (q : Int × CS) (p : PackD) => (p.kids.foldlM (fun (q : Int × CS) k => (cntF ns f k.toNat q.2).map fun r => (mulC q.1 r.1, r.2)) (1, q.2)).map fun r => (addC q.1 r.1, r.2)) (0, ⟨s.done, s.op.set n true⟩)).map fun r => (r.1, ⟨r.2.done.set n r.1, r.2.op.set n false⟩)

/-- numbers that a count can be -/
def CntV (v : Int) : Prop := -1 ≤ v ∧ v ≤ maxCount
theorem mulC_v {a m : Int} (h1 : CntV a) (h2 : CntV m) : CntV (mulC a m) := by
  unfold mulC CntV at *
  split
  · unfold maxCount; omega
  · have h3 : 0 ≤ a := by omega
    have h4 : 0 ≤ m := by omega
    have := Int.mul_nonneg h3 h4
    unfold maxCount at *
    omega
theorem addC_v {a m : Int} (h1 : CntV a) (h2 : CntV m) : CntV (addC a m) := by
  unfold addC CntV at *
  unfold maxCount at *
  split <;> omega

structure CSOk (ns : List NodeD) (s : CS) : Prop where
  done : s.done.length = ns.length
  op : s.op.length = ns.length
  val : ∀ v ∈ s.done, CntV v

theorem cntF_ok {ns : List NodeD} : ∀ (f n : Nat) (s : CS) (r : Int × CS), cntF ns f n s = some r → CSOk ns s → CntV r.1 ∧ CSOk ns r.2
  | 0, n, s, r, h, _ => by rw [cntF] at h; cases h
  | f + 1, n, s, r, h, hs => by
    rw [cntF] at h
    cases hn : ns[n]? with
    | none => rw [hn] at h; cases h
    | some nd =>
      rw [hn] at h
      simp only at h
      split at h
      · injection h with h; subst h; exact ⟨by unfold CntV maxCount; simp only; omega, hs⟩
      · split at h
        · injection h with h; subst h; exact ⟨by unfold CntV maxCount; simp only; omega, hs⟩
        · split at h
          · injection h with h
            subst h
            refine ⟨?_, hs⟩
            simp only
            rw [List.getD_eq_getElem?_getD]
            cases hd : s.done[n]? with
            | none => unfold CntV maxCount; simp
            | some v => exact hs.val v (List.mem_of_getElem? hd)
          · obtain ⟨r2, h1, rfl⟩ := Option.map_eq_some_iff.1 h
            have key := foldlM_inv (P := fun q : Int × CS => CntV q.1 ∧ CSOk ns q.2) _ _ _ h1 ⟨by unfold CntV maxCount; simp, ⟨hs.done, by simp [hs.op], hs.val⟩⟩ (fun q p q1 hq _ h2 => by
              obtain ⟨r3, h3, rfl⟩ := Option.map_eq_some_iff.1 h2
              have k2 := foldlM_inv (P := fun q : Int × CS => CntV q.1 ∧ CSOk ns q.2) _ _ _ h3 ⟨by unfold CntV maxCount; simp, hq.2⟩ (fun q2 k q3 hq2 _ h4 => by
                obtain ⟨r5, h5, rfl⟩ := Option.map_eq_some_iff.1 h4
                have k3 := cntF_ok f _ _ _ h5 hq2.2
                exact ⟨mulC_v hq2.1 k3.1, k3.2⟩)
              exact ⟨addC_v hq.1 k2.1, k2.2⟩)
            refine ⟨key.1, ⟨by simp [key.2.done], by simp [key.2.op], fun v hv => ?_⟩⟩
            rcases List.mem_or_eq_of_mem_set hv with hv | hv
            · exact key.2.val v hv
            · rw [hv]; exact key.1

theorem doub_count : (cntF doubF.nodes 6 2 ⟨[0, 0, 0, 0, 0], [false, false, false, false, false]⟩).map (·.1) = some 1 := by decide +kernel

/-- the word of a forest, as it reads it from its leaves -/
structure WS where
  w : List Int
  seen : List Bool
deriving DecidableEq, Repr, Inhabited
def wordStep (s : WS) (n : NodeD) : WS := if n.y.t = true ∧ n.i < s.w.length then ⟨s.w.set n.i n.y.n, s.seen.set n.i true⟩ else s
def wordF (ns : List NodeD) (m : Nat) : WS := ns.foldl wordStep ⟨List.replicate m 0, List.replicate m false⟩
theorem doub_word : wordF doubF.nodes 2 = ⟨[0, 0], [true, true]⟩ := by decide
end Go.Proofs.Ytdbkbkopcnkgcaa
