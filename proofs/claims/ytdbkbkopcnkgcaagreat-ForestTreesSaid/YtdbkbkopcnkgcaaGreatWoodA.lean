import Derived.Test.YtdbkbkopcnkgcaaGreatForMN
import Derived.Test.YtdbkbkopcnkgcaaGreatMakeW
open Go Go.RowKit
namespace Go.Proofs.YtdbkbkopcnkgcaaGreat

/-! ### the grammar of the facts: S to S S, S to 0 -/
def doubG : Gram := ⟨1, 1, 0, [⟨0, [⟨false, 0⟩, ⟨false, 0⟩]⟩, ⟨0, [⟨true, 0⟩]⟩]⟩

theorem doub_valid : Valid doubG := by
  refine ⟨by decide, by decide, by decide, by decide, by decide, by decide, by decide, ?_, by decide⟩
  intro r hr
  simp only [doubG, List.mem_cons, List.not_mem_nil, or_false] at hr
  rcases hr with rfl | rfl
  · refine ⟨by decide, by decide, by decide, fun y hy => ?_⟩
    simp only [List.mem_cons, List.not_mem_nil, or_false] at hy
    rcases hy with rfl | rfl <;> exact ⟨by decide, by decide, by decide⟩
  · refine ⟨by decide, by decide, by decide, fun y hy => ?_⟩
    simp only [List.mem_cons, List.not_mem_nil, or_false] at hy
    rcases hy with rfl
    exact ⟨by decide, by decide, by decide⟩

theorem doub_one (x : List Int) (i : Nat) (h : x[i]? = some 0) : Drv doubG x [⟨false, 0⟩] i (i + 1) := by
  have hl := (List.getElem?_eq_some_iff.1 h).1
  exact .non (r := ⟨0, [⟨true, 0⟩]⟩) (by simp [doubG]) rfl (.term h (.nil _ (by omega))) (.nil _ (by omega))
theorem doub_two {x : List Int} {i k j : Nat} (h1 : Drv doubG x [⟨false, 0⟩] i k) (h2 : Drv doubG x [⟨false, 0⟩] k j) : Drv doubG x [⟨false, 0⟩] i j := by
  have hj := (drv_le h2).2
  exact .non (r := ⟨0, [⟨false, 0⟩, ⟨false, 0⟩]⟩) (by simp [doubG]) rfl (drv_app h1 h2) (.nil _ hj)

theorem closed_dec {g : Gram} {x : List Int} {M : List (List Nat)} (h : ∀ r ∈ g.rules, ∀ i ∈ List.range (x.length + 1), seqEnds x M r.r (2 ^ i) &&& entry M r.l i = seqEnds x M r.r (2 ^ i)) : Closed g x M := by
  intro r hr i hi j hj
  have := h r hr i (by simp; omega)
  rw [← this, Nat.testBit_and, Bool.and_eq_true] at hj
  exact hj.2

def doubM : List (List Nat) := [[6, 4, 0]]
theorem doub_isM : IsM doubG [0, 0] doubM := by
  refine ⟨⟨by decide, by decide, by decide⟩, fun n i j hn h => ?_, closed_dec (by decide)⟩
  have hM : ∀ n : Nat, ∀ i, entry doubM n i = if n = 0 ∧ i = 0 then 6 else if n = 0 ∧ i = 1 then 4 else 0 := fun n i => by
    match n, i with
    | 0, 0 => rfl
    | 0, 1 => rfl
    | 0, 2 => rfl
    | 0, i + 3 => simp [entry, doubM]
    | n + 1, i => simp [entry, doubM]
  obtain ⟨m, rfl⟩ : ∃ m : Nat, n = m := ⟨n.toNat, by omega⟩
  rw [hM] at h
  have d01 := doub_one [0, 0] 0 rfl
  have d12 := doub_one [0, 0] 1 rfl
  by_cases h0 : m = 0 ∧ i = 0
  · rw [if_pos h0] at h
    obtain ⟨rfl, rfl⟩ := h0
    have h6 : ∀ j, Nat.testBit 6 j = true → j = 1 ∨ j = 2 := by
      intro j hj
      match j, hj with
      | 0, hj => simp at hj
      | 1, _ => exact .inl rfl
      | 2, _ => exact .inr rfl
      | j + 3, hj => rw [Nat.testBit_lt_two_pow (show 6 < 2 ^ (j + 3) by have := Nat.pow_le_pow_right (n := 2) (by omega) (show 3 ≤ j + 3 by omega); omega)] at hj; cases hj
    rcases h6 j h with rfl | rfl
    · exact d01
    · exact doub_two d01 d12
  · rw [if_neg h0] at h
    by_cases h1 : m = 0 ∧ i = 1
    · rw [if_pos h1] at h
      obtain ⟨rfl, rfl⟩ := h1
      have h4 : j = 2 := by
        have : (2 ^ 2).testBit j = true := h
        rw [Nat.testBit_two_pow] at this
        have := of_decide_eq_true this
        exact this.symm
      subst h4
      exact d12
    · rw [if_neg h1] at h
      simp at h

theorem doub_reach : (reachF doubG [0, 0] doubM 4000 (rootF doubG [0, 0]) ⟨[], 0⟩).map (fun s => (s.ways.length, s.many)) = some (5, 3) := by decide +kernel
theorem doub_made : (madeF doubG [0, 0] doubM).2 = 0 ∧ (madeF doubG [0, 0] doubM).1.nodes.length = 5 := by
  have h := doub_reach
  unfold madeF
  rw [if_neg (by decide)]
  cases hr : reachF doubG [0, 0] doubM 4000 (rootF doubG [0, 0]) ⟨[], 0⟩ with
  | none => rw [hr] at h; cases h
  | some s =>
    rw [hr] at h
    simp only [Option.map_some, Option.some.injEq, Prod.mk.injEq] at h
    simp only
    rw [if_neg (by rw [h.2]; decide)]
    exact ⟨rfl, by simp only [forestF, List.length_map, keysF, List.length_mergeSort]; exact h.1⟩

set_option maxRecDepth 100000 in
set_option maxHeartbeats 1600000 in
theorem doubling_any (w : World) : Calls Tryz.prog 30 #[] w fun e w' => ∃ A, e = .returned (gramV doubG (.slice A 2 2)) ∧ Below w.heap.size w w' ∧ IsSl Elt.rule (fun b => w.heap.size ≤ b) w' (.slice A 2 2) doubG.rules := by
  go_enter Tryz.func30, Tryz.ntmps30
  go_wp2_with fail
  generalize hG : (.cells #[.int .i64 1, .int .i64 1, .int .i64 0, .slice (some ⟨w.heap.size + 1 + 1 + 1, 0, none⟩) 2 2] 25 : Obj) = oG
  generalize h1 : (.cells #[.bool false, .int .i64 0, .bool false, .int .i64 0] 70 : Obj) = o1
  generalize h2 : (.cells #[.bool true, .int .i64 0] 70 : Obj) = o2
  generalize h3 : (.cells #[.int .i64 0, .slice (some ⟨w.heap.size + 1, 0, none⟩) 2 2, .int .i64 0, .slice (some ⟨w.heap.size + 1 + 1, 0, none⟩) 1 1] 99 : Obj) = o3
  have e0 : ((((w.alloc oG).alloc o1).alloc o2).alloc o3).heap[w.heap.size]? = some oG := by
    rw [Below.heap_alloc _ _ _ (by simp only [World.size_alloc]; omega), Below.heap_alloc _ _ _ (by simp only [World.size_alloc]; omega), Below.heap_alloc _ _ _ (by simp only [World.size_alloc]; omega), heap_alloc_new]
  have e1 : ((((w.alloc oG).alloc o1).alloc o2).alloc o3).heap[w.heap.size + 1]? = some o1 := by
    rw [Below.heap_alloc _ _ _ (by simp only [World.size_alloc]; omega), Below.heap_alloc _ _ _ (by simp only [World.size_alloc]; omega), show w.heap.size + 1 = (w.alloc oG).heap.size by rw [World.size_alloc], heap_alloc_new]
  have e2 : ((((w.alloc oG).alloc o1).alloc o2).alloc o3).heap[w.heap.size + 1 + 1]? = some o2 := by
    rw [Below.heap_alloc _ _ _ (by simp only [World.size_alloc]; omega), show w.heap.size + 1 + 1 = ((w.alloc oG).alloc o1).heap.size by rw [World.size_alloc, World.size_alloc], heap_alloc_new]
  have e3 : ((((w.alloc oG).alloc o1).alloc o2).alloc o3).heap[w.heap.size + 1 + 1 + 1]? = some o3 := by
    rw [show w.heap.size + 1 + 1 + 1 = (((w.alloc oG).alloc o1).alloc o2).heap.size by rw [World.size_alloc, World.size_alloc, World.size_alloc], heap_alloc_new]
  have hb : Below w.heap.size w ((((w.alloc oG).alloc o1).alloc o2).alloc o3) := ((((Below.refl _ _).alloc (Nat.le_refl _) _).alloc (by simp only [World.size_alloc]; omega) _).alloc (by simp only [World.size_alloc]; omega) _).alloc (by simp only [World.size_alloc]; omega) _
  generalize ((((w.alloc oG).alloc o1).alloc o2).alloc o3) = W at e0 e1 e2 e3 hb ⊢
  subst hG
  subst h1
  subst h2
  subst h3
  refine bodyPost_ret (results_cell rfl rfl (run_loadVar_row _ w.heap.size 25 25 #[.int .i64 1, .int .i64 1, .int .i64 0, .slice (some ⟨w.heap.size + 1 + 1 + 1, 0, none⟩) 2 2] (0, 0) _ e0 Tryz.underlying25 rfl (by kernel_rfl))) rfl ?_
  refine ⟨_, rfl, hb, _, _, rfl, by decide, fun k hk => ⟨w.heap.size + 1 + 1 + 1, 0, rfl, by omega, blk_lt e3, ?_⟩⟩
  match k, hk with
  | 0, _ =>
    refine ⟨⟨by omega, blk_cell e3 rfl⟩, by omega, _, _, blk_cell e3 rfl, Nat.le_refl _, _, _, rfl, (show 2 ≤ 9223372036854775807 by decide), fun j hj => ⟨w.heap.size + 1, 0, rfl, by omega, blk_lt e1, ?_⟩⟩
    match j, hj with
    | 0, _ => exact ⟨⟨by omega, blk_cell e1 rfl⟩, by omega, blk_cell e1 rfl⟩
    | 1, _ => exact ⟨⟨by omega, blk_cell e1 rfl⟩, by omega, blk_cell e1 rfl⟩
  | 1, _ =>
    refine ⟨⟨by omega, blk_cell e3 rfl⟩, by omega, _, _, blk_cell e3 rfl, Nat.le_refl _, _, _, rfl, (show 1 ≤ 9223372036854775807 by decide), fun j hj => ⟨w.heap.size + 1 + 1, 0, rfl, by omega, blk_lt e2, ?_⟩⟩
    match j, hj with
    | 0, _ => exact ⟨⟨by omega, blk_cell e2 rfl⟩, by omega, blk_cell e2 rfl⟩
end Go.Proofs.YtdbkbkopcnkgcaaGreat

open Go Go.RowKit
namespace Go.Proofs.YtdbkbkopcnkgcaaGreat

/-! ### the forest of the facts, as it is -/
def doubF : ForD := ⟨[⟨⟨true, 0⟩, 0, 1, []⟩, ⟨⟨false, 0⟩, 0, 1, [⟨1, [0]⟩]⟩, ⟨⟨false, 0⟩, 0, 2, [⟨0, [1, 4]⟩]⟩, ⟨⟨true, 0⟩, 1, 2, []⟩, ⟨⟨false, 0⟩, 1, 2, [⟨1, [3]⟩]⟩], 2⟩
def doubKeys : List Part := [⟨⟨true, 0⟩, 0, 1⟩, ⟨⟨false, 0⟩, 0, 1⟩, ⟨⟨false, 0⟩, 0, 2⟩, ⟨⟨true, 0⟩, 1, 2⟩, ⟨⟨false, 0⟩, 1, 2⟩]

theorem doub_ways : (reachF doubG [0, 0] doubM 4000 (rootF doubG [0, 0]) ⟨[], 0⟩).map (fun s => (s.ways, s.many)) = some ([(⟨⟨false, 0⟩, 0, 2⟩, [⟨0, [⟨⟨false, 0⟩, 0, 1⟩, ⟨⟨false, 0⟩, 1, 2⟩]⟩]), (⟨⟨false, 0⟩, 0, 1⟩, [⟨1, [⟨⟨true, 0⟩, 0, 1⟩]⟩]), (⟨⟨true, 0⟩, 0, 1⟩, []), (⟨⟨false, 0⟩, 1, 2⟩, [⟨1, [⟨⟨true, 0⟩, 1, 2⟩]⟩]), (⟨⟨true, 0⟩, 1, 2⟩, [])], 3) := by decide +kernel

theorem doub_forest : madeF doubG [0, 0] doubM = (doubF, 0) := by
  have h := doub_ways
  unfold madeF
  rw [if_neg (by decide)]
  cases hr : reachF doubG [0, 0] doubM 4000 (rootF doubG [0, 0]) ⟨[], 0⟩ with
  | none => rw [hr] at h; cases h
  | some s =>
    rw [hr] at h
    obtain ⟨ways, many⟩ := s
    simp only [Option.map_some, Option.some.injEq, Prod.mk.injEq] at h
    obtain ⟨rfl, rfl⟩ := h
    simp only
    rw [if_neg (by decide)]
    have hk : keysF ⟨[(⟨⟨false, 0⟩, 0, 2⟩, [⟨0, [⟨⟨false, 0⟩, 0, 1⟩, ⟨⟨false, 0⟩, 1, 2⟩]⟩]), (⟨⟨false, 0⟩, 0, 1⟩, [⟨1, [⟨⟨true, 0⟩, 0, 1⟩]⟩]), (⟨⟨true, 0⟩, 0, 1⟩, []), (⟨⟨false, 0⟩, 1, 2⟩, [⟨1, [⟨⟨true, 0⟩, 1, 2⟩]⟩]), (⟨⟨true, 0⟩, 1, 2⟩, [])], 3⟩ = doubKeys := by
      unfold keysF
      rw [parts_sorted (m := doubKeys) (by decide)]
      exact List.mergeSort_of_pairwise (by decide)
    unfold forestF
    rw [hk]
    simp [doubKeys, doubF, nodeF, alook, packF]
    decide

/-! ### the number of trees in a forest: the plain side -/
def maxCount : Int := 1000000000
/-- the number m of a kid is taken into a product -/
def mulC (a m : Int) : Int := if m = -1 ∨ a = -1 then -1 else min (a * m) maxCount
/-- a product is taken into a sum -/
def addC (s a : Int) : Int := if a = -1 ∨ s = -1 then -1 else min (s + a) maxCount

structure CS where
  done : List Int
  op : List Bool
deriving DecidableEq, Repr, Inhabited

def cntF (ns : List NodeD) : Nat → Nat → CS → Option (Int × CS)
  | 0, _, _ => none
  | f + 1, n, s => match ns[n]? with
    | none => none
    | some nd =>
      if nd.y.t = true then some (1, s)
      else if s.op.getD n false = true then some (-1, s)
      else if s.done.getD n 0 ≠ 0 then some (s.done.getD n 0, s)
      else (nd.packs.foldlM (fun (q : Int × CS) (p : PackD) => (p.kids.foldlM (fun (q : Int × CS) k => (cntF ns f k.toNat q.2).map fun r => (mulC q.1 r.1, r.2)) (1, q.2)).map fun r => (addC q.1 r.1, r.2)) (0, ⟨s.done, s.op.set n true⟩)).map fun r => (r.1, ⟨r.2.done.set n r.1, r.2.op.set n false⟩)

/-- numbers that a count can be -/
def CntV (v : Int) : Prop := -1 ≤ v ∧ v ≤ maxCount
theorem mulC_v {a m : Int} (h1 : CntV a) (h2 : CntV m) : CntV (mulC a m) := by
  unfold mulC CntV at *
  split
  · unfold maxCount; omega
  · have h3 : 0 ≤ a := by omega
    have h4 : 0 ≤ m := by omega
    have := Int.mul_nonneg h3 h4
    unfold maxCount at *
    omega
theorem addC_v {a m : Int} (h1 : CntV a) (h2 : CntV m) : CntV (addC a m) := by
  unfold addC CntV at *
  unfold maxCount at *
  split <;> omega

structure CSOk (ns : List NodeD) (s : CS) : Prop where
  done : s.done.length = ns.length
  op : s.op.length = ns.length
  val : ∀ v ∈ s.done, CntV v

theorem cntF_ok {ns : List NodeD} : ∀ (f n : Nat) (s : CS) (r : Int × CS), cntF ns f n s = some r → CSOk ns s → CntV r.1 ∧ CSOk ns r.2
  | 0, n, s, r, h, _ => by rw [cntF] at h; cases h
  | f + 1, n, s, r, h, hs => by
    rw [cntF] at h
    cases hn : ns[n]? with
    | none => rw [hn] at h; cases h
    | some nd =>
      rw [hn] at h
      simp only at h
      split at h
      · injection h with h; subst h; exact ⟨by unfold CntV maxCount; simp only; omega, hs⟩
      · split at h
        · injection h with h; subst h; exact ⟨by unfold CntV maxCount; simp only; omega, hs⟩
        · split at h
          · injection h with h
            subst h
            refine ⟨?_, hs⟩
            simp only
            rw [List.getD_eq_getElem?_getD]
            cases hd : s.done[n]? with
            | none => unfold CntV maxCount; simp
            | some v => exact hs.val v (List.mem_of_getElem? hd)
          · obtain ⟨r2, h1, rfl⟩ := Option.map_eq_some_iff.1 h
            have key := foldlM_inv (P := fun q : Int × CS => CntV q.1 ∧ CSOk ns q.2) _ _ _ h1 ⟨by unfold CntV maxCount; simp, ⟨hs.done, by simp [hs.op], hs.val⟩⟩ (fun q p q1 hq _ h2 => by
              obtain ⟨r3, h3, rfl⟩ := Option.map_eq_some_iff.1 h2
              have k2 := foldlM_inv (P := fun q : Int × CS => CntV q.1 ∧ CSOk ns q.2) _ _ _ h3 ⟨by unfold CntV maxCount; simp, hq.2⟩ (fun q2 k q3 hq2 _ h4 => by
                obtain ⟨r5, h5, rfl⟩ := Option.map_eq_some_iff.1 h4
                have k3 := cntF_ok f _ _ _ h5 hq2.2
                exact ⟨mulC_v hq2.1 k3.1, k3.2⟩)
              exact ⟨addC_v hq.1 k2.1, k2.2⟩)
            refine ⟨key.1, ⟨by simp [key.2.done], by simp [key.2.op], fun v hv => ?_⟩⟩
            rcases List.mem_or_eq_of_mem_set hv with hv | hv
            · exact key.2.val v hv
            · rw [hv]; exact key.1

theorem doub_count : (cntF doubF.nodes 6 2 ⟨[0, 0, 0, 0, 0], [false, false, false, false, false]⟩).map (·.1) = some 1 := by decide +kernel

/-- the word of a forest, as it reads it from its leaves -/
structure WS where
  w : List Int
  seen : List Bool
deriving DecidableEq, Repr, Inhabited
def wordStep (s : WS) (n : NodeD) : WS := if n.y.t = true ∧ n.i < s.w.length then ⟨s.w.set n.i n.y.n, s.seen.set n.i true⟩ else s
def wordF (ns : List NodeD) (m : Nat) : WS := ns.foldl wordStep ⟨List.replicate m 0, List.replicate m false⟩
theorem doub_word : wordF doubF.nodes 2 = ⟨[0, 0], [true, true]⟩ := by decide
end Go.Proofs.YtdbkbkopcnkgcaaGreat
