import Derived.Test.YtcndbohiiodndaaEarley
import Derived.Test.YtcndbohiiodndaaMade
open Go Go.RowKit
namespace Go.Proofs.Ytcndbohiiodndaa

def chainG : Gram := ⟨2, 1, 0, [⟨0, [⟨true, 0⟩, ⟨false, 0⟩]⟩, ⟨0, [⟨true, 1⟩]⟩]⟩

theorem chain_valid : Valid chainG := by
  refine ⟨by decide, by decide, by decide, by decide, by decide, by decide, by decide, ?_, by decide⟩
  intro r hr
  simp only [chainG, List.mem_cons, List.not_mem_nil, or_false] at hr
  rcases hr with rfl | rfl
  · refine ⟨by decide, by decide, by decide, fun y hy => ?_⟩
    simp only [List.mem_cons, List.not_mem_nil, or_false] at hy
    rcases hy with rfl | rfl <;> exact ⟨by decide, by decide, by decide⟩
  · refine ⟨by decide, by decide, by decide, fun y hy => ?_⟩
    simp only [List.mem_cons, List.not_mem_nil, or_false] at hy
    rcases hy with rfl
    exact ⟨by decide, by decide, by decide⟩

theorem chain_last (x : List Int) (i : Nat) (h : x[i]? = some 1) : Drv chainG x [⟨false, 0⟩] i (i + 1) := by
  have hl := (List.getElem?_eq_some_iff.1 h).1
  exact .non (r := ⟨0, [⟨true, 1⟩]⟩) (by simp [chainG]) rfl (.term h (.nil _ (by omega))) (.nil _ (by omega))
theorem chain_more (x : List Int) (i j : Nat) (h : x[i]? = some 0) (hd : Drv chainG x [⟨false, 0⟩] (i + 1) j) : Drv chainG x [⟨false, 0⟩] i j := by
  have hj := (drv_le hd).2
  exact .non (r := ⟨0, [⟨true, 0⟩, ⟨false, 0⟩]⟩) (by simp [chainG]) rfl (.term h hd) (.nil _ hj)

theorem chain_rules {m : Nat} {r : Rule} (h : chainG.rules[m]? = some r) : (m = 0 ∧ r = ⟨0, [⟨true, 0⟩, ⟨false, 0⟩]⟩) ∨ (m = 1 ∧ r = ⟨0, [⟨true, 1⟩]⟩) := by
  match m, h with
  | 0, h => simp [chainG] at h; exact .inl ⟨rfl, h.symm⟩
  | 1, h => simp [chainG] at h; exact .inr ⟨rfl, h.symm⟩
  | m + 2, h => simp [chainG] at h

def ChainP (k : Nat) (z : Item) : Prop := (k = 0 ∧ (z = (0, 0, 0) ∨ z = (1, 0, 0))) ∨ (k = 1 ∧ (z = (0, 1, 0) ∨ z = (0, 0, 1) ∨ z = (1, 0, 1))) ∨ (k = 2 ∧ (z = (1, 1, 1) ∨ z = (0, 2, 0)))

theorem chain_items {gd : List Bool} {k : Nat} {z : Item} (h : EI chainG gd [0, 1] k z) : ChainP k z := by
  induction h with
  | init m r hr _ _ =>
    rcases chain_rules hr with ⟨rfl, _⟩ | ⟨rfl, _⟩
    · exact .inl ⟨rfl, .inl rfl⟩
    · exact .inl ⟨rfl, .inr rfl⟩
  | scan k m e h r t _ hr he hx ih =>
    rcases ih with ⟨rfl, h1 | h1⟩ | ⟨rfl, h1 | h1 | h1⟩ | ⟨rfl, h1 | h1⟩ <;> simp only [Prod.mk.injEq] at h1 <;> obtain ⟨rfl, rfl, rfl⟩ := h1 <;>
      rcases chain_rules hr with ⟨h2, rfl⟩ | ⟨h2, rfl⟩ <;> simp at h2 he hx <;> first | omega | (simp [ChainP]; done) | (subst he; simp at hx)
  | pred k z r n m r' _ hr he hm hl hg ih =>
    rcases ih with ⟨rfl, rfl | rfl⟩ | ⟨rfl, rfl | rfl | rfl⟩ | ⟨rfl, rfl | rfl⟩ <;> rcases chain_rules hr with ⟨h2, rfl⟩ | ⟨h2, rfl⟩ <;> simp at h2 he <;>
      rcases chain_rules hm with ⟨rfl, _⟩ | ⟨rfl, _⟩ <;> simp [ChainP]
  | compl k z r m e h r' _ hr hd _ hm he ih ih2 =>
    rcases ih with ⟨rfl, rfl | rfl⟩ | ⟨rfl, rfl | rfl | rfl⟩ | ⟨rfl, rfl | rfl⟩ <;> rcases chain_rules hr with ⟨h2, rfl⟩ | ⟨h2, rfl⟩ <;> simp at h2 hd <;>
      rcases ih2 with ⟨h3, h1 | h1⟩ | ⟨h3, h1 | h1 | h1⟩ | ⟨h3, h1 | h1⟩ <;> simp at h3 <;> simp only [Prod.mk.injEq] at h1 <;> obtain ⟨rfl, rfl, rfl⟩ := h1 <;>
      rcases chain_rules hm with ⟨h2, rfl⟩ | ⟨h2, rfl⟩ <;> simp at h2 he <;> simp [ChainP]

theorem chain_end {gd : List Bool} (t : Int) : ¬ NextT chainG (EI chainG gd [0, 1] 2) t := by
  rintro ⟨m, e, h, r, hz, hr, he⟩
  rcases chain_items hz with ⟨h3, _⟩ | ⟨h3, _⟩ | ⟨_, h1 | h1⟩
  · omega
  · omega
  · simp only [Prod.mk.injEq] at h1
    obtain ⟨rfl, rfl, rfl⟩ := h1
    rcases chain_rules hr with ⟨h2, rfl⟩ | ⟨h2, rfl⟩ <;> simp at he h2
  · simp only [Prod.mk.injEq] at h1
    obtain ⟨rfl, rfl, rfl⟩ := h1
    rcases chain_rules hr with ⟨_, rfl⟩ | ⟨h2, rfl⟩ <;> simp at he
theorem chain_mid {gd : List Bool} : ¬ NextE chainG (EI chainG gd [0, 1] 1) := by
  rintro ⟨m, e, h, r, hz, hr, he, h0, _⟩
  rcases chain_items hz with ⟨h3, _⟩ | ⟨_, h1 | h1 | h1⟩ | ⟨h3, _⟩
  · omega
  all_goals first
    | omega
    | (simp only [Prod.mk.injEq] at h1
       obtain ⟨rfl, rfl, rfl⟩ := h1
       rcases chain_rules hr with ⟨h2, rfl⟩ | ⟨h2, rfl⟩ <;> simp at he h0 h2)

set_option maxRecDepth 100000 in
set_option maxHeartbeats 1600000 in
theorem chain_any (w : World) : Calls Try.prog 69 #[] w fun e w' => ∃ A, e = .returned (gramV chainG (.slice A 2 2)) ∧ Below w.heap.size w w' ∧ IsSl Elt.rule (fun _ => True) w' (.slice A 2 2) chainG.rules := by
  go_enter Try.func69, Try.ntmps69
  go_wp2_with fail
  generalize hG : (.cells #[.int .i64 2, .int .i64 1, .int .i64 0, .slice (some ⟨w.heap.size + 1 + 1 + 1, 0, none⟩) 2 2] 25 : Obj) = oG
  generalize h1 : (.cells #[.bool true, .int .i64 0, .bool false, .int .i64 0] 67 : Obj) = o1
  generalize h2 : (.cells #[.bool true, .int .i64 1] 67 : Obj) = o2
  generalize h3 : (.cells #[.int .i64 0, .slice (some ⟨w.heap.size + 1, 0, none⟩) 2 2, .int .i64 0, .slice (some ⟨w.heap.size + 1 + 1, 0, none⟩) 1 1] 60 : Obj) = o3
  have e0 : ((((w.alloc oG).alloc o1).alloc o2).alloc o3).heap[w.heap.size]? = some oG := by
    rw [Below.heap_alloc _ _ _ (by simp only [World.size_alloc]; omega), Below.heap_alloc _ _ _ (by simp only [World.size_alloc]; omega), Below.heap_alloc _ _ _ (by simp only [World.size_alloc]; omega), heap_alloc_new]
  have e1 : ((((w.alloc oG).alloc o1).alloc o2).alloc o3).heap[w.heap.size + 1]? = some o1 := by
    rw [Below.heap_alloc _ _ _ (by simp only [World.size_alloc]; omega), Below.heap_alloc _ _ _ (by simp only [World.size_alloc]; omega), show w.heap.size + 1 = (w.alloc oG).heap.size by rw [World.size_alloc], heap_alloc_new]
  have e2 : ((((w.alloc oG).alloc o1).alloc o2).alloc o3).heap[w.heap.size + 1 + 1]? = some o2 := by
    rw [Below.heap_alloc _ _ _ (by simp only [World.size_alloc]; omega), show w.heap.size + 1 + 1 = ((w.alloc oG).alloc o1).heap.size by rw [World.size_alloc, World.size_alloc], heap_alloc_new]
  have e3 : ((((w.alloc oG).alloc o1).alloc o2).alloc o3).heap[w.heap.size + 1 + 1 + 1]? = some o3 := by
    rw [show w.heap.size + 1 + 1 + 1 = (((w.alloc oG).alloc o1).alloc o2).heap.size by rw [World.size_alloc, World.size_alloc, World.size_alloc], heap_alloc_new]
  have hb : Below w.heap.size w ((((w.alloc oG).alloc o1).alloc o2).alloc o3) := ((((Below.refl _ _).alloc (Nat.le_refl _) _).alloc (by simp only [World.size_alloc]; omega) _).alloc (by simp only [World.size_alloc]; omega) _).alloc (by simp only [World.size_alloc]; omega) _
  generalize ((((w.alloc oG).alloc o1).alloc o2).alloc o3) = W at e0 e1 e2 e3 hb ⊢
  subst hG
  subst h1
  subst h2
  subst h3
  refine bodyPost_ret (results_cell rfl rfl (run_loadVar_row _ w.heap.size 25 25 #[.int .i64 2, .int .i64 1, .int .i64 0, .slice (some ⟨w.heap.size + 1 + 1 + 1, 0, none⟩) 2 2] (0, 0) _ e0 Try.underlying25 rfl (by kernel_rfl))) rfl ?_
  refine ⟨_, rfl, hb, _, _, rfl, by decide, fun k hk => ⟨w.heap.size + 1 + 1 + 1, 0, rfl, trivial, blk_lt e3, ?_⟩⟩
  match k, hk with
  | 0, _ =>
    refine ⟨⟨trivial, blk_cell e3 rfl⟩, trivial, _, _, blk_cell e3 rfl, Nat.le_refl _, _, _, rfl, (show 2 ≤ 9223372036854775807 by decide), fun j hj => ⟨w.heap.size + 1, 0, rfl, trivial, blk_lt e1, ?_⟩⟩
    match j, hj with
    | 0, _ => exact ⟨⟨trivial, blk_cell e1 rfl⟩, trivial, blk_cell e1 rfl⟩
    | 1, _ => exact ⟨⟨trivial, blk_cell e1 rfl⟩, trivial, blk_cell e1 rfl⟩
  | 1, _ =>
    refine ⟨⟨trivial, blk_cell e3 rfl⟩, trivial, _, _, blk_cell e3 rfl, Nat.le_refl _, _, _, rfl, (show 1 ≤ 9223372036854775807 by decide), fun j hj => ⟨w.heap.size + 1 + 1, 0, rfl, trivial, blk_lt e2, ?_⟩⟩
    match j, hj with
    | 0, _ => exact ⟨⟨trivial, blk_cell e2 rfl⟩, trivial, blk_cell e2 rfl⟩
end Go.Proofs.Ytcndbohiiodndaa
