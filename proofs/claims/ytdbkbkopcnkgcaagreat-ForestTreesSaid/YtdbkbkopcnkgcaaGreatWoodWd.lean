import Derived.WalkKit
import Derived.OrdersHeld
import Derived.Test.YtdbkbkopcnkgcaaGreatGramC
import Derived.Test.YtdbkbkopcnkgcaaGreatWorld
import Derived.Test.YtdbkbkopcnkgcaaGreatWoodC
open Go Go.RowKit
namespace Go.Proofs.YtdbkbkopcnkgcaaGreat

/-! ### loads of a region that draws its order, where a later operation of the same region writes what they read
The loads are taken first; what they read must hold behind each operation until one that waitsD for them (dep) has come up. -/
section
variable {P : Program} {ops : Array Oper} {Q : Exit → Act → World → Prop} {md : Region.Mode} {S : World → Prop} {dep : Nat}

def Until (S : World → Prop) (dep : Nat) (listed : Array Bool) (w : World) : Prop := listed.getD dep true = false → S w

def wpAnyD (P : Program) (md : Region.Mode) (ops : Array Oper) (Q : Exit → Act → World → Prop) (S : World → Prop) (dep : Nat) : Nat → Array Bool → Act → World → Prop
  | 0, l, a, w => Region.ready md ops l = [] ∧ Q .normal a w
  | n + 1, l, a, w => (Region.ready md ops l = [] → Q .normal a w) ∧ ∀ j ∈ Region.ready md ops l, wpOp P ops Q j (fun a' w' => Until S dep (l.setIfInBounds j true) w' ∧ wpAnyD P md ops Q S dep n (l.setIfInBounds j true) a' w') a w

theorem wpAny_of_D : ∀ (n : Nat) (l : Array Bool) (a : Act) (w : World), wpAnyD P md ops Q S dep n l a w → wpAny P md ops Q n l a w
  | 0, _, _, _, h => h
  | n + 1, _, _, _, h => ⟨h.1, fun j hj => wpOp_mono (fun a' w' h' => wpAny_of_D n _ a' w' h'.2) (h.2 j hj)⟩

theorem getD_up {l : Array Bool} {j k : Nat} (h : l.getD k true = true) : (l.setIfInBounds j true).getD k true = true := by
  by_cases e : j = k
  · subst e
    by_cases hl : j < l.size
    · simp [hl]
    · simp
  · rw [getD_set_ne true e]; exact h

/-- behind dep nothing more is asked -/
theorem wpAnyD_of : ∀ (n : Nat) (l : Array Bool) (a : Act) (w : World), l.getD dep true = true → wpAny P md ops Q n l a w → wpAnyD P md ops Q S dep n l a w
  | 0, _, _, _, _, h => h
  | n + 1, _, _, _, hd, h => ⟨h.1, fun j hj => wpOp_mono (fun a' w' h' => ⟨fun e => (by rw [getD_up hd] at e; cases e), wpAnyD_of n _ a' w' (getD_up hd) h'⟩) (h.2 j hj)⟩

/-- number m waitsD for number i -/
def waitsFor (md : Region.Mode) (ops : Array Oper) (m i : Nat) : Bool := match ops[m]? with
  | some o => o.after.any fun e => Region.binds md e && e.on == i
  | none => false

theorem waitsD {m i : Nat} (h : waitsFor md ops m i = true) {l : Array Bool} (hi : l.getD i true = false) : m ∉ Region.ready md ops l := fun hm => by
  obtain ⟨_, o, ho, hall⟩ := mem_ready.1 hm
  unfold waitsFor at h
  rw [ho] at h
  simp only at h
  rw [Array.any_eq_true] at h
  obtain ⟨k, hk, h⟩ := h
  rw [Bool.and_eq_true] at h
  have h2 := hall _ (Array.getElem_mem hk) h.1
  rw [eq_of_beq h.2] at h2
  rcases Nat.lt_or_ge i l.size with h' | h'
  · simp [h'] at hi h2; rw [hi] at h2; cases h2
  · simp [Array.getElem?_eq_none h'] at h2

theorem wpAnyD_first {i mid : Nat} {oi : Oper} {v : Value} (hi : ops[i]? = some oi) (hsel : ∀ (j : Nat) (o : Oper) cs b, ops[j]? = some o → o.op ≠ .select cs b)
    (hQ : ∀ c a w, Q (.panic c) (a.put oi.dst v) w → Q (.panic c) a w) (hm : waitsFor md ops mid i = true) (hd : mid = dep ∨ waitsFor md ops dep mid = true) (hid : i ≠ dep) :
    ∀ (n : Nat) (l : Array Bool) (a : Act) (w : World),
      (∀ j oj, ops[j]? = some oj → j ≠ i → l.getD j true = false → (∀ e ∈ oj.after, Region.binds md e = true → e.on ≠ i) → oi.apart ops oj = true) →
      i ∈ Region.ready md ops l → l.getD mid true = false → l.getD dep true = false → YieldsIf P ops S oi v a → S w →
      wpAnyD P md ops Q S dep n (l.setIfInBounds i true) (a.put oi.dst v) w → wpAnyD P md ops Q S dep (n + 1) l a w := by
  intro n
  induction n with
  | zero =>
    intro l a w _ hr _ _ hy hS H
    refine ⟨fun h => (by rw [h] at hr; cases hr), fun j hj => ?_⟩
    by_cases hji : j = i
    · subst hji; exact hy.wpOp hi hS ⟨fun _ => hS, H⟩
    · have := ready_mono hj hji
      rw [H.1] at this
      cases this
  | succ n ih =>
    intro l a w hfree hr hmid hdep hy hS H
    refine ⟨fun h => (by rw [h] at hr; cases hr), fun j hj => ?_⟩
    by_cases hji : j = i
    · subst hji; exact hy.wpOp hi hS ⟨fun _ => hS, H⟩
    · have hil := (mem_ready.1 hr).1
      have hjm : j ≠ mid := fun e => waitsD hm hil (e ▸ hj)
      have hjd : j ≠ dep := fun e => by
        rcases hd with hd | hd
        · exact hjm (e.trans hd.symm)
        · exact waitsD hd hmid (e ▸ hj)
      have h1 := H.2 j (ready_mono hj hji)
      obtain ⟨hjun, oj, hoj, hall⟩ := mem_ready.1 hj
      have hnot : ∀ e ∈ oj.after, Region.binds md e = true → e.on ≠ i := fun e he hb heq => by
        have h2 := hall e he hb
        rw [heq] at h2
        rcases Nat.lt_or_ge i l.size with h' | h'
        · simp [h'] at hil h2; rw [hil] at h2; cases h2
        · simp [Array.getElem?_eq_none h'] at h2
      have h2 := wpOp_putIf hoj (hfree j oj hoj hji hjun hnot) (fun cs b => hsel i oi cs b hi) (fun cs b => hsel j oj cs b hoj) hQ hy h1
      refine wpOp_mono (fun a' w' h3 => ?_) h2
      have hS' : S w' := h3.2.1 (by rw [getD_set_ne true hjd, getD_set_ne true hid]; exact hdep)
      refine ⟨fun _ => hS', ih (l.setIfInBounds j true) a' w' (fun k ok hk hki hun hno => hfree k ok hk hki ?_ hno) (ready_mono hr (Ne.symm hji)) (by rw [getD_set_ne true hjm]; exact hmid) (by rw [getD_set_ne true hjd]; exact hdep) h3.1 hS' ?_⟩
      · by_cases hjk : j = k
        · subst hjk; exact hjun
        · rw [getD_set_ne true hjk] at hun; exact hun
      · rw [Array.setIfInBounds_comm _ _ hji]
        exact h3.2.2

/-- number i is taken first; mid waitsD for it, dep for mid (or dep is mid) -/
theorem wpAnyD_take {i : Nat} (mid : Nat) {oi : Oper} {v : Value} {n : Nat} {l : Array Bool} {a : Act} {w : World} (hi : ops[i]? = some oi)
    (hs : Region.noSelect ops = true) (hf : Region.free md ops l i = true) (hr : (Region.ready md ops l).contains i = true) (hm : waitsFor md ops mid i = true) (hd : mid = dep ∨ waitsFor md ops dep mid = true) (hid : i ≠ dep)
    (hml : l.getD mid true = false) (hdl : l.getD dep true = false) (hQ : ∀ c a w, Q (.panic c) (a.put oi.dst v) w → Q (.panic c) a w) (hw : Region.wanted oi (yielded ops a.tmps) = true) (hy : ∀ w, S w → (execOp a.eval oi).run P w = .ok (.value v) w) (hS : S w)
    (h : wpAnyD P md ops Q S dep n (l.setIfInBounds i true) (a.put oi.dst v) w) : wpAnyD P md ops Q S dep (n + 1) l a w :=
  wpAnyD_first hi (Region.noSelect_spec hs) hQ hm hd hid n l a w (Region.free_spec hi hf) (by simpa using hr) hml hdl (.inl ⟨hw, hy⟩) hS h

/-- each of those that may come up comes up -/
def EachD (P : Program) (md : Region.Mode) (ops : Array Oper) (Q : Exit → Act → World → Prop) (S : World → Prop) (dep n : Nat) (l : Array Bool) (a : Act) (w : World) (rs : List Nat) : Prop :=
  ∀ j ∈ rs, wpOp P ops Q j (fun a' w' => Until S dep (l.setIfInBounds j true) w' ∧ wpAnyD P md ops Q S dep n (l.setIfInBounds j true) a' w') a w
theorem wpAnyD_each {rs : List Nat} {n : Nat} {l : Array Bool} {a : Act} {w : World} (hr : Region.ready md ops l = rs) (hne : rs ≠ []) (h : EachD P md ops Q S dep n l a w rs) : wpAnyD P md ops Q S dep (n + 1) l a w :=
  ⟨fun h0 => absurd (hr ▸ h0) hne, hr ▸ h⟩
theorem EachD.nil {n : Nat} {l : Array Bool} {a : Act} {w : World} : EachD P md ops Q S dep n l a w [] := fun _ h => by cases h
theorem EachD.cons {n : Nat} {l : Array Bool} {a : Act} {w : World} {i : Nat} {o : Oper} {rs : List Nat} (ho : ops[i]? = some o)
    (h : ∀ K : Act → World → Prop, (∀ a' w', Until S dep (l.setIfInBounds i true) w' → wpAnyD P md ops Q S dep n (l.setIfInBounds i true) a' w' → K a' w') → if Region.wanted o (yielded ops a.tmps) = true then Oper.wp P o a w K Q else K (a.put o.dst undef) w)
    (hs : EachD P md ops Q S dep n l a w rs) : EachD P md ops Q S dep n l a w (i :: rs) := fun j hj => by
  rcases List.mem_cons.1 hj with rfl | hj
  · exact wpOp_step ho fun K' hK => h K' fun a' w' h1 h2 => hK a' w' ⟨h1, h2⟩
  · exact hs j hj
end
end Go.Proofs.YtdbkbkopcnkgcaaGreat

open Go Go.RowKit
namespace Go.Proofs.YtdbkbkopcnkgcaaGreat

section
variable {P : Program} {ops : Array Oper} {Q : Exit → Act → World → Prop} {md : Region.Mode} {S : World → Prop} {dep : Nat}

/-- each waits for the one before it -/
def chainD (md : Region.Mode) (ops : Array Oper) : Nat → List Nat → Bool
  | _, [] => true
  | i, m :: ms => waitsFor md ops m i && chainD md ops m ms
theorem chain_not {l : Array Bool} : ∀ (ms : List Nat) (i : Nat), chainD md ops i ms = true → l.getD i true = false → (∀ m ∈ ms, l.getD m true = false) → ∀ m ∈ ms, m ∉ Region.ready md ops l
  | [], _, _, _, _ => by simp
  | m :: ms, i, hc, hi, hp => by
    unfold chainD at hc
    rw [Bool.and_eq_true] at hc
    intro k hk
    rcases List.mem_cons.1 hk with rfl | hk
    · exact waitsD hc.1 hi
    · exact chain_not ms m hc.2 (hp m (List.mem_cons_self ..)) (fun q hq => hp q (List.mem_cons_of_mem _ hq)) k hk

theorem wpAnyD_firstB {i : Nat} {ms : List Nat} {oi : Oper} {v : Value} (hi : ops[i]? = some oi) (hsel : ∀ (j : Nat) (o : Oper) cs b, ops[j]? = some o → o.op ≠ .select cs b)
    (hQ : ∀ c a w, Q (.panic c) (a.put oi.dst v) w → Q (.panic c) a w) (hc : chainD md ops i ms = true) (hd : dep ∈ ms) (hid : i ≠ dep) :
    ∀ (n : Nat) (l : Array Bool) (a : Act) (w : World),
      (∀ j oj, ops[j]? = some oj → j ≠ i → l.getD j true = false → (∀ e ∈ oj.after, Region.binds md e = true → e.on ≠ i) → oi.apart ops oj = true) →
      i ∈ Region.ready md ops l → (∀ m ∈ ms, l.getD m true = false) → YieldsIf P ops S oi v a → S w →
      wpAnyD P md ops Q S dep n (l.setIfInBounds i true) (a.put oi.dst v) w → wpAnyD P md ops Q S dep (n + 1) l a w := by
  intro n
  induction n with
  | zero =>
    intro l a w _ hr _ hy hS H
    refine ⟨fun h => (by rw [h] at hr; cases hr), fun j hj => ?_⟩
    by_cases hji : j = i
    · subst hji; exact hy.wpOp hi hS ⟨fun _ => hS, H⟩
    · have := ready_mono hj hji
      rw [H.1] at this
      cases this
  | succ n ih =>
    intro l a w hfree hr hms hy hS H
    refine ⟨fun h => (by rw [h] at hr; cases hr), fun j hj => ?_⟩
    by_cases hji : j = i
    · subst hji; exact hy.wpOp hi hS ⟨fun _ => hS, H⟩
    · have hil := (mem_ready.1 hr).1
      have hjm : ∀ m ∈ ms, j ≠ m := fun m hm e => chain_not ms i hc hil hms m hm (e ▸ hj)
      have h1 := H.2 j (ready_mono hj hji)
      obtain ⟨hjun, oj, hoj, hall⟩ := mem_ready.1 hj
      have hnot : ∀ e ∈ oj.after, Region.binds md e = true → e.on ≠ i := fun e he hb heq => by
        have h2 := hall e he hb
        rw [heq] at h2
        rcases Nat.lt_or_ge i l.size with h' | h'
        · simp [h'] at hil h2; rw [hil] at h2; cases h2
        · simp [Array.getElem?_eq_none h'] at h2
      have h2 := wpOp_putIf hoj (hfree j oj hoj hji hjun hnot) (fun cs b => hsel i oi cs b hi) (fun cs b => hsel j oj cs b hoj) hQ hy h1
      refine wpOp_mono (fun a' w' h3 => ?_) h2
      have hS' : S w' := h3.2.1 (by rw [getD_set_ne true (hjm _ hd), getD_set_ne true hid]; exact hms _ hd)
      refine ⟨fun _ => hS', ih (l.setIfInBounds j true) a' w' (fun k ok hk hki hun hno => hfree k ok hk hki ?_ hno) (ready_mono hr (Ne.symm hji)) (fun m hm => by rw [getD_set_ne true (hjm m hm)]; exact hms m hm) h3.1 hS' ?_⟩
      · by_cases hjk : j = k
        · subst hjk; exact hjun
        · rw [getD_set_ne true hjk] at hun; exact hun
      · rw [Array.setIfInBounds_comm _ _ hji]
        exact h3.2.2

/-- number i is taken first: a load; each of ms waits for the one before it, the first for i, and dep is one of them -/
theorem wpAnyD_load {i : Nat} (ms : List Nat) {oi : Oper} {v : Value} {n : Nat} {l : Array Bool} {a : Act} {w : World} (hi : ops[i]? = some oi)
    (hs : Region.noSelect ops = true) (hf : Region.free md ops l i = true) (hr : (Region.ready md ops l).contains i = true) (hc : chainD md ops i ms = true) (hd : ms.contains dep = true) (hid : (i == dep) = false)
    (hml : (ms.all fun m => !l.getD m true) = true) (hQ : ∀ c a w, Q (.panic c) (a.put oi.dst v) w → Q (.panic c) a w) (hw : Region.wanted oi (yielded ops a.tmps) = true) (hy : ∀ w, S w → (execOp a.eval oi).run P w = .ok (.value v) w) (hS : S w)
    (h : wpAnyD P md ops Q S dep n (l.setIfInBounds i true) (a.put oi.dst v) w) : wpAnyD P md ops Q S dep (n + 1) l a w :=
  wpAnyD_firstB hi (Region.noSelect_spec hs) hQ hc (by simpa using hd) (by simpa using hid) n l a w (Region.free_spec hi hf) (by simpa using hr) (fun m hm => by have := List.all_eq_true.1 hml m hm; simpa using this) (.inl ⟨hw, hy⟩) hS h

/-- number i is taken first: it yields its value in whatever world; each of ms waits for the one before it, the first for i, and dep is one of them -/
theorem wpAnyD_pure {i : Nat} (ms : List Nat) {oi : Oper} {v : Value} {n : Nat} {l : Array Bool} {a : Act} {w : World} (hi : ops[i]? = some oi)
    (hs : Region.noSelect ops = true) (hf : Region.free md ops l i = true) (hr : (Region.ready md ops l).contains i = true) (hc : chainD md ops i ms = true) (hd : ms.contains dep = true) (hid : (i == dep) = false)
    (hml : (ms.all fun m => !l.getD m true) = true) (hQ : ∀ c a w, Q (.panic c) (a.put oi.dst v) w → Q (.panic c) a w) (hw : Region.wanted oi (yielded ops a.tmps) = true) (hy : ∀ w, (execOp a.eval oi).run P w = .ok (.value v) w) (hS : S w)
    (h : wpAnyD P md ops Q S dep n (l.setIfInBounds i true) (a.put oi.dst v) w) : wpAnyD P md ops Q S dep (n + 1) l a w :=
  wpAnyD_firstB hi (Region.noSelect_spec hs) hQ hc (by simpa using hd) (by simpa using hid) n l a w (Region.free_spec hi hf) (by simpa using hr) (fun m hm => by have := List.all_eq_true.1 hml m hm; simpa using this) (.inl ⟨hw, fun w _ => hy w⟩) hS h
end
end Go.Proofs.YtdbkbkopcnkgcaaGreat

open Go Go.RowKit
namespace Go.Proofs.YtdbkbkopcnkgcaaGreat

set_option maxRecDepth 100000 in
theorem index_bool (F : Nat → Prop) (xs : List Bool) (v : Bool) (A : Option Addr) (n c : Nat) (w : World) (hx : IsSl Elt.bool F w (.slice A n c) xs) :
    Calls Tryz.prog 79 #[.slice A n c, .bool v] w fun e w' => (∃ r : Int, e = .returned (.int .i64 r) ∧ (0 ≤ r ↔ v ∈ xs)) ∧ w = w' := by
  obtain ⟨rfl, hn⟩ := hx.len
  go_enter Tryz.func79, Tryz.ntmps79
  go_wp2_with fail
  go_loopg [8] xs.length (fun gk i wr => ∃ k : Nat, k ≤ xs.length ∧ gk = xs.length - k ∧ i = .int .i64 k ∧ w = wr ∧ Hid (∀ j (h : j < xs.length), j < k → xs[j] ≠ v))
  case atStart => exact ⟨0, by omega, by omega, rfl, rfl, Lib.hid fun j _ hj => by omega⟩
  case round =>
    obtain ⟨k, hk, rfl, rfl, rfl, hH⟩ := hrel
    by_cases hlt : k < xs.length
    · obtain ⟨b, o, rfl, _, hl, hc⟩ := hx.oneAt k hlt
      have hkz : (k : Int) < (xs.length : Int) := by omega
      by_cases he : xs[k] = v
      · have hm : v ∈ xs := by rw [← he]; exact List.getElem_mem hlt
        rw [he] at hc
        have hvv : (v == v) = true := by simp
        clear he
        go_wp2_with fail
        go_ret
        exact ⟨⟨_, rfl, by simp [hm]⟩, rfl⟩
      · have hne : (v == xs[k]) = false := by simp; exact fun e => he e.symm
        have hH2 : Hid (∀ j (h : j < xs.length), j < k + 1 → xs[j] ≠ v) := Lib.hid fun j h hj => by
          by_cases e : j = k
          · subst e; exact he
          · exact hH.out j h (by omega)
        clear he
        generalize xs[k] = u at hc hne
        go_wp2_with fail
        go_roundg (xs.length - (k + 1))
        case measure => omega
        case rel => exact ⟨k + 1, by omega, rfl, by go_num, rfl, hH2⟩
    · obtain rfl : k = xs.length := by omega
      have hm : v ∉ xs := fun h => by
        obtain ⟨j, hj, e⟩ := List.getElem_of_mem h
        exact hH.out j hj hj e
      go_wp2_with fail
      go_ret
      exact ⟨⟨_, rfl, by simp [hm]⟩, rfl⟩

theorem contains_bool (F : Nat → Prop) (xs : List Bool) (v : Bool) (A : Option Addr) (n c : Nat) (w : World) (hx : IsSl Elt.bool F w (.slice A n c) xs) :
    Calls Tryz.prog 62 #[.slice A n c, .bool v] w fun e w' => e = .returned (.bool (decide (v ∈ xs))) ∧ w = w' := by
  go_enter Tryz.func62, Tryz.ntmps62
  go_wp2_with fail
  refine (index_bool F xs v A n c w hx).mono ?_
  rintro e w' ⟨⟨r, rfl, hr⟩, rfl⟩
  by_cases hm : v ∈ xs
  · have h0 : 0 ≤ r := hr.2 hm
    have HM := Lib.hid hm
    clear hm hr
    go_wp2_with fail
    go_ret
    exact ⟨ret_bool (by simp [HM.out]), rfl⟩
  · have h0 : ¬ 0 ≤ r := fun h => hm (hr.1 h)
    have HM := Lib.hid hm
    clear hm hr
    go_wp2_with fail
    go_ret
    exact ⟨ret_bool (by simp [HM.out]; omega), rfl⟩
end Go.Proofs.YtdbkbkopcnkgcaaGreat

open Go Go.RowKit
namespace Go.Proofs.YtdbkbkopcnkgcaaGreat

/-! ### forest.wordOf: the word that the leaves tell -/
theorem Tryz.infoBoolW : (Tryz.prog.info? 4).map (fun i => (i.zero, i.size, i.bytes)) = some (some (.bool false), 1, 1) := by kernel_rfl
theorem Tryz.infoIntW : (Tryz.prog.info? 3).map (fun i => (i.zero, i.size, i.bytes)) = some (some (.int .i64 0), 1, 8) := by kernel_rfl

theorem wordStep_len {s : WS} {n : NodeD} (h : s.seen.length = s.w.length) : (wordStep s n).w.length = s.w.length ∧ (wordStep s n).seen.length = s.w.length := by
  unfold wordStep
  split
  · simp [h]
  · exact ⟨rfl, h⟩

/-- the two rows that wordOf fills -/
structure WdAt (w : World) (bw bs m : Nat) (s : WS) : Prop where
  roww : w.heap[bw]? = some (.cells (s.w.map fun v : Int => Value.int .i64 v).toArray 3 (0, 0))
  rows : w.heap[bs]? = some (.cells (s.seen.map fun v : Bool => Value.bool v).toArray 4 (0, 0))
  ne : bw ≠ bs
  lenw : s.w.length = m
  lens : s.seen.length = m
theorem WdAt.below {w w' : World} {bw bs m : Nat} {s : WS} (h : WdAt w bw bs m s) (hb : Below w.heap.size w w') : WdAt w' bw bs m s :=
  ⟨blk_below hb (blk_lt h.roww) h.roww, blk_below hb (blk_lt h.rows) h.rows, h.ne, h.lenw, h.lens⟩
theorem WdAt.put {w : World} {bw bs m : Nat} {s : WS} (h : WdAt w bw bs m s) (i : Nat) (v : Int) : WdAt ((w.setCell ⟨bw, i, none⟩ (.int .i64 v)).setCell ⟨bs, i, none⟩ (.bool true)) bw bs m ⟨s.w.set i v, s.seen.set i true⟩ := by
  refine ⟨?_, ?_, h.ne, by simp [h.lenw], by simp [h.lens]⟩
  · rw [heap_set_ne h.ne, heap_set h.roww]; simp [List.map_set]
  · rw [heap_set (cs := (s.seen.map fun v : Bool => Value.bool v).toArray) (T := 4) (fr := (0, 0)) (by rw [heap_set_ne (Ne.symm h.ne)]; exact h.rows)]; simp [List.map_set]

set_option maxRecDepth 100000 in
set_option maxHeartbeats 3200000 in
theorem wordOf_any (F : Nat → Prop) (ns : List NodeD) (rn : Nat) (A : Option Addr) (c : Nat) (w : World) (ha : IsSl Elt.node F w (.slice A ns.length c) ns) (hrn : rn < ns.length) (h12 : ns[rn].j ≤ 12) :
    Calls Tryz.prog 39 #[.agg #[.slice A ns.length c, .int .i64 rn]] w fun e w' => ∃ b, e = .returned (.tuple #[.slice (some ⟨b, 0, none⟩) ns[rn].j ns[rn].j, .bool (!decide (false ∈ (wordF ns ns[rn].j).seen))]) ∧ Below w.heap.size w w' ∧ IsSl Elt.int (fun b => w.heap.size ≤ b) w' (.slice (some ⟨b, 0, none⟩) ns[rn].j ns[rn].j) (wordF ns ns[rn].j).w := by
  have hl := ha.len.2
  obtain ⟨b, o, hA, hF, hbl, c0, c1, c2, c3, A', c', c4, _⟩ := ha.nodeAt rn hrn
  subst hA
  obtain ⟨m, hm⟩ : ∃ m, m = ns[rn].j := ⟨_, rfl⟩
  rw [← hm] at c3 h12 ⊢
  clear hm c0 c1 c2 c4
  generalize hres : wordF ns m = res
  have HRES := Lib.hid (show ns.foldl wordStep ⟨List.replicate m 0, List.replicate m false⟩ = res from hres)
  clear hres
  have hmk := run_make_row' (P := Tryz.prog) 22 3 (.int .i64 0) 8 Tryz.underlying22 Tryz.infoIntW rfl .i64 .i64 m (by omega) (by omega)
  have hmk2 := run_make_row' (P := Tryz.prog) 61 4 (.bool false) 1 Tryz.underlying61 Tryz.infoBoolW rfl .i64 .i64 m (by omega) (by omega)
  have hrz : (rn : Int) < (ns.length : Int) := by omega
  have hr0 : decide ((rn : Int) < 0) = false := by simp
  have hr1 : decide (ns.length ≤ rn) = false := by simp; omega
  have hm0 : decide ((m : Int) < 0) = false := by simp
  have hm1 : decide ((12 : Int) < (m : Int)) = false := by simp; omega
  have hb0 := below1 w (.cells #[.slice (some ⟨b, o, none⟩) ns.length c, .int .i64 rn] 31)
  have g0 := heap_alloc_new w (.cells #[.slice (some ⟨b, o, none⟩) ns.length c, .int .i64 rn] 31)
  have k0 := blk_cell g0 (i := 0) rfl
  have k1 := blk_cell g0 (i := 1) rfl
  have d3 := (hb0.cell (p := ⟨b, o + rn * 5 + 3, none⟩) hbl).trans c3
  have HA := Lib.hid ha
  clear ha c3
  go_enter Tryz.func39, Tryz.ntmps39
  go_wp2_with fail
  have hb3 := below3 w (.cells #[.slice (some ⟨b, o, none⟩) ns.length c, .int .i64 rn] 31) (.cells (madeCells #[.int .i64 0] m) 3) (.cells (madeCells #[.bool false] m) 4)
  have hw0 : WdAt (((w.alloc (.cells #[.slice (some ⟨b, o, none⟩) ns.length c, .int .i64 rn] 31)).alloc (.cells (madeCells #[.int .i64 0] m) 3)).alloc (.cells (madeCells #[.bool false] m) 4)) (w.heap.size + 1) (w.heap.size + 1 + 1) m ⟨List.replicate m 0, List.replicate m false⟩ := by
    refine ⟨?_, ?_, by omega, by simp, by simp⟩
    · rw [blk_new1 (w := w.alloc (.cells #[.slice (some ⟨b, o, none⟩) ns.length c, .int .i64 rn] 31)) (World.size_alloc _ _), made_one, List.map_replicate]
    · rw [blk_new' (by rw [World.size_alloc, World.size_alloc]), made_one, List.map_replicate]
  have hs3 : w.heap.size + 1 + 1 < (((w.alloc (.cells #[.slice (some ⟨b, o, none⟩) ns.length c, .int .i64 rn] 31)).alloc (.cells (madeCells #[.int .i64 0] m) 3)).alloc (.cells (madeCells #[.bool false] m) 4)).heap.size := by simp only [World.size_alloc]; omega
  have HB := Lib.hid hb3
  have HW := Lib.hid hw0
  clear hb3 hw0 hmk hmk2 k0 k1 d3 g0 hb0
  generalize (((w.alloc (.cells #[.slice (some ⟨b, o, none⟩) ns.length c, .int .i64 rn] 31)).alloc (.cells (madeCells #[.int .i64 0] m) 3)).alloc (.cells (madeCells #[.bool false] m) 4)) = W3 at HB HW hs3 ⊢
  go_loopg [53] ns.length (fun gk i wr => ∃ (k : Nat) (s : WS), k ≤ ns.length ∧ gk = ns.length - k ∧ i = .int .i64 k ∧ WdAt wr (w.heap.size + 1) (w.heap.size + 1 + 1) m s ∧ Below w.heap.size w wr ∧ (ns.drop k).foldl wordStep s = res)
  case atStart => exact ⟨0, _, Nat.zero_le _, rfl, rfl, HW.out, HB.out, HRES.out⟩
  case round =>
    obtain ⟨k, s, hk, rfl, rfl, hat, hbl, hfo⟩ := hrel
    obtain ⟨wo, rfl⟩ : ∃ wo : World, wo = wr := ⟨_, rfl⟩
    by_cases hlt : k < ns.length
    · obtain ⟨b5, o5, hA, _, hl5, c0, c1, c2, c3, A2, c2', c4, hpk5⟩ := (HA.out.below hbl).nodeAt k hlt
      clear hpk5
      injection hA with hA
      injection hA with e1 e2
      subst e1
      subst e2
      rw [List.drop_eq_getElem_cons hlt, List.foldl_cons] at hfo
      have hkz : (k : Int) < (ns.length : Int) := by omega
      generalize ns[k] = nd at c0 c1 c2 c3 c4 hfo
      have hbB := below1 wo (.cells #[.bool nd.y.t, .int .i64 nd.y.n, .int .i64 nd.i, .int .i64 nd.j, .slice A2 nd.packs.length c2'] 114)
      have hrr := heap_alloc_new wo (.cells #[.bool nd.y.t, .int .i64 nd.y.n, .int .i64 nd.i, .int .i64 nd.j, .slice A2 nd.packs.length c2'] 114)
      have hat2 := hat.below hbB
      have hbl2 := hbl.trans (hbB.mono hbl.size)
      have hbw := blk_lt hat.roww
      have hbs := blk_lt hat.rows
      have v0 := blk_cell hrr (i := 0) rfl
      have v1 := blk_cell hrr (i := 1) rfl
      have v2 := blk_cell hrr (i := 2) rfl
      have hszB := World.size_alloc wo (.cells #[.bool nd.y.t, .int .i64 nd.y.n, .int .i64 nd.i, .int .i64 nd.j, .slice A2 nd.packs.length c2'] 114)
      cases ht : nd.y.t
      · have hst : wordStep s nd = s := by unfold wordStep; rw [if_neg (by rw [ht]; simp)]
        rw [hst] at hfo
        rw [ht] at v0 c0
        have HAT := Lib.hid hat2
        have HFO := Lib.hid hfo
        clear hat hat2 hst hfo hbB hrr hlt
        rw [ht] at hbl2 HAT v1 v2
        go_wp2_with fail
        go_roundg (ns.length - (k + 1))
        case measure => omega
        case rel => exact ⟨k + 1, s, by omega, rfl, by go_num, HAT.out, hbl2, HFO.out⟩
      · rw [ht] at v0 c0
        have hi0 : decide ((0 : Int) ≤ (nd.i : Int)) = true := by simp
        by_cases him : nd.i < m
        · have hst : wordStep s nd = ⟨s.w.set nd.i nd.y.n, s.seen.set nd.i true⟩ := by unfold wordStep; rw [if_pos ⟨ht, by rw [hat.lenw]; exact him⟩]
          have hiz : decide (nd.i < m) = true := by simp; omega
          have hiz2 : (nd.i : Int) < (m : Int) := by omega
          rw [hst] at hfo
          rw [ht] at hbl2 hat2 v1 v2
          have q1 : (wo.alloc (.cells #[.bool true, .int .i64 nd.y.n, .int .i64 nd.i, .int .i64 nd.j, .slice A2 nd.packs.length c2'] 114)).cell? ⟨wo.heap.size, 1, none⟩ = some (.int .i64 nd.y.n) := by rw [ht] at hrr; exact blk_cell hrr (i := 1) rfl
          have q2 : (wo.alloc (.cells #[.bool true, .int .i64 nd.y.n, .int .i64 nd.i, .int .i64 nd.j, .slice A2 nd.packs.length c2'] 114)).cell? ⟨wo.heap.size, 2, none⟩ = some (.int .i64 nd.i) := by rw [ht] at hrr; exact blk_cell hrr (i := 2) rfl
          clear hbB hrr v1 v2
          rw [ht] at hszB
          have v1 := q1
          have v2 := q2
          clear q1 q2
          have HFO := Lib.hid hfo
          clear hfo hst hat
          go_wp2_with fail
          generalize (wo.alloc (.cells #[.bool true, .int .i64 nd.y.n, .int .i64 nd.i, .int .i64 nd.j, .slice A2 nd.packs.length c2'] 114)) = W5 at hbl2 hat2 v0 v1 v2 hszB ⊢
          have hlw := hat2.lenw
          have hls := hat2.lens
          have z0 : W5.frozen? ⟨w.heap.size + 1, nd.i, none⟩ = false := blk_free hat2.roww
          have x1 : W5.cell? ⟨w.heap.size + 1, nd.i, none⟩ = some (.int .i64 (s.w[nd.i]'(by omega))) := blk_cell hat2.roww (by rw [List.getElem?_toArray, List.getElem?_map, List.getElem?_eq_getElem (by omega)]; rfl)
          have hne1 : wo.heap.size ≠ w.heap.size + 1 := by omega
          have hne2 : wo.heap.size ≠ w.heap.size + 1 + 1 := by omega
          have x2 : (W5.setCell ⟨w.heap.size + 1, nd.i, none⟩ (.int .i64 nd.y.n)).cell? ⟨w.heap.size + 1 + 1, nd.i, none⟩ = some (.bool (s.seen[nd.i]'(by omega))) := blk_cell ((heap_set_ne (by omega) _ _).trans hat2.rows) (by rw [List.getElem?_toArray, List.getElem?_map, List.getElem?_eq_getElem (by omega)]; rfl)
          have z2 : (W5.setCell ⟨w.heap.size + 1, nd.i, none⟩ (.int .i64 nd.y.n)).frozen? ⟨w.heap.size + 1 + 1, nd.i, none⟩ = false := blk_free (by rw [heap_set_ne (by omega)]; exact hat2.rows)
          have y1 : (W5.setCell ⟨w.heap.size + 1, nd.i, none⟩ (.int .i64 nd.y.n)).cell? ⟨wo.heap.size, 1, none⟩ = some (.int .i64 nd.y.n) := (World.cell?_of_block (heap_set_ne hne1 _ _)).trans v1
          have y2 : (W5.setCell ⟨w.heap.size + 1, nd.i, none⟩ (.int .i64 nd.y.n)).cell? ⟨wo.heap.size, 2, none⟩ = some (.int .i64 nd.i) := (World.cell?_of_block (heap_set_ne hne1 _ _)).trans v2
          have hput := (hat2.put nd.i nd.y.n).below (Below.refl _ _).drew
          have hfi0 : Below w.heap.size w (((W5.setCell ⟨w.heap.size + 1, nd.i, none⟩ (.int .i64 nd.y.n)).setCell ⟨w.heap.size + 1 + 1, nd.i, none⟩ (.bool true))) :=
            (((Away.ofBelow (F := fun _ => False) hbl2).trans ((Away.setCell (n := w.heap.size) (F := fun _ => False) W5 (w.heap.size + 1) nd.i (.int .i64 nd.y.n) (.inr (by omega))).trans (Away.setCell (n := w.heap.size) (F := fun _ => False) _ (w.heap.size + 1 + 1) nd.i (.bool true) (.inr (by omega))))).below fun _ _ h => h)
          have hfin := hfi0.trans ((Below.refl _ _).drew.mono hfi0.size)
          have HPUT := Lib.hid hput
          have HFIN := Lib.hid hfin
          clear hput hfin hfi0
          refine wp_region_any (by kernel_rfl) ?_
          change wpAny _ _ _ _ _ _ _ (World.drew _)
          refine wpAny_take (i := 0) (v := ?_) rfl (by kernel_rfl) (by kernel_rfl) (by kernel_rfl) (fun _ _ _ h => h) (Or.inl ⟨by rfl, ?_⟩) ?_
          rotate_left
          · (intro w'; go_simp; first | done | with_reducible rfl)
          refine wpAny_take (i := 1) (v := ?_) rfl (by kernel_rfl) (by kernel_rfl) (by kernel_rfl) (fun _ _ _ h => h) (Or.inl ⟨by rfl, ?_⟩) ?_
          rotate_left
          · (intro w'; go_simp; first | done | with_reducible rfl)
          refine wpAny_take (i := 3) (v := ?_) rfl (by kernel_rfl) (by kernel_rfl) (by kernel_rfl) (fun _ _ _ h => h) (Or.inl ⟨by rfl, ?_⟩) ?_
          rotate_left
          · (intro w'; go_simp; first | done | with_reducible rfl)
          refine wpAny_take (i := 4) (v := ?_) rfl (by kernel_rfl) (by kernel_rfl) (by kernel_rfl) (fun _ _ _ h => h) (Or.inl ⟨by rfl, ?_⟩) ?_
          rotate_left
          · (intro w'; go_simp; first | done | with_reducible rfl)
          refine wpAny_take (i := 6) (v := ?_) rfl (by kernel_rfl) (by kernel_rfl) (by kernel_rfl) (fun _ _ _ h => h) (Or.inl ⟨by rfl, ?_⟩) ?_
          rotate_left
          · (intro w'; go_simp; first | done | with_reducible rfl)
          refine wpAny_take (i := 7) (v := ?_) rfl (by kernel_rfl) (by kernel_rfl) (by kernel_rfl) (fun _ _ _ h => h) (Or.inl ⟨by rfl, ?_⟩) ?_
          rotate_left
          · (intro w'; go_simp; first | done | with_reducible rfl)
          refine wpAny_of_D (S := fun w' => w'.cell? ⟨wo.heap.size, 1, none⟩ = some (.int .i64 nd.y.n) ∧ w'.cell? ⟨wo.heap.size, 2, none⟩ = some (.int .i64 nd.i)) (dep := 12) _ _ _ _ ?_
          refine wpAnyD_load (i := 2) (v := .int .i64 nd.i) [9, 10, 12] rfl (by kernel_rfl) (by kernel_rfl) (by kernel_rfl) (by kernel_rfl) (by kernel_rfl) (by kernel_rfl) (by kernel_rfl) (fun _ _ _ h => h) (by rfl) ?_ ⟨v1, v2⟩ ?_
          · (intro w' hS; obtain ⟨hS1, hS2⟩ := hS; go_simp)
          refine wpAnyD_load (i := 5) (v := .int .i64 nd.i) [11, 12] rfl (by kernel_rfl) (by kernel_rfl) (by kernel_rfl) (by kernel_rfl) (by kernel_rfl) (by kernel_rfl) (by kernel_rfl) (fun _ _ _ h => h) (by rfl) ?_ ⟨v1, v2⟩ ?_
          · (intro w' hS; obtain ⟨hS1, hS2⟩ := hS; go_simp)
          refine wpAnyD_load (i := 8) (v := .int .i64 nd.y.n) [10, 12] rfl (by kernel_rfl) (by kernel_rfl) (by kernel_rfl) (by kernel_rfl) (by kernel_rfl) (by kernel_rfl) (by kernel_rfl) (fun _ _ _ h => h) (by rfl) ?_ ⟨v1, v2⟩ ?_
          · (intro w' hS; obtain ⟨hS1, hS2⟩ := hS; go_simp)
          refine wpAnyD_pure (i := 9) (v := ?_) [10, 12] rfl (by kernel_rfl) (by kernel_rfl) (by kernel_rfl) (by kernel_rfl) (by kernel_rfl) (by kernel_rfl) (by kernel_rfl) (fun _ _ _ h => h) (by rfl) ?_ ⟨v1, v2⟩ ?_
          rotate_left
          · (intro w'; go_simp; first | done | with_reducible rfl)
          refine wpAnyD_each (rs := [10]) (by kernel_rfl) (by simp) ?_
          refine EachD.cons rfl (fun K hK => ?_) EachD.nil
          simp only [List.getElem_toArray, List.getElem_cons_succ, List.getElem_cons_zero]
          go_simp
          refine hK _ _ (fun _ => ⟨y1, y2⟩) ?_
          clear hK K
          refine wpAnyD_pure (i := 11) (v := ?_) [12] rfl (by kernel_rfl) (by kernel_rfl) (by kernel_rfl) (by kernel_rfl) (by kernel_rfl) (by kernel_rfl) (by kernel_rfl) (fun _ _ _ h => h) (by rfl) ?_ ⟨y1, y2⟩ ?_
          rotate_left
          · (intro w'; go_simp; first | done | with_reducible rfl)
          refine wpAnyD_each (rs := [12]) (by kernel_rfl) (by simp) ?_
          refine EachD.cons rfl (fun K hK => ?_) EachD.nil
          simp only [List.getElem_toArray, List.getElem_cons_succ, List.getElem_cons_zero]
          go_simp
          refine hK _ _ (fun e => Bool.noConfusion (show true = false from e)) ?_
          clear hK K
          refine wpAnyD_of _ _ _ _ (by kernel_rfl) ?_
          refine wpAny_done (by kernel_rfl) ?_ _
          go_wp2_with fail
          go_roundg (ns.length - (k + 1))
          case measure => omega
          case rel => exact ⟨k + 1, _, by omega, rfl, by go_num, HPUT.out, HFIN.out, HFO.out⟩
        · have hst : wordStep s nd = s := by unfold wordStep; rw [if_neg (by rw [hat.lenw]; exact fun h => him h.2)]
          have hiz : decide (nd.i < m) = false := by simp; omega
          rw [hst] at hfo
          have HAT := Lib.hid hat2
          have HFO := Lib.hid hfo
          clear hat hat2 hst hfo hbB hrr hlt him
          rw [ht] at hbl2 HAT v1 v2
          go_wp2_with fail
          go_roundg (ns.length - (k + 1))
          case measure => omega
          case rel => exact ⟨k + 1, s, by omega, rfl, by go_num, HAT.out, hbl2, HFO.out⟩
    · obtain rfl : k = ns.length := by omega
      rw [List.drop_length] at hfo
      simp only [List.foldl_nil] at hfo
      subst hfo
      have hbs := sl_of_blk (enc := Value.bool) (fun _ => True) trivial hat.rows (n := m) (c := m) hat.lens.symm (by omega)
      have hco := contains_bool (fun _ => True) s.seen false _ m m wo hbs
      have hres := sl_of_blk (enc := Value.int .i64) (fun b => w.heap.size ≤ b) (by omega) hat.roww (n := m) (c := m) hat.lenw.symm (by omega)
      have HCO := Lib.hid hco
      have HR := Lib.hid hres
      clear hbs hco hat hres
      go_wp2_with fail
      refine HCO.out.mono ?_
      rintro e7 w7 ⟨rfl, rfl⟩
      go_wp2_with fail
      go_ret2
      exact ⟨_, rfl, hbl, HR.out⟩
end Go.Proofs.YtdbkbkopcnkgcaaGreat
