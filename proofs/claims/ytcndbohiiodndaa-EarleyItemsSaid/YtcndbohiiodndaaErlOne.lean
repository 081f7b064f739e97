import Derived.Test.YtcndbohiiodndaaMeanB
import Derived.Test.YtcndbohiiodndaaFeedB
import Derived.Test.YtcndbohiiodndaaOwnLt
import Derived.Test.YtcndbohiiodndaaAway
import Derived.Test.YtcndbohiiodndaaBlkNew
import Derived.BigRegion
import Derived.BigQuiet
import Derived.Deep.QuietTactic
import Derived.Test.YtcndbohiiodndaaFeedA
import Derived.Deep.DeepCutAuto
import Derived.Test.YtcndbohiiodndaaFeedC
import Derived.Test.YtcndbohiiodndaaCykG
import Derived.WalkKit
import Derived.OrdersHeld
import Derived.Deep.CutBlock
open Go Go.RowKit
namespace Go.Proofs.Ytcndbohiiodndaa

/-! ### package earley: the plain side. An item is a rule, a position in it and where it began. -/
abbrev EItem := Nat × Nat × Nat
abbrev ESets := Nat → List EItem

def addE (S : ESets) (k : Nat) (z : EItem) : ESets := if z ∈ S k then S else fun j => if j = k then S k ++ [z] else S j
def predTo (g : Gram) (k : Nat) (n : Int) (S : ESets) : Nat → ESets
  | 0 => S
  | m + 1 => if (g.rules[m]?.map (·.l)) = some n then addE (predTo g k n S m) k (m, 0, k) else predTo g k n S m
def doneAt (g : Gram) (k : Nat) (n : Int) (y : EItem) : Bool := decide (y.2.2 = k) && (match g.rules[y.1]? with | some r => decide (y.2.1 = r.r.length) && decide (r.l = n) | none => false)
def predE (g : Gram) (k : Nat) (n : Int) (z : EItem) (S : ESets) : ESets :=
  if ((predTo g k n S g.rules.length) k).any (doneAt g k n) = true then addE (predTo g k n S g.rules.length) k (z.1, z.2.1 + 1, z.2.2) else predTo g k n S g.rules.length
def waits (g : Gram) (n : Int) (y : EItem) : Bool := match g.rules[y.1]? with | some r => decide (r.r[y.2.1]? = some ⟨false, n⟩) | none => false
def compTo (g : Gram) (k : Nat) (n : Int) (l : List EItem) (S : ESets) : Nat → ESets
  | 0 => S
  | m + 1 => match l[m]? with
    | some y => if waits g n y = true then addE (compTo g k n l S m) k (y.1, y.2.1 + 1, y.2.2) else compTo g k n l S m
    | none => compTo g k n l S m
def leftOf (g : Gram) (z : EItem) : Int := ((g.rules[z.1]?).map (·.l)).getD 0
def compE (g : Gram) (k : Nat) (z : EItem) (S : ESets) : ESets := compTo g k (leftOf g z) (S z.2.2) S (S z.2.2).length
def stepE (g : Gram) (x : List Int) (k : Nat) (z : EItem) (S : ESets) : ESets :=
  match g.rules[z.1]? with
  | none => S
  | some r => match r.r[z.2.1]? with
    | none => compE g k z S
    | some y => if y.t = false then predE g k y.n z S else if x[k]? = some y.n then addE S (k + 1) (z.1, z.2.1 + 1, z.2.2) else S
def procE (g : Gram) (x : List Int) (k : Nat) : Nat → Nat → ESets → ESets
  | 0, _, S => S
  | f + 1, a, S => match (S k)[a]? with
    | none => S
    | some z => procE g x k f (a + 1) (stepE g x k z S)
def initTo (g : Gram) : Nat → ESets
  | 0 => fun _ => []
  | m + 1 => if (g.rules[m]?.map (·.l)) = some g.start then addE (initTo g m) 0 (m, 0, 0) else initTo g m
def maxE : Nat := 2080
def fillTo (g : Gram) (x : List Int) : Nat → ESets
  | 0 => initTo g g.rules.length
  | m + 1 => procE g x m (maxE + 1) 0 (fillTo g x m)
def fillE (g : Gram) (x : List Int) : ESets := fillTo g x (x.length + 1)

/-! #### what the items mean -/
def OkZ (g : Gram) (x : List Int) (k : Nat) (z : EItem) : Prop := ∃ r, g.rules[z.1]? = some r ∧ z.2.1 ≤ r.r.length ∧ Drv g x (r.r.take z.2.1) z.2.2 k
structure EOk (g : Gram) (x : List Int) (S : ESets) : Prop where
  ok : ∀ k z, z ∈ S k → OkZ g x k z
  nd : ∀ k, (S k).Nodup

theorem mem_addE {S : ESets} {k : Nat} {z : EItem} {j : Nat} {y : EItem} : y ∈ addE S k z j ↔ y ∈ S j ∨ (j = k ∧ y = z) := by
  unfold addE
  split
  · rename_i h
    exact ⟨.inl, fun h2 => h2.elim id fun ⟨e1, e2⟩ => by rw [e1, e2]; exact h⟩
  · by_cases e : j = k
    · subst e; simp
    · simp [e]
theorem addE_ok {g : Gram} {x : List Int} {S : ESets} {k : Nat} {z : EItem} (h : EOk g x S) (hz : OkZ g x k z) : EOk g x (addE S k z) := by
  refine ⟨fun j y hy => ?_, fun j => ?_⟩
  · rcases mem_addE.1 hy with hy | ⟨rfl, rfl⟩
    · exact h.ok j y hy
    · exact hz
  · unfold addE
    split
    · exact h.nd j
    · rename_i hn
      by_cases e : j = k
      · subst e
        simp only [if_true]
        rw [List.nodup_append]
        exact ⟨h.nd j, by simp, fun a ha b hb e2 => by simp at hb; rw [e2, hb] at ha; exact hn ha⟩
      · simp only [e, if_false]; exact h.nd j

section
variable {g : Gram} {x : List Int}

theorem okz_pred {k m : Nat} {r : Rule} (hr : g.rules[m]? = some r) (hk : k ≤ x.length) : OkZ g x k (m, 0, k) := ⟨r, hr, Nat.zero_le _, .nil _ hk⟩
theorem predTo_ok {k : Nat} {n : Int} {S : ESets} (h : EOk g x S) (hk : k ≤ x.length) : ∀ m, EOk g x (predTo g k n S m)
  | 0 => h
  | m + 1 => by
    unfold predTo
    split
    · rename_i hm
      cases hr : g.rules[m]? with
      | none => rw [hr] at hm; cases hm
      | some r => exact addE_ok (predTo_ok h hk m) (okz_pred hr hk)
    · exact predTo_ok h hk m
/-- an item moves over a nonterminal that derives what follows -/
theorem okz_move {k e : Nat} {z : EItem} {r : Rule} {y : Sym} (hr : g.rules[z.1]? = some r) (hy : r.r[z.2.1]? = some y) (hz : OkZ g x e z) (hd : Drv g x [y] e k) : OkZ g x k (z.1, z.2.1 + 1, z.2.2) := by
  obtain ⟨r', hr', hl, hd'⟩ := hz
  rw [hr] at hr'
  injection hr' with hr'
  subst hr'
  obtain ⟨hlt, hye⟩ := List.getElem?_eq_some_iff.1 hy
  refine ⟨r, hr, by simp only; omega, ?_⟩
  simp only
  rw [List.take_succ_eq_append_getElem hlt, hye]
  exact drv_app hd' hd
theorem predE_ok {k : Nat} {n : Int} {z : EItem} {S : ESets} {r : Rule} {y : Sym} (h : EOk g x S) (hk : k ≤ x.length) (hr : g.rules[z.1]? = some r) (hy : r.r[z.2.1]? = some y) (hyt : y.t = false) (hyn : y.n = n) (hz : OkZ g x k z) : EOk g x (predE g k n z S) := by
  have h1 := predTo_ok (n := n) h hk g.rules.length
  unfold predE
  split
  · rename_i ha
    refine addE_ok h1 (okz_move hr hy hz ?_)
    rw [List.any_eq_true] at ha
    obtain ⟨u, hu, hd⟩ := ha
    obtain ⟨r', hr', hl, hdr⟩ := h1.ok k u hu
    unfold doneAt at hd
    rw [hr'] at hd
    simp only [Bool.and_eq_true, decide_eq_true_eq] at hd
    obtain ⟨e1, e2, e3⟩ := hd
    rw [e1, e2, List.take_length] at hdr
    obtain ⟨yt, yn⟩ := y
    simp only at hyt hyn
    subst hyt
    subst hyn
    exact .non (List.mem_of_getElem? hr') e3 hdr (.nil _ hk)
  · exact h1
theorem compTo_ok {k e : Nat} {n : Int} {l : List EItem} {S : ESets} (h : EOk g x S) (hl : ∀ y ∈ l, OkZ g x e y) (hd : Drv g x [⟨false, n⟩] e k) : ∀ m, EOk g x (compTo g k n l S m)
  | 0 => h
  | m + 1 => by
    unfold compTo
    cases hm : l[m]? with
    | none => exact compTo_ok h hl hd m
    | some y =>
      simp only
      split
      · rename_i hw
        have hy := hl y (List.mem_of_getElem? hm)
        unfold waits at hw
        cases hr : g.rules[y.1]? with
        | none => rw [hr] at hw; cases hw
        | some r =>
          rw [hr] at hw
          exact addE_ok (compTo_ok h hl hd m) (okz_move hr (of_decide_eq_true hw) hy hd)
      · exact compTo_ok h hl hd m
theorem stepE_ok {k : Nat} {z : EItem} {S : ESets} (h : EOk g x S) (hz : z ∈ S k) : EOk g x (stepE g x k z S) := by
  have hzk := h.ok k z hz
  obtain ⟨r, hr, hl, hd⟩ := hzk
  have hle := drv_le hd
  unfold stepE
  rw [hr]
  simp only
  cases hy : r.r[z.2.1]? with
  | none =>
    have e : z.2.1 = r.r.length := by have := List.getElem?_eq_none_iff.1 hy; omega
    unfold compE
    refine compTo_ok (e := z.2.2) h (fun y hy => h.ok _ y hy) ?_ _
    rw [e, List.take_length] at hd
    exact .non (List.mem_of_getElem? hr) (by simp [leftOf, hr]) hd (.nil _ hle.2)
  | some y =>
    simp only
    split
    · rename_i hyt
      exact predE_ok h hle.2 hr hy hyt rfl (h.ok k z hz)
    · rename_i hyt
      split
      · rename_i hx
        refine addE_ok h (okz_move hr hy (h.ok k z hz) ?_)
        obtain ⟨yt, yn⟩ := y
        simp only [Bool.not_eq_false] at hyt
        subst hyt
        exact .term hx (.nil _ (by have := (List.getElem?_eq_some_iff.1 hx).1; omega))
      · exact h
theorem procE_ok {k : Nat} : ∀ (f a : Nat) (S : ESets), EOk g x S → EOk g x (procE g x k f a S)
  | 0, _, _, h => h
  | f + 1, a, S, h => by
    unfold procE
    cases hz : (S k)[a]? with
    | none => exact h
    | some z => exact procE_ok f (a + 1) _ (stepE_ok h (List.mem_of_getElem? hz))
theorem initTo_ok : ∀ m, EOk g x (initTo g m)
  | 0 => ⟨fun _ _ h => by simp [initTo] at h, fun _ => by simp [initTo]⟩
  | m + 1 => by
    unfold initTo
    split
    · rename_i hm
      cases hr : g.rules[m]? with
      | none => rw [hr] at hm; cases hm
      | some r => exact addE_ok (initTo_ok m) (okz_pred hr (Nat.zero_le _))
    · exact initTo_ok m
theorem fillTo_ok : ∀ m, EOk g x (fillTo g x m)
  | 0 => initTo_ok _
  | m + 1 => procE_ok _ _ _ (fillTo_ok m)

/-! #### how many items there are -/
theorem okz_small (hv : Valid g) (hm : x.length ≤ 12) {k : Nat} {z : EItem} (h : OkZ g x k z) : z.1 < 32 ∧ z.2.1 < 5 ∧ z.2.2 < 13 := by
  obtain ⟨r, hr, hl, hd⟩ := h
  have h1 := (List.getElem?_eq_some_iff.1 hr).1
  have h2 := hv.len
  have h3 := (hv.ok r (List.mem_of_getElem? hr)).len
  have h4 := drv_le hd
  omega
theorem nat_len : ∀ (N : Nat) (l : List Nat), l.Nodup → (∀ n ∈ l, n < N) → l.length ≤ N
  | 0, l, _, h => by
    cases l with
    | nil => simp
    | cons a l => exact absurd (h a (by simp)) (by omega)
  | N + 1, l, hn, h => by
    have h1 := nat_len N (l.erase N) (hn.erase N) fun n hm => by
      have h2 := h n (List.mem_of_mem_erase hm)
      have h3 : n ≠ N := fun e => by subst e; exact hn.not_mem_erase hm
      omega
    have h4 := List.length_erase (a := N) (l := l)
    split at h4 <;> omega
theorem nodup_len {l : List EItem} (hn : l.Nodup) (hs : ∀ z ∈ l, z.1 < 32 ∧ z.2.1 < 5 ∧ z.2.2 < 13) : l.length ≤ maxE := by
  let f : EItem → Nat := fun z => (z.1 * 5 + z.2.1) * 13 + z.2.2
  have hinj : ∀ a ∈ l, ∀ b ∈ l, f a = f b → a = b := fun a ha b hb e => by
    have h1 := hs a ha
    have h2 := hs b hb
    obtain ⟨a1, a2, a3⟩ := a
    obtain ⟨b1, b2, b3⟩ := b
    simp only [f] at e h1 h2
    have e3 : a3 = b3 := by omega
    have e2 : a2 = b2 := by omega
    have e1 : a1 = b1 := by omega
    rw [e1, e2, e3]
  have hnd : (l.map f).Nodup := by
    rw [List.Nodup, List.pairwise_map]
    exact hn.imp_of_mem fun ha hb hne e => hne (hinj _ ha _ hb e)
  have hlt : ∀ n ∈ l.map f, n < maxE := fun n hn => by
    obtain ⟨z, hz, rfl⟩ := List.mem_map.1 hn
    have := hs z hz
    simp only [f, maxE]
    omega
  have := nat_len maxE (l.map f) hnd hlt
  simpa using this
theorem EOk.len {S : ESets} (h : EOk g x S) (hv : Valid g) (hm : x.length ≤ 12) (k : Nat) : (S k).length ≤ maxE := nodup_len (h.nd k) fun z hz => okz_small hv hm (h.ok k z hz)

/-! #### items stay -/
def ESub (S T : ESets) : Prop := ∀ k z, z ∈ S k → z ∈ T k
theorem ESub.refl (S : ESets) : ESub S S := fun _ _ h => h
theorem ESub.trans {A B C : ESets} (h : ESub A B) (k : ESub B C) : ESub A C := fun j z hz => k j z (h j z hz)
theorem sub_addE (S : ESets) (k : Nat) (z : EItem) : ESub S (addE S k z) := fun _ _ h => mem_addE.2 (.inl h)
theorem sub_predTo (k : Nat) (n : Int) (S : ESets) : ∀ m, ESub S (predTo g k n S m)
  | 0 => ESub.refl _
  | m + 1 => by unfold predTo; split; exact (sub_predTo k n S m).trans (sub_addE _ _ _); exact sub_predTo k n S m
theorem sub_compTo (k : Nat) (n : Int) (l : List EItem) (S : ESets) : ∀ m, ESub S (compTo g k n l S m)
  | 0 => ESub.refl _
  | m + 1 => by
    unfold compTo
    cases l[m]? with
    | none => exact sub_compTo k n l S m
    | some y => simp only; split; exact (sub_compTo k n l S m).trans (sub_addE _ _ _); exact sub_compTo k n l S m
theorem sub_stepE (k : Nat) (z : EItem) (S : ESets) : ESub S (stepE g x k z S) := by
  unfold stepE
  cases g.rules[z.1]? with
  | none => exact ESub.refl _
  | some r =>
    simp only
    cases r.r[z.2.1]? with
    | none => exact sub_compTo _ _ _ _ _
    | some y =>
      simp only
      split
      · unfold predE; split; exact (sub_predTo _ _ _ _).trans (sub_addE _ _ _); exact sub_predTo _ _ _ _
      · split; exact sub_addE _ _ _; exact ESub.refl _
theorem sub_procE (k : Nat) : ∀ (f a : Nat) (S : ESets), ESub S (procE g x k f a S)
  | 0, _, S => ESub.refl S
  | f + 1, a, S => by
    unfold procE
    cases (S k)[a]? with
    | none => exact ESub.refl S
    | some z => exact (sub_stepE k z S).trans (sub_procE k f (a + 1) _)
theorem init_mem {m : Nat} {r : Rule} (hr : g.rules[m]? = some r) (hl : r.l = g.start) : ∀ n, m < n → (m, 0, 0) ∈ initTo g n 0
  | 0, h => absurd h (Nat.not_lt_zero _)
  | n + 1, h => by
    unfold initTo
    by_cases e : m = n
    · subst e
      rw [if_pos (by rw [hr]; simp [hl])]
      exact mem_addE.2 (.inr ⟨rfl, rfl⟩)
    · split
      · exact mem_addE.2 (.inl (init_mem hr hl n (by omega)))
      · exact init_mem hr hl n (by omega)
theorem fill_start {m : Nat} {r : Rule} (hr : g.rules[m]? = some r) (hl : r.l = g.start) : ∀ n, (m, 0, 0) ∈ fillTo g x n 0
  | 0 => init_mem hr hl _ (List.getElem?_eq_some_iff.1 hr).1
  | n + 1 => sub_procE _ _ _ _ _ _ (fill_start hr hl n)
end

/-! #### the sets of a beginning -/
def Agree (m : Nat) (S T : ESets) : Prop := ∀ j, j ≤ m → S j = T j
theorem Agree.refl (m : Nat) (S : ESets) : Agree m S S := fun _ _ => rfl
theorem Agree.trans {m : Nat} {A B C : ESets} (h : Agree m A B) (k : Agree m B C) : Agree m A C := fun j hj => (h j hj).trans (k j hj)
theorem agree_add {m k : Nat} {S T : ESets} (z : EItem) (h : Agree m S T) (hk : k ≤ m) : Agree m (addE S k z) (addE T k z) := fun j hj => by
  unfold addE
  rw [h k hk]
  by_cases hz : z ∈ T k
  · rw [if_pos hz, if_pos hz]; exact h j hj
  · rw [if_neg hz, if_neg hz]
    by_cases e : j = k
    · simp [e]
    · simp only [e, if_false]; exact h j hj
theorem agree_far {m k : Nat} {S T : ESets} (z : EItem) (h : Agree m S T) (hk : m < k) : Agree m (addE S k z) T := fun j hj => by
  unfold addE
  split
  · exact h j hj
  · simp only [show ¬ j = k by omega, if_false]; exact h j hj
section
variable {g : Gram} {x x' : List Int} {m k : Nat} {S T : ESets}
theorem agree_predTo (n : Int) (h : Agree m S T) (hk : k ≤ m) : ∀ q, Agree m (predTo g k n S q) (predTo g k n T q)
  | 0 => h
  | q + 1 => by unfold predTo; split; exact agree_add _ (agree_predTo n h hk q) hk; exact agree_predTo n h hk q
theorem far_predTo (n : Int) (h : Agree m S T) (hk : m < k) : ∀ q, Agree m (predTo g k n S q) T
  | 0 => h
  | q + 1 => by unfold predTo; split; exact agree_far _ (far_predTo n h hk q) hk; exact far_predTo n h hk q
theorem agree_compTo (n : Int) (l : List EItem) (h : Agree m S T) (hk : k ≤ m) : ∀ q, Agree m (compTo g k n l S q) (compTo g k n l T q)
  | 0 => h
  | q + 1 => by
    unfold compTo
    cases l[q]? with
    | none => exact agree_compTo n l h hk q
    | some y => simp only; split; exact agree_add _ (agree_compTo n l h hk q) hk; exact agree_compTo n l h hk q
theorem far_compTo (n : Int) (l : List EItem) (h : Agree m S T) (hk : m < k) : ∀ q, Agree m (compTo g k n l S q) T
  | 0 => h
  | q + 1 => by
    unfold compTo
    cases l[q]? with
    | none => exact far_compTo n l h hk q
    | some y => simp only; split; exact agree_far _ (far_compTo n l h hk q) hk; exact far_compTo n l h hk q
theorem agree_step (z : EItem) (h : Agree m S T) (hk : k ≤ m) (hx : k < m → x[k]? = x'[k]?) (hz : z.2.2 ≤ m) : Agree m (stepE g x k z S) (stepE g x' k z T) := by
  unfold stepE
  cases g.rules[z.1]? with
  | none => exact h
  | some r =>
    simp only
    cases r.r[z.2.1]? with
    | none =>
      unfold compE
      rw [h z.2.2 hz]
      exact agree_compTo _ _ h hk _
    | some y =>
      simp only
      split
      · unfold predE
        have h1 := agree_predTo (g := g) y.n h hk g.rules.length
        rw [h1 k hk]
        split
        · exact agree_add _ h1 hk
        · exact h1
      · by_cases hkm : k < m
        · rw [hx hkm]
          split
          · exact agree_add _ h (by omega)
          · exact h
        · split
          · split
            · exact fun j hj => (agree_far _ (fun j hj => (h j hj)) (show m < k + 1 by omega) j hj).trans ((agree_far _ (Agree.refl m T) (show m < k + 1 by omega)) j hj).symm
            · exact agree_far _ h (by omega)
          · split
            · exact fun j hj => (h j hj).trans ((agree_far _ (Agree.refl m T) (show m < k + 1 by omega)) j hj).symm
            · exact h
theorem far_step (z : EItem) (h : Agree m S T) (hk : m < k) : Agree m (stepE g x k z S) T := by
  unfold stepE
  cases g.rules[z.1]? with
  | none => exact h
  | some r =>
    simp only
    cases r.r[z.2.1]? with
    | none => exact far_compTo _ _ h hk _
    | some y =>
      simp only
      split
      · unfold predE
        split
        · exact agree_far _ (far_predTo _ h hk _) hk
        · exact far_predTo _ h hk _
      · split
        · exact agree_far _ h (by omega)
        · exact h
theorem agree_proc (hk : k ≤ m) (hx : k < m → x[k]? = x'[k]?) : ∀ (f a : Nat) (S T : ESets), EOk g x S → Agree m S T → Agree m (procE g x k f a S) (procE g x' k f a T)
  | 0, _, _, _, _, h => h
  | f + 1, a, S, T, ho, h => by
    unfold procE
    rw [← h k hk]
    cases hz : (S k)[a]? with
    | none => exact h
    | some z =>
      have hzm := List.mem_of_getElem? hz
      obtain ⟨r, hr, hl, hd⟩ := ho.ok k z hzm
      have := drv_le hd
      exact agree_proc hk hx f (a + 1) _ _ (stepE_ok ho hzm) (agree_step z h hk hx (by omega))
theorem far_proc (hk : m < k) : ∀ (f a : Nat) (S : ESets), Agree m (procE g x k f a S) S
  | 0, _, S => Agree.refl m S
  | f + 1, a, S => by
    unfold procE
    cases (S k)[a]? with
    | none => exact Agree.refl m S
    | some z => exact (far_proc hk f (a + 1) _).trans (far_step z (Agree.refl m S) hk)
theorem agree_fill (hx : ∀ k, k < m → x[k]? = x'[k]?) : ∀ n, n ≤ m + 1 → Agree m (fillTo g x n) (fillTo g x' n)
  | 0, _ => Agree.refl m _
  | n + 1, h => by
    unfold fillTo
    exact agree_proc (by omega) (hx n) _ _ _ _ (fillTo_ok n) (agree_fill hx n (by omega))
theorem far_fill : ∀ d, Agree m (fillTo g x (m + 1 + d)) (fillTo g x (m + 1))
  | 0 => Agree.refl m _
  | d + 1 => by
    show Agree m (procE g x (m + 1 + d) (maxE + 1) 0 (fillTo g x (m + 1 + d))) _
    exact (far_proc (by omega) _ _ _).trans (far_fill d)
/-- the sets of the beginning of a word are the first sets of the word -/
theorem fill_begin (hm : m ≤ x.length) : Agree m (fillE g x) (fillE g (x.take m)) := by
  unfold fillE
  rw [List.length_take, Nat.min_eq_left hm]
  have h1 := far_fill (g := g) (x := x) (m := m) (x.length - m)
  rw [show m + 1 + (x.length - m) = x.length + 1 by omega] at h1
  exact h1.trans (agree_fill (fun k hk => by rw [List.getElem?_take, if_pos hk]) (m + 1) (Nat.le_refl _))
end
end Go.Proofs.Ytcndbohiiodndaa

open Go Go.RowKit
open Go.ChangeMaps (setBlock)
namespace Go.Proofs.Ytcndbohiiodndaa

/-! ### package earley: the chart in memory -/
theorem Try.fieldsEItem : Try.prog.fieldsOf 63 = #[{ name := "Rule", type := 3, offset := 0, embedded := false, tag := "", pkgPath := "", byteOffset := 0 }, { name := "Dot", type := 3, offset := 1, embedded := false, tag := "", pkgPath := "", byteOffset := 8 }, { name := "From", type := 3, offset := 2, embedded := false, tag := "", pkgPath := "", byteOffset := 16 }] := by
  simp only [Program.fieldsOf, Try.underlying63]
theorem Try.eqE (a b c a' b' c' : Int) (w : World) : (Op.equal 63 (.agg #[.int .i64 a, .int .i64 b, .int .i64 c]) (.agg #[.int .i64 a', .int .i64 b', .int .i64 c'])).run Try.prog w = .ok (decide (a = a' ∧ b = b' ∧ c = c')) w := by
  unfold Op.equal Op.maxDepth
  rw [run_equalIn_struct (P := Try.prog) w 9999 63 _ _ (by rw [Try.fieldsEItem]; exact Try.underlying63) (by kernel_rfl), Try.fieldsEItem]
  by_cases h1 : a = a' <;> by_cases h2 : b = b' <;> by_cases h3 : c = c' <;> simp [Op.eqFields, h1, h2, h3, go_sem]
theorem Try.chkE (b : Bool) (n : Nat) (x y z : Int) (w : World) : (Instr.checkKey b (n + 1 + 1) 63 (.agg #[.int .i64 x, .int .i64 y, .int .i64 z])).run Try.prog w = .ok () w := by
  rw [Instr.checkKey]
  simp [run_underlying Try.underlying63, Try.chkInt, go_sem]
theorem Try.eItemKey : MKey Try.prog 63 itemV where
  eq a b w := by
    unfold itemV
    rw [Try.eqE]
    obtain ⟨a1, a2, a3⟩ := a
    obtain ⟨b1, b2, b3⟩ := b
    have h : ((a1 : Int) = b1 ∧ (a2 : Int) = b2 ∧ (a3 : Int) = b3) ↔ ((a1, a2, a3) : Item) = (b1, b2, b3) := by simp only [Prod.mk.injEq]; omega
    exact congrArg (fun b => Result.ok b w) (decide_eq_decide.2 h)
  chk e a w := Try.chkE e 9998 _ _ _ w
  bits a := bits3 9999 _ _ _
  und := ⟨_, Try.underlying63, fun a b => by simp [Instr.sameNow]⟩
theorem Try.infoEItem : (Try.prog.info? 63).map (fun i => (i.zero, i.size, i.bytes)) = some (some (.agg #[.int .i64 0, .int .i64 0, .int .i64 0]), 3, 24) := by kernel_rfl
theorem Try.infoEItems : (Try.prog.info? 56).map (fun i => (i.zero, i.size, i.bytes)) = some (some (.slice none 0 0), 1, 24) := by kernel_rfl
theorem Try.infoEMap : (Try.prog.info? 206).map (fun i => (i.zero, i.size, i.bytes)) = some (some (.map none), 1, 8) := by kernel_rfl

abbrev EHead := Nat → Option Addr × Nat
def hdE (h : EHead) (S : ESets) (k : Nat) : Value := .slice (h k).1 (S k).length (h k).2

structure EAt (D : Nat → Prop) (w : World) (lo bc : Nat) (g : Gram) (x : List Int) (A : Option Addr) (c : Nat) (B : Option Addr) (d n1 : Nat) (sb sc ib ic : Nat) (h : EHead) (r : Nat → Nat) (S : ESets) : Prop where
  blk : w.heap[bc]? = some (.cells #[.int .i64 g.terms, .int .i64 g.nons, .int .i64 g.start, .slice A g.rules.length c, .slice B x.length d, .slice (some ⟨sb, 0, none⟩) n1 sc, .slice (some ⟨ib, 0, none⟩) n1 ic] 146 (0, 0))
  lt : bc < lo
  rules : IsSl Elt.rule (fun b => b < lo) w (.slice A g.rules.length c) g.rules
  word : IsSl Elt.int (fun b => b < lo) w (.slice B x.length d) x
  sets : w.ownsRow lo 56 1 (.slice (some ⟨sb, 0, none⟩) n1 sc) n1 ((List.range n1).map (hdE h S))
  ins : w.ownsRow lo 206 1 (.slice (some ⟨ib, 0, none⟩) n1 ic) n1 ((List.range n1).map fun k => Value.map (some (r k)))
  each : ∀ k, k < n1 → w.ownsRow lo 63 3 (hdE h S k) (S k).length (itemCells (S k))
  apart : ∀ k j, k < n1 → j < n1 → k ≠ j → ∀ b, (hdE h S k).ownBlock = some b → (hdE h S j).ownBlock ≠ some b
  maps : ∀ k, k < n1 → SetIs w (r k) (fun z => z ∈ S k)
  dist : ∀ k j, k < n1 → j < n1 → r k = r j → k = j
  own : D sb ∧ D ib ∧ (∀ k, k < n1 → D (r k)) ∧ (∀ k, k < n1 → ∀ b, (hdE h S k).ownBlock = some b → D b)
  low : ∀ b, D b → lo ≤ b
  top : ∀ b, D b → b < w.heap.size
  le : lo ≤ w.heap.size

section
variable {D : Nat → Prop} {w w' : World} {lo bc : Nat} {g : Gram} {x : List Int} {A : Option Addr} {c : Nat} {B : Option Addr} {d n1 sb sc ib ic : Nat} {h : EHead} {r : Nat → Nat} {S : ESets}

theorem EAt.keep (H : EAt D w lo bc g x A c B d n1 sb sc ib ic h r S) (hk : ∀ b, b < w.heap.size → (b < lo ∨ D b) → w'.heap[b]? = w.heap[b]?) (hs : w.heap.size ≤ w'.heap.size) : EAt D w' lo bc g x A c B d n1 sb sc ib ic h r S := by
  obtain ⟨o1, o2, o3, o4⟩ := H.own
  have hle := H.le
  have hl : ∀ b, b < lo → w'.heap[b]? = w.heap[b]? := fun b hb => hk b (by omega) (.inl hb)
  have hd : ∀ b, D b → w'.heap[b]? = w.heap[b]? := fun b hb => hk b (H.top b hb) (.inr hb)
  refine ⟨(hl _ H.lt).trans H.blk, H.lt, H.rules.keep hl hs, H.word.keep hl hs, own_same H.sets fun b hb => ?_, own_same H.ins fun b hb => ?_, fun k hk2 => own_same (H.each k hk2) fun b hb => hd b (o4 k hk2 b hb), H.apart, fun k hk2 => (H.maps k hk2).same (hd _ (o3 k hk2)), H.dist, H.own, H.low, fun b hb => Nat.lt_of_lt_of_le (H.top b hb) hs, Nat.le_trans hle hs⟩
  · have : sb = b := by simpa [Value.ownBlock] using hb
    subst this; exact hd _ o1
  · have : ib = b := by simpa [Value.ownBlock] using hb
    subst this; exact hd _ o2
theorem EAt.below (H : EAt D w lo bc g x A c B d n1 sb sc ib ic h r S) (hb : Below w.heap.size w w') : EAt D w' lo bc g x A c B d n1 sb sc ib ic h r S := H.keep (fun b hb2 _ => hb.block b hb2) hb.size
theorem EAt.away (H : EAt D w lo bc g x A c B d n1 sb sc ib ic h r S) {V : Nat → Prop} (ha : Away w.heap.size V w w') (hV : ∀ b, (b < lo ∨ D b) → ¬ V b) : EAt D w' lo bc g x A c B d n1 sb sc ib ic h r S := H.keep (fun b hb2 hb3 => ha.block b hb2 (hV b hb3)) ha.size

/-- the head of set k, as the code finds it -/
theorem EAt.setCell (H : EAt D w lo bc g x A c B d n1 sb sc ib ic h r S) {k : Nat} (hk : k < n1) : w.cell? ⟨sb, k, none⟩ = some (.slice (h k).1 (S k).length (h k).2) := by
  have hc := H.sets.cells (g := sb) rfl k (hdE h S k) (by simp [hk])
  rwa [add_lit0] at hc
theorem EAt.mapCell (H : EAt D w lo bc g x A c B d n1 sb sc ib ic h r S) {k : Nat} (hk : k < n1) : w.cell? ⟨ib, k, none⟩ = some (.map (some (r k))) := by
  have hc := H.ins.cells (g := ib) rfl k (.map (some (r k))) (by simp [hk])
  rwa [add_lit0] at hc
theorem EAt.setFree (H : EAt D w lo bc g x A c B d n1 sb sc ib ic h r S) {k : Nat} : w.frozen? ⟨sb, k, none⟩ = false := by
  obtain ⟨cs, h1, _⟩ := own_typed H.sets sb rfl
  exact blk_free h1
/-- an item of set k -/
theorem EAt.itemAt (H : EAt D w lo bc g x A c B d n1 sb sc ib ic h r S) {k a : Nat} (hk : k < n1) (ha : a < (S k).length) :
    ∃ b, (h k).1 = some ⟨b, 0, none⟩ ∧ w.cell? ⟨b, a * 3, none⟩ = some (.int .i64 (S k)[a].1) ∧ w.cell? ⟨b, a * 3 + 1, none⟩ = some (.int .i64 (S k)[a].2.1) ∧ w.cell? ⟨b, a * 3 + 2, none⟩ = some (.int .i64 (S k)[a].2.2) := by
  have he := H.each k hk
  unfold hdE at he
  obtain ⟨b, cap, e, _, _⟩ := he.form (by omega)
  injection e with e1 e2 e3
  rw [e1] at he
  obtain ⟨h1, h2, h3⟩ := itemCells_get (S k) a ha
  have k1 := he.cells (g := b) rfl _ _ h1
  have k2 := he.cells (g := b) rfl _ _ h2
  have k3 := he.cells (g := b) rfl _ _ h3
  rw [add_lit0] at k1 k2 k3
  exact ⟨b, e1, k1, k2, k3⟩

/-- what add leaves when the item is new -/
theorem EAt.added (H : EAt D w lo bc g x A c B d n1 sb sc ib ic h r S) {k : Nat} (hk : k < n1) {z : EItem} (hz : z ∉ S k) {w1 w3 w4 : World} {o : Obj} {A' : Option Addr} {c' : Nat}
    (hb1 : Below w.heap.size w w1) (hset : SetIs (setBlock w1 (r k) o) (r k) (fun y => y ∈ S k ∨ y = z)) (hb3 : Below (setBlock w1 (r k) o).heap.size (setBlock w1 (r k) o) w3)
    (hg : w3.grownBy w4 (hdE h S k).ownBlock) (hown : w4.ownsRow lo 63 3 (.slice A' ((S k).length + 1) c') ((S k).length + 1) (itemCells (S k) ++ [.int .i64 z.1, .int .i64 z.2.1, .int .i64 z.2.2])) (hat : (Value.slice A' ((S k).length + 1) c').ownBlock = (hdE h S k).ownBlock ∨ (Value.slice A' ((S k).length + 1) c').ownBlock = some w3.heap.size) :
    Away w.heap.size D w (w4.setCell ⟨sb, k, none⟩ (.slice A' ((S k).length + 1) c')) ∧
    EAt (fun b => D b ∨ (w.heap.size ≤ b ∧ b < (w4.setCell ⟨sb, k, none⟩ (.slice A' ((S k).length + 1) c')).heap.size)) (w4.setCell ⟨sb, k, none⟩ (.slice A' ((S k).length + 1) c')) lo bc g x A c B d n1 sb sc ib ic (fun j => if j = k then (A', c') else h j) r (addE S k z) := by
  obtain ⟨o1, o2, o3, o4⟩ := H.own
  have hle := H.le
  have hrk := o3 k hk
  have hrkt := H.top _ hrk
  have s1 := hb1.size
  have s2 : (setBlock w1 (r k) o).heap.size = w1.heap.size := setBlock_size _ _ _
  have s3 := hb3.size
  have s4 := hg.size
  have s5 : (w4.setCell ⟨sb, k, none⟩ (.slice A' ((S k).length + 1) c')).heap.size = w4.heap.size := size_setCell _ _ _
  have hlen : (addE S k z k).length = (S k).length + 1 := by unfold addE; rw [if_neg hz]; simp
  have hSk : addE S k z k = S k ++ [z] := by unfold addE; rw [if_neg hz]; simp
  have hSj : ∀ j, j ≠ k → addE S k z j = S j := fun j hj => by unfold addE; rw [if_neg hz]; simp [hj]
  have hhd : ∀ j, hdE (fun j => if j = k then (A', c') else h j) (addE S k z) j = if j = k then .slice A' ((S k).length + 1) c' else hdE h S j := fun j => by
    unfold hdE
    by_cases e : j = k
    · subst e; simp [hlen]
    · simp [e, hSj j e]
  -- what a block of w reads in the end
  have hkeep : ∀ b, b < w.heap.size → b ≠ r k → (hdE h S k).ownBlock ≠ some b → b ≠ sb → (w4.setCell ⟨sb, k, none⟩ (.slice A' ((S k).length + 1) c')).heap[b]? = w.heap[b]? := fun b hb h1 h2 h3 => by
    rw [heap_set_ne h3, hg.block b (by omega) fun e => h2 e.symm, hb3.block b (by omega), setBlock_other _ _ _ (fun e => h1 e), hb1.block b hb]
  have hty : ∀ b, (hdE h S k).ownBlock = some b → ∃ cs, w.heap[b]? = some (.cells cs 63 (0, 0)) := fun b hb => by
    obtain ⟨cs, h1, _⟩ := own_typed (H.each k hk) b hb
    exact ⟨cs, h1⟩
  have htys : ∃ cs, w.heap[sb]? = some (.cells cs 56 (0, 0)) := by
    obtain ⟨cs, h1, _⟩ := own_typed H.sets sb rfl
    exact ⟨cs, h1⟩
  have htyi : ∃ cs, w.heap[ib]? = some (.cells cs 206 (0, 0)) := by
    obtain ⟨cs, h1, _⟩ := own_typed H.ins ib rfl
    exact ⟨cs, h1⟩
  have hmap : ∀ j, j < n1 → ∃ es cl, w.heap[r j]? = some (.map es cl) := fun j hj => by
    obtain ⟨l, ⟨es, cl, h1, _⟩, _⟩ := H.maps j hj
    exact ⟨es, cl, h1⟩
  have hsb_r : ∀ j, j < n1 → sb ≠ r j := fun j hj e => by
    obtain ⟨cs, h1⟩ := htys
    obtain ⟨es, cl, h2⟩ := hmap j hj
    rw [e, h2] at h1; cases h1
  have hib_r : ∀ j, j < n1 → ib ≠ r j := fun j hj e => by
    obtain ⟨cs, h1⟩ := htyi
    obtain ⟨es, cl, h2⟩ := hmap j hj
    rw [e, h2] at h1; cases h1
  have hib_sb : ib ≠ sb := fun e => by
    obtain ⟨cs, h1⟩ := htyi
    obtain ⟨cs2, h2⟩ := htys
    rw [e, h2] at h1
    injection h1 with h1
    injection h1 with _ h1
    exact absurd h1 (by decide)
  have hit_r : ∀ i j b, i < n1 → j < n1 → (hdE h S i).ownBlock = some b → b ≠ r j := fun i j b hi hj hb e => by
    obtain ⟨cs, h1, _⟩ := own_typed (H.each i hi) b hb
    obtain ⟨es, cl, h2⟩ := hmap j hj
    rw [e, h2] at h1; cases h1
  have hit_sb : ∀ i b, i < n1 → (hdE h S i).ownBlock = some b → b ≠ sb := fun i b hi hb e => by
    obtain ⟨cs, h1, _⟩ := own_typed (H.each i hi) b hb
    obtain ⟨cs2, h2⟩ := htys
    rw [e, h2] at h1
    injection h1 with h1
    injection h1 with _ h1
    exact absurd h1 (by decide)
  have hit_ib : ∀ i b, i < n1 → (hdE h S i).ownBlock = some b → b ≠ ib := fun i b hi hb e => by
    obtain ⟨cs, h1, _⟩ := own_typed (H.each i hi) b hb
    obtain ⟨cs2, h2⟩ := htyi
    rw [e, h2] at h1
    injection h1 with h1
    injection h1 with _ h1
    exact absurd h1 (by decide)
  have hlow : ∀ b, b < lo → (w4.setCell ⟨sb, k, none⟩ (.slice A' ((S k).length + 1) c')).heap[b]? = w.heap[b]? := fun b hb => by
    refine hkeep b (by omega) (fun e => ?_) (fun e => ?_) (fun e => ?_)
    · have := H.low _ hrk; omega
    · have := H.low _ (o4 k hk b e); omega
    · have := H.low _ o1; omega
  have hkeepj : ∀ j b, j < n1 → j ≠ k → (hdE h S j).ownBlock = some b → (w4.setCell ⟨sb, k, none⟩ (.slice A' ((S k).length + 1) c')).heap[b]? = w.heap[b]? := fun j b hj hjk hb =>
    hkeep b (H.top b (o4 j hj b hb)) (hit_r j k b hj hk hb) (fun e => H.apart j k hj hk hjk b hb e) (hit_sb j b hj hb)
  refine ⟨⟨?_, ?_, ?_, by rw [s5]; omega, fun b hb hD => ?_⟩, ⟨?_, H.lt, H.rules.keep hlow (by rw [s5]; omega), H.word.keep hlow (by rw [s5]; omega), ?_, ?_, ?_, ?_, ?_, H.dist, ?_, ?_, ?_, by rw [s5]; omega⟩⟩
  · exact hg.os.trans (hb3.os.trans hb1.os)
  · exact hg.tape.trans (hb3.tape.trans hb1.tape)
  · exact hg.output.trans (hb3.output.trans hb1.output)
  · exact hkeep b hb (fun e => hD (e ▸ hrk)) (fun e => hD (o4 k hk b e)) (fun e => hD (e ▸ o1))
  · rw [hlow _ H.lt]; exact H.blk
  · -- the heads
    have h3 : w3.ownsRow lo 56 1 (.slice (some ⟨sb, 0, none⟩) n1 sc) n1 ((List.range n1).map (hdE h S)) := own_same H.sets fun b hb => by
      have e : sb = b := by simpa [Value.ownBlock] using hb
      subst e
      have := H.top _ o1
      rw [hb3.block sb (by omega), setBlock_other _ _ _ (hsb_r k hk), hb1.block sb this]
    have h4 : w4.ownsRow lo 56 1 (.slice (some ⟨sb, 0, none⟩) n1 sc) n1 ((List.range n1).map (hdE h S)) := own_same h3 fun b hb => by
      have e : sb = b := by simpa [Value.ownBlock] using hb
      subst e
      exact hg.block sb (own_lt h3 sb rfl) fun e => hit_sb k sb hk e.symm rfl
    have h5 := (h4.stored k (.slice A' ((S k).length + 1) c')).1
    have e : ((List.range n1).map (hdE h S)).set k (.slice A' ((S k).length + 1) c') = (List.range n1).map (hdE (fun j => if j = k then (A', c') else h j) (addE S k z)) := by
      apply List.ext_getElem?
      intro j
      rw [List.getElem?_set]
      by_cases ej : k = j
      · subst ej
        simp [hk, hhd]
      · simp only [ej, if_false, List.getElem?_map]
        cases hr : (List.range n1)[j]? with
        | none => rfl
        | some v =>
          have hv : v = j := by
            obtain ⟨_, h2⟩ := List.getElem?_eq_some_iff.1 hr
            simp at h2; exact h2.symm
          subst hv
          simp only [Option.map_some]
          rw [hhd v, if_neg fun e => ej e.symm]
    rw [e] at h5
    exact h5
  · exact own_same H.ins fun b hb => by
      have e : ib = b := by simpa [Value.ownBlock] using hb
      subst e
      exact hkeep ib (H.top _ o2) (hib_r k hk) (fun e => hit_ib k ib hk e rfl) hib_sb
  · intro j hj
    rw [hhd j]
    by_cases e : j = k
    · subst e
      rw [if_pos rfl, hlen, hSk, ← itemCells_snoc]
      exact own_same hown fun b hb => heap_set_ne (fun e => by
        obtain ⟨cs, h1, _⟩ := own_typed hown b hb
        rcases hat with h2 | h2
        · rw [h2] at hb
          exact hit_sb j b hj hb e
        · rw [h2] at hb
          injection hb with hb
          have := H.top _ o1
          omega) _ _
    · rw [if_neg e, hSj j e]
      exact own_same (H.each j hj) fun b hb => hkeepj j b hj e hb
  · intro i j hi hj hij b hb
    rw [hhd] at hb ⊢
    have hnew : ∀ i, i < n1 → i ≠ k → ∀ b, (hdE h S i).ownBlock = some b → (Value.slice A' ((S k).length + 1) c').ownBlock ≠ some b := fun i hi hik b hb e => by
      rcases hat with h2 | h2
      · rw [h2] at e
        exact H.apart i k hi hk hik b hb e
      · rw [h2] at e
        injection e with e
        have := H.top _ (o4 i hi b hb)
        omega
    by_cases ei : i = k
    · subst ei
      rw [if_pos rfl] at hb
      rw [if_neg fun e => hij e.symm]
      exact fun e => hnew j hj (fun e => hij e.symm) b e hb
    · rw [if_neg ei] at hb
      by_cases ej : j = k
      · rw [if_pos ej]; exact hnew i hi ei b hb
      · rw [if_neg ej]; exact H.apart i j hi hj hij b hb
  · intro j hj
    by_cases e : j = k
    · subst e
      obtain ⟨l, hm, h1, h2⟩ := hset
      refine ⟨l, hm.same ?_, h1, fun y => by rw [h2, hSk]; simp⟩
      have hrl := hm.lt
      rw [heap_set_ne (fun e => hsb_r j hj e.symm), hg.block (r j) (by omega) (fun e => hit_r j j (r j) hj hj e.symm rfl), hb3.block (r j) hrl]
    · obtain ⟨l, hm, h1, h2⟩ := H.maps j hj
      refine ⟨l, hm.same ?_, h1, fun y => by rw [h2, hSj j e]⟩
      exact hkeep (r j) (H.top _ (o3 j hj)) (fun e2 => e (H.dist j k hj hk e2)) (fun e2 => hit_r k j (r j) hk hj e2 rfl) fun e2 => hsb_r j hj e2.symm
  · refine ⟨.inl o1, .inl o2, fun j hj => .inl (o3 j hj), fun j hj b hb => ?_⟩
    rw [hhd] at hb
    by_cases e : j = k
    · rw [if_pos e] at hb
      rcases hat with h2 | h2
      · rw [h2] at hb
        exact .inl (o4 k hk b hb)
      · have hbl := own_lt hown b hb
        rw [h2] at hb
        injection hb with hb
        exact .inr ⟨by omega, by omega⟩
    · rw [if_neg e] at hb
      exact .inl (o4 j hj b hb)
  · rintro b (hb | hb)
    · exact H.low b hb
    · omega
  · rintro b (hb | hb)
    · have := H.top b hb; omega
    · exact hb.2
end
end Go.Proofs.Ytcndbohiiodndaa

open Go Go.RowKit
open Go.ChangeMaps (setBlock)
namespace Go.Proofs.Ytcndbohiiodndaa

theorem mem_aputE (l : List (Item × Bool)) (z y : Item) : y ∈ (aput l z true).map (·.1) ↔ y = z ∨ y ∈ l.map (·.1) := by
  by_cases h : z ∈ l.map (·.1)
  · rw [aput_keys_old h]
    constructor
    · exact .inr
    · rintro (rfl | h2)
      · exact h
      · exact h2
  · rw [aput_new h]; simp [or_comm]
theorem aputE_true (l : List (Item × Bool)) (h : ∀ p ∈ l, p.2 = true) (z : Item) : ∀ p ∈ aput l z true, p.2 = true := by
  induction l with
  | nil => intro p hp; simp [aput] at hp; rw [hp]
  | cons a l ih =>
    obtain ⟨a1, a2⟩ := a
    intro p hp
    unfold aput at hp
    split at hp
    · rcases List.mem_cons.1 hp with rfl | hp
      · rfl
      · exact h p (List.mem_cons_of_mem _ hp)
    · rcases List.mem_cons.1 hp with rfl | hp
      · exact h _ (List.mem_cons_self ..)
      · exact ih (fun q hq => h q (List.mem_cons_of_mem _ hq)) p hp

section
variable {D : Nat → Prop} {lo bc : Nat} {g : Gram} {x : List Int} {A : Option Addr} {c : Nat} {B : Option Addr} {d n1 sb sc ib ic : Nat} {h : EHead} {r : Nat → Nat} {S : ESets}

/-- what a change of the chart leaves -/
def EEnd (D : Nat → Prop) (w w' : World) (lo bc : Nat) (g : Gram) (x : List Int) (A : Option Addr) (c : Nat) (B : Option Addr) (d n1 sb sc ib ic : Nat) (r : Nat → Nat) (S : ESets) : Prop :=
  ∃ (D' : Nat → Prop) (h' : EHead), Away w.heap.size D w w' ∧ EAt D' w' lo bc g x A c B d n1 sb sc ib ic h' r S ∧ (∀ b, D' b → D b ∨ w.heap.size ≤ b) ∧ ∀ b, D b → D' b

theorem EEnd.of {w : World} (H : EAt D w lo bc g x A c B d n1 sb sc ib ic h r S) : EEnd D w w lo bc g x A c B d n1 sb sc ib ic r S := ⟨D, h, Away.refl _ _ _, H, fun _ h => .inl h, fun _ h => h⟩
theorem EEnd.after {D' : Nat → Prop} {w0 w1 w2 : World} {S' : ESets} (ha : Away w0.heap.size D w0 w1) (hD : ∀ b, D' b → D b ∨ w0.heap.size ≤ b) (hD2 : ∀ b, D b → D' b) (h : EEnd D' w1 w2 lo bc g x A c B d n1 sb sc ib ic r S') : EEnd D w0 w2 lo bc g x A c B d n1 sb sc ib ic r S' := by
  obtain ⟨D2, h2, k1, k2, k3, k4⟩ := h
  have hs := ha.size
  refine ⟨D2, h2, ha.trans ⟨k1.os, k1.tape, k1.output, k1.size, fun j hj hf => k1.block j (by omega) fun hd => ?_⟩, k2, fun b hb => ?_, fun b hb => k4 b (hD2 b hb)⟩
  · rcases hD j hd with h | h
    · exact hf h
    · omega
  · rcases k3 b hb with h | h
    · exact hD b h
    · exact .inr (by omega)
theorem EEnd.pre {w0 w1 w2 : World} {S' : ESets} (hb : Below w0.heap.size w0 w1) (h : EEnd D w1 w2 lo bc g x A c B d n1 sb sc ib ic r S') : EEnd D w0 w2 lo bc g x A c B d n1 sb sc ib ic r S' :=
  EEnd.after (Away.ofBelow hb) (fun _ h => .inl h) (fun _ h => h) h
theorem EEnd.below {w0 w1 w2 : World} {S' : ESets} (h : EEnd D w0 w1 lo bc g x A c B d n1 sb sc ib ic r S') (hb : Below w1.heap.size w1 w2) : EEnd D w0 w2 lo bc g x A c B d n1 sb sc ib ic r S' := by
  obtain ⟨D2, h2, k1, k2, k3, k4⟩ := h
  exact ⟨D2, h2, k1.trans ((Away.ofBelow hb).mono k1.size fun _ _ h => h), k2.below hb, k3, k4⟩

set_option maxRecDepth 100000 in
set_option maxHeartbeats 4000000 in
theorem add_any (k : Nat) (z : EItem) (w : World) (H : EAt D w lo bc g x A c B d n1 sb sc ib ic h r S) (hk : k < n1) (hl : (S k).length ≤ 5000) :
    Calls Try.prog 121 #[.pointer (some ⟨bc, 0, none⟩), .int .i64 k, itemV z] w fun e w' => e = .returned (.tuple #[]) ∧ EEnd D w w' lo bc g x A c B d n1 sb sc ib ic r (addE S k z) := by
  have hb1 := below1 w (.cells #[.int .i64 z.1, .int .i64 z.2.1, .int .i64 z.2.2] 63)
  have H1 := H.below hb1
  have hbx := heap_alloc_new w (.cells #[.int .i64 z.1, .int .i64 z.2.1, .int .i64 z.2.2] 63)
  have c6 := blk_cell H1.blk (i := 6) rfl
  have c5 := blk_cell H1.blk (i := 5) rfl
  have cm := H1.mapCell hk
  have cs := H1.setCell hk
  have hkz : (k : Int) < (n1 : Int) := by omega
  obtain ⟨l, hm, htr, hke⟩ := H1.maps k hk
  have hlook0 := run_look (P := Try.prog) Try.eItemKey Try.underlying206 Try.zeroBool hm z
  rw [key_bool _ htr] at hlook0
  unfold itemV at hlook0 ⊢
  by_cases hin : z ∈ S k
  · have hlook : ∀ nq, (Instr.lookup 206 (.map (some (r k))) (.agg #[.int .i64 z.1, .int .i64 z.2.1, .int .i64 z.2.2]) false).run Try.prog ((w.alloc (.cells #[.int .i64 z.1, .int .i64 z.2.1, .int .i64 z.2.2] 63)).drewN nq) = .ok (.bool true) ((w.alloc (.cells #[.int .i64 z.1, .int .i64 z.2.1, .int .i64 z.2.2] 63)).drewN nq) := fun nq => by
      have := run_look (P := Try.prog) Try.eItemKey Try.underlying206 Try.zeroBool (w := (w.alloc (.cells #[.int .i64 z.1, .int .i64 z.2.1, .int .i64 z.2.2] 63)).drewN nq) (hm.same rfl) z
      rw [key_bool _ htr, if_pos ((hke z).2 hin)] at this
      exact this
    have hS : addE S k z = S := by unfold addE; rw [if_pos hin]
    have HS := Lib.hid hS
    clear hS hlook0 hin
    go_enter Try.func121, Try.ntmps121
    go_wp2_with fail
    go_quiet (fail)
    go_wp2
    refine bodyPost_end (v := .tuple #[]) (by kernel_rfl) rfl ⟨rfl, ?_⟩
    rw [HS.out]
    exact (EEnd.of H).below (below_drewN hb1 _)
  · have hlook : ∀ nq, (Instr.lookup 206 (.map (some (r k))) (.agg #[.int .i64 z.1, .int .i64 z.2.1, .int .i64 z.2.2]) false).run Try.prog ((w.alloc (.cells #[.int .i64 z.1, .int .i64 z.2.1, .int .i64 z.2.2] 63)).drewN nq) = .ok (.bool false) ((w.alloc (.cells #[.int .i64 z.1, .int .i64 z.2.1, .int .i64 z.2.2] 63)).drewN nq) := fun nq => by
      have := run_look (P := Try.prog) Try.eItemKey Try.underlying206 Try.zeroBool (w := (w.alloc (.cells #[.int .i64 z.1, .int .i64 z.2.1, .int .i64 z.2.2] 63)).drewN nq) (hm.same rfl) z
      rw [key_bool _ htr, if_neg fun h => hin ((hke z).1 h)] at this
      exact this
    have HIN := Lib.hid hin
    clear hlook0 hin
    go_enter Try.func121, Try.ntmps121
    go_wp2_with fail
    go_quiet (fail)
    go_wp2_with fail
    obtain ⟨o, hput0, hnm⟩ := (hm.same (w' := (w.alloc (.cells #[.int .i64 z.1, .int .i64 z.2.1, .int .i64 z.2.2] 63)).drewN (nq + 1)) rfl).put (P := Try.prog) Try.eItemKey Try.underlying206 z true
    have hput : (Instr.mapUpdate 206 (.map (some (r k))) (.agg #[.int .i64 z.1, .int .i64 z.2.1, .int .i64 z.2.2]) (.bool true)).run Try.prog ((w.alloc (.cells #[.int .i64 z.1, .int .i64 z.2.1, .int .i64 z.2.2] 63)).drewN (nq + 1)) = .ok () (setBlock ((w.alloc (.cells #[.int .i64 z.1, .int .i64 z.2.1, .int .i64 z.2.2] 63)).drewN (nq + 1)) (r k) o) := hput0
    clear hput0 hlook
    go_region
    clear hput
    have hset : SetIs (setBlock ((w.alloc (.cells #[.int .i64 z.1, .int .i64 z.2.1, .int .i64 z.2.2] 63)).drewN (nq + 1)) (r k) o) (r k) (fun y => y ∈ S k ∨ y = z) := by
      refine ⟨_, hnm, aputE_true _ htr _, fun y => ?_⟩
      rw [mem_aputE, hke]
      exact or_comm
    have hb2 : Below w.heap.size w ((w.alloc (.cells #[.int .i64 z.1, .int .i64 z.2.1, .int .i64 z.2.2] 63)).drewN (nq + 1)) := below_drewN hb1 _
    have hne : ∀ (b : Nat) (T : TypeId) (cs : Array Value) (fr : Nat × Nat), (w.alloc (.cells #[.int .i64 z.1, .int .i64 z.2.1, .int .i64 z.2.2] 63)).heap[b]? = some (Obj.cells cs T fr) → (setBlock ((w.alloc (.cells #[.int .i64 z.1, .int .i64 z.2.1, .int .i64 z.2.2] 63)).drewN (nq + 1)) (r k) o).heap[b]? = some (Obj.cells cs T fr) := fun b T cs fr hb => by
      rw [setBlock_other _ _ _ fun e => ?_]
      · exact hb
      · obtain ⟨es, cl, h1, _⟩ := hm
        rw [← e, hb] at h1; cases h1
    obtain ⟨ie, hie, he0, he2, he3⟩ := info_parts Try.infoEItem
    obtain ⟨cs0, hs0, hslo⟩ := own_typed H1.sets sb rfl
    have hs2 := hne _ _ _ _ hs0
    have hc2 := hne _ _ _ _ H1.blk
    have hx2 := hne _ _ _ _ hbx
    have hts := (World.cell?_of_block (a := ⟨sb, k, none⟩) (hs2.trans hs0.symm)).trans cs
    have hownE : ∀ W, Below (setBlock ((w.alloc (.cells #[.int .i64 z.1, .int .i64 z.2.1, .int .i64 z.2.2] 63)).drewN (nq + 1)) (r k) o).heap.size (setBlock ((w.alloc (.cells #[.int .i64 z.1, .int .i64 z.2.1, .int .i64 z.2.2] 63)).drewN (nq + 1)) (r k) o) W → W.ownsRow lo 63 3 (hdE h S k) (S k).length (itemCells (S k)) := fun W hW => own_same (H1.each k hk) fun b hb => by
      obtain ⟨cs1, h1, _⟩ := own_typed (H1.each k hk) b hb
      have h2 := hne _ _ _ _ h1
      exact (blk_below hW (blk_lt h2) h2).trans h1.symm
    have hsneb : ∀ b, (hdE h S k).ownBlock = some b → b ≠ sb ∧ b ≠ bc := fun b hb => by
      obtain ⟨cs1, h1, hlo⟩ := own_typed (H1.each k hk) b hb
      refine ⟨fun e => ?_, fun e => by have := H.lt; omega⟩
      rw [e, hs0] at h1
      injection h1 with h1
      injection h1 with _ h1
      exact absurd h1 (by decide)
    have hlow := H.lt
    have hlole : lo ≤ w.heap.size := H.le
    have hW2s : (setBlock ((w.alloc (.cells #[.int .i64 z.1, .int .i64 z.2.1, .int .i64 z.2.2] 63)).drewN (nq + 1)) (r k) o).heap.size = w.heap.size + 1 := by rw [setBlock_size]; exact World.size_alloc _ _
    have hadd := fun (w3 w4 : World) (A' : Option Addr) (c' : Nat) => H.added hk HIN.out (w1 := (w.alloc (.cells #[.int .i64 z.1, .int .i64 z.2.1, .int .i64 z.2.2] 63)).drewN (nq + 1)) (o := o) (w3 := w3) (w4 := w4) (A' := A') (c' := c') hb2 hset
    have HADD := Lib.hid hadd
    have HOWN := Lib.hid hownE
    have HSN := Lib.hid hsneb
    have HW2S := Lib.hid hW2s
    clear hadd hownE hsneb hne hnm hset hb2 hW2s hs0 hbx c6 c5 cm cs hm htr hke H1 hb1 HIN
    unfold hdE at *
    generalize setBlock ((w.alloc (.cells #[.int .i64 z.1, .int .i64 z.2.1, .int .i64 z.2.2] 63)).drewN (nq + 1)) (r k) o = W2 at *
    have d5 := blk_cell hc2 (i := 5) rfl
    have d0 := blk_cell hx2 (i := 0) rfl
    have d1 := blk_cell hx2 (i := 1) rfl
    have d2 := blk_cell hx2 (i := 2) rfl
    have hlb := blk_lt hc2
    have hls := blk_lt hs2
    have hlx := blk_lt hx2
    go_wp2_with fail
    go_region_law (first | (refine step_append_src _ rfl (.tmp 35) (.tmp 37) 56 rfl lo 63 ie (.agg #[.int .i64 0, .int .i64 0, .int .i64 0]) 3 24 Try.underlying56 hie he0 he2 he3 rfl (by decide) _ (S k).length (itemCells (S k)) (by rfl) (HOWN.out _ (below1 W2 _).drew) (some ⟨W2.heap.size, 0, none⟩) 1 1 [.int .i64 z.1, .int .i64 z.2.1, .int .i64 z.2.2] (by rfl) rfl (fun h => by cases h) (fun a ha j u hj => by injection ha with ha; subst ha; rw [World.cell?_drew]; exact cells_new _ _ _ _ _ hj) (by intro u hu; simp at hu; rcases hu with rfl | rfl | rfl <;> rfl) ((S k).length + 1) rfl (by unfold maxLen; omega) (by omega) (by have := HW2S.out; simp; omega) ?_; intro A4 c4 w4 hown4 hg4 hat4; have e5 := (World.cell?_of_block (w := W2) (a := ⟨bc, 5, none⟩) ((hg4.block bc (by simp; omega) (fun e => (HSN.out bc e.symm).2 rfl)).trans ((below1 W2 _).drew.block bc hlb))).trans d5; have hs4 := (hg4.block sb (by simp; omega) (fun e => (HSN.out sb e.symm).1 rfl)).trans (((below1 W2 _).drew.block sb hls).trans hs2); have e6 := (World.cell?_of_block (w := W2) (a := ⟨sb, k, none⟩) (hs4.trans hs2.symm)).trans hts; have e7 : w4.frozen? ⟨sb, k, none⟩ = false := blk_free hs4))
    all_goals
      obtain ⟨ha5, hE5⟩ := HADD.out _ w4 A4 c4 (below1 W2 _).drew hg4 hown4 hat4
      refine bodyPost_end (v := .tuple #[]) (by kernel_rfl) rfl ⟨rfl, _, _, ha5, hE5, fun b hb => ?_, fun b hb => .inl hb⟩
      rcases hb with hb | hb
      · exact .inl hb
      · exact .inr hb.1
end
end Go.Proofs.Ytcndbohiiodndaa

open Go Go.RowKit
open Go.ChangeMaps (setBlock)
namespace Go.Proofs.Ytcndbohiiodndaa

theorem itemCells_one (l : List EItem) : ∀ u ∈ itemCells l, u.oneCell' = true := by
  intro u hu
  unfold itemCells at hu
  obtain ⟨y, _, hy⟩ := List.mem_flatMap.1 hu
  simp at hy
  rcases hy with rfl | rfl | rfl <;> rfl

set_option maxRecDepth 100000 in
/-- slices.Clone of items -/
theorem clone_items (lo : Nat) (l : List EItem) (A : Option Addr) (c : Nat) (w : World) (hl : w.ownsRow lo 63 3 (.slice A l.length c) l.length (itemCells l)) (hn : l.length ≤ 1000000) :
    Calls Try.prog 143 #[.slice A l.length c] w fun e w' => ∃ A' c', e = .returned (.slice A' l.length c') ∧ Below w.heap.size w w' ∧ w'.ownsRow w.heap.size 63 3 (.slice A' l.length c') l.length (itemCells l) := by
  obtain ⟨ip, hip, h0, h2, h3⟩ := info_parts Try.infoEItem
  cases A with
  | none =>
    have hz : l.length = 0 := by
      rcases hl.2 with ⟨e, _⟩ | ⟨g', cap, cur, e, _⟩
      · injection e
      · injection e with e; cases e
    have hl0 : l = [] := List.eq_nil_of_length_eq_zero hz
    subst hl0
    have hu : ∀ (w : World) (n : Nat), (binOp .eql 56 (.slice none n c) (.slice none 0 0)).run Try.prog w = .ok (.bool true) w := fun w n => Lib.run_eql_slice_nil w _ _ none n c 0 0 Try.underlying56
    go_enter Try.func143, Try.ntmps143
    go_wp2
    go_ret
    exact ⟨none, 0, rfl, Below.refl _ _, World.ownsRow_nil _ _ _ _⟩
  | some a =>
    have ha : ∃ g, a = ⟨g, 0, none⟩ := by
      rcases hl.2 with ⟨e, _⟩ | ⟨g', cap, cur, e, _⟩
      · injection e with e; cases e
      · injection e with e; injection e with e; exact ⟨g', e⟩
    obtain ⟨gb, rfl⟩ := ha
    have hcells := hl.cells (g := gb) rfl
    have HC := Lib.hid hcells
    have HN := Lib.hid hn
    have HL := Lib.hid hl
    clear hcells hn hl
    have hu : ∀ (w : World) (n : Nat), (binOp .eql 56 (.slice (some ⟨gb, 0, none⟩) n c) (.slice none 0 0)).run Try.prog w = .ok (.bool false) w := fun w n => Lib.run_eql_slice_nil w _ _ (some ⟨gb, 0, none⟩) n c 0 0 Try.underlying56
    go_enter Try.func143, Try.ntmps143
    go_wp2_with (first | (at_builtin; refine wpList_append_src _ rfl (.tmp 5) (.tmp 6) 56 rfl w.heap.size 63 ip (.agg #[.int .i64 0, .int .i64 0, .int .i64 0]) 3 24 Try.underlying56 hip h0 h2 h3 rfl (by decide) _ 0 [] rfl ?ho (some ⟨gb, 0, none⟩) l.length c (itemCells l) rfl ?c0 ?c1 ?c2 ?c3 ?c4 ?c5 ?c6 ?_))
    case ho => exact ⟨rfl, .inr ⟨w.heap.size, 0, #[], rfl, Nat.le_refl _, heap_alloc_new w _, Nat.le_refl _, by unfold maxLen; omega, rfl, rfl⟩⟩
    case c0 => rw [itemCells_length]
    case c1 => intro h; cases h
    case c2 =>
      intro a' ha j u hj
      injection ha with ha
      subst ha
      have hlt := HC.out j u hj
      exact (World.cell?_of_block (w := w) (Below.heap_alloc w _ _ (World.block_lt_of_cell? w _ hlt))).trans hlt
    case c3 => exact itemCells_one l
    case c4 => have := HN.out; unfold maxLen; omega
    case c5 => have := HN.out; omega
    case c6 => rw [World.size_alloc]; omega
    intro v' w1 hown hg _
    obtain ⟨A', c', rfl⟩ := own_form hown
    go_wp2
    go_ret
    refine ⟨A', c', by simp, ?_, by simpa using hown⟩
    exact ((Below.refl _ _).alloc (Nat.le_refl _) _).grown hg (by simp) (fun k hk => by
      have : k = w.heap.size := by simpa [Value.ownBlock] using hk.symm
      omega)

section
variable {D : Nat → Prop} {lo bc : Nat} {g : Gram} {x : List Int} {A : Option Addr} {c : Nat} {B : Option Addr} {d n1 sb sc ib ic : Nat} {h : EHead} {r : Nat → Nat} {S : ESets}

theorem row_at {w : World} {base n b cap : Nat} {l : List EItem} (he : w.ownsRow base 63 3 (.slice (some ⟨b, 0, none⟩) n cap) n (itemCells l)) {a : Nat} (ha : a < l.length) :
    w.cell? ⟨b, a * 3, none⟩ = some (.int .i64 l[a].1) ∧ w.cell? ⟨b, a * 3 + 1, none⟩ = some (.int .i64 l[a].2.1) ∧ w.cell? ⟨b, a * 3 + 2, none⟩ = some (.int .i64 l[a].2.2) := by
  obtain ⟨h1, h2, h3⟩ := itemCells_get l a ha
  have k1 := he.cells (g := b) rfl _ _ h1
  have k2 := he.cells (g := b) rfl _ _ h2
  have k3 := he.cells (g := b) rfl _ _ h3
  rw [add_lit0] at k1 k2 k3
  exact ⟨k1, k2, k3⟩

set_option maxRecDepth 100000 in
set_option maxHeartbeats 4000000 in
theorem complete_any (k : Nat) (z : EItem) (w : World) (H : EAt D w lo bc g x A c B d n1 sb sc ib ic h r S) (hv : Valid g) (hx : x.length ≤ 12) (ho : EOk g x S) (hkx : k ≤ x.length) (hn1 : n1 = x.length + 1) (hz : z ∈ S k) (r0 : Rule) (hr0 : g.rules[z.1]? = some r0) (hdot : z.2.1 = r0.r.length) :
    Calls Try.prog 122 #[.pointer (some ⟨bc, 0, none⟩), .int .i64 k, itemV z] w fun e w' => e = .returned (.tuple #[]) ∧ EEnd D w w' lo bc g x A c B d n1 sb sc ib ic r (compE g k z S) := by
  obtain ⟨hz1, hz2⟩ := List.getElem?_eq_some_iff.1 hr0
  have hz3 : z.2.2 < n1 := by
    obtain ⟨r', h1, h2, h3⟩ := ho.ok k z hz
    have := drv_le h3
    omega
  have hleft : leftOf g z = r0.l := by unfold leftOf; rw [hr0]; rfl
  have hlenS := ho.len hv hx z.2.2
  have hm : ∀ q, EOk g x (compTo g k r0.l (S z.2.2) S q) := fun q => by
    obtain ⟨r', h1, h2, h3⟩ := ho.ok k z hz
    rw [hr0] at h1
    injection h1 with h1
    subst h1
    rw [hdot, List.take_length] at h3
    exact compTo_ok ho (fun y hy => ho.ok _ y hy) (.non (List.mem_of_getElem? hr0) rfl h3 (.nil _ (drv_le h3).2)) q
  unfold compE
  rw [hleft]
  unfold maxE at hlenS
  obtain ⟨z1, z2, z3⟩ := z
  simp only at hz1 hz2 hz3 hdot hlenS hm hr0 hleft ⊢
  have HM := Lib.hid hm
  have HO := Lib.hid ho
  clear hm hleft ho hr0
  subst hdot
  have hb1 := below1 w (.cells #[.int .i64 z1, .int .i64 r0.r.length, .int .i64 z3] 63)
  have H1 := H.below hb1
  have hbx := heap_alloc_new w (.cells #[.int .i64 z1, .int .i64 r0.r.length, .int .i64 z3] 63)
  have x0 := blk_cell hbx (i := 0) rfl
  have x2 := blk_cell hbx (i := 2) rfl
  have c3 := blk_cell H1.blk (i := 3) rfl
  have c5 := blk_cell H1.blk (i := 5) rfl
  have cs := H1.setCell hz3
  have hz3z : (z3 : Int) < (n1 : Int) := by omega
  have hz1z : (z1 : Int) < (g.rules.length : Int) := by omega
  obtain ⟨b, o, rfl, hF, hl, hc1, A', c', hc2, hsy⟩ := H1.rules.ruleAt z1 hz1
  rw [hz2] at hc1 hc2 hsy
  have hown := H1.each z3 hz3
  unfold hdE at hown
  have hlS := Lib.hid hlenS
  have HH := Lib.hid H1
  have HH0 := Lib.hid H
  have HB1 := Lib.hid hb1
  have HKN := Lib.hid (show k < n1 by omega)
  have HV := Lib.hid hv
  have HX := Lib.hid hx
  have HN1 := Lib.hid hn1
  clear hz2 hn1 hx hkx
  clear hlenS H1 H hb1 hv
  unfold itemV
  go_enter Try.func122, Try.ntmps122
  go_wp2_with fail
  go_quiet (fail)
  have HW : EAt D ((w.alloc (.cells #[.int .i64 z1, .int .i64 r0.r.length, .int .i64 z3] 63)).drewN nq) lo bc g x (some ⟨b, o, none⟩) c B d n1 sb sc ib ic h r S := HH.out.below (below_drewN (Below.refl _ _) _)
  have HBW : Below w.heap.size w ((w.alloc (.cells #[.int .i64 z1, .int .i64 r0.r.length, .int .i64 z3] 63)).drewN nq) := below_drewN HB1.out _
  have HXW : ((w.alloc (.cells #[.int .i64 z1, .int .i64 r0.r.length, .int .i64 z3] 63)).drewN nq).heap[w.heap.size]? = some (.cells #[.int .i64 z1, .int .i64 r0.r.length, .int .i64 z3] 63 (0, 0)) := hbx
  clear hown hbx x0 x2 c3 c5 cs HH HB1 hc1 hc2 hsy hl
  generalize ((w.alloc (.cells #[.int .i64 z1, .int .i64 r0.r.length, .int .i64 z3] 63)).drewN nq) = W at *
  have c5 := blk_cell HW.blk (i := 5) rfl
  have cs := HW.setCell hz3
  have x2 := blk_cell HXW (i := 2) rfl
  have hcl := fun W' (hW' : Below W.heap.size W W') => clone_items lo (S z3) (h z3).1 (h z3).2 W' ((HW.below hW').each z3 hz3) (by have := hlS.out; omega)
  have HWH := Lib.hid HW
  clear HW
  go_wp2_with fail
  go_cut [28, 29, 30] (fun s28 s29 s30 w8 => ∃ A8 c8, s28 = .slice A8 (S z3).length c8 ∧ s29 = .int .i64 (S z3).length ∧ s30 = .int .i64 0 ∧ Below W.heap.size W w8 ∧ w8.ownsRow W.heap.size 63 3 (.slice A8 (S z3).length c8) (S z3).length (itemCells (S z3)))
  case first =>
    go_region_law (first | (refine step_call rfl 143 Try.f143 Try.func143 (by kernel_rfl) (by kernel_rfl) [_] _ rfl [.slice (h z3).1 (S z3).length (h z3).2] rfl _ (hcl _ (by first | exact (Below.refl _ _).drew | exact below_drewN (Below.refl _ _) _)) ?_; rintro e8 w8 ⟨A8, c8, rfl, hb8, ho8⟩; refine ⟨_, rfl, ?_⟩))
    all_goals
      go_wp2_with fail
      go_meet
      exact ⟨A8, c8, rfl, rfl, rfl, (Below.refl _ W).drew.trans hb8, ho8⟩
  case rest =>
  obtain ⟨A8, c8, rfl, rfl, rfl, hb8, ho8⟩ := hcut
  have H8 := HWH.out.below hb8
  have HE0 := EEnd.of H8
  have HH8 := Lib.hid H8
  have HDW := Lib.hid HWH.out.top
  have HB8 := Lib.hid (HBW.trans (hb8.mono HBW.size))
  clear hcl x2 cs c5 HXW HBW HWH hb8 H8
  go_wp2_with fail
  go_loopg [30] (S z3).length (fun gk i wr => ∃ q, q ≤ (S z3).length ∧ gk = (S z3).length - q ∧ i = .int .i64 q ∧ EEnd D wc wr lo bc g x (some ⟨b, o, none⟩) c B d n1 sb sc ib ic r (compTo g k r0.l (S z3) S q))
  case atStart => exact ⟨0, by omega, by omega, rfl, HE0⟩
  case round =>
    obtain ⟨q, hq, rfl, rfl, hE⟩ := hrel
    by_cases hlt : q < (S z3).length
    · have hq64 : q ≤ 5000 := by have := hlS.out; omega
      obtain ⟨D2, h2, k1, k2, k3, k4⟩ := hE
      obtain ⟨b8, cap8, e8, _, _⟩ := ho8.form (by omega)
      injection e8 with e8 _ e8c
      subst e8
      subst e8c
      have hor := own_same (w' := wr) ho8 fun a ha => k1.block a (own_lt ho8 a ha) fun hd => by
        have h1 := HDW.out _ hd
        obtain ⟨_, _, h2⟩ := own_typed ho8 a ha
        omega
      obtain ⟨d0, d1, d2⟩ := row_at hor hlt
      obtain ⟨r', hr', hdl, hdv⟩ := HO.out.ok z3 _ (List.getElem_mem hlt)
      have hqy : (S z3)[q]? = some (S z3)[q] := List.getElem?_eq_getElem hlt
      have HQY := Lib.hid hqy
      clear hqy
      generalize (S z3)[q] = y at d0 d1 d2 hr' hdl hdv HQY
      obtain ⟨y1, y2, y3⟩ := y
      simp only at d0 d1 d2 hr' hdl hdv
      obtain ⟨hy1, hy2⟩ := List.getElem?_eq_some_iff.1 hr'
      obtain ⟨b', o', e5, hF5, hl5, hc11, A5, c5, hc12, hsy5⟩ := k2.rules.ruleAt y1 hy1
      injection e5 with e5
      injection e5 with e5 e6
      subst e5
      subst e6
      rw [hy2] at hc11 hc12 hsy5
      have hlr := (HV.out.ok r' (List.mem_of_getElem? hr')).len
      have HR' := Lib.hid hr'
      have c3 := blk_cell k2.blk (i := 3) rfl
      have hlb := blk_lt k2.blk
      have hadd := fun (W' : World) (hW' : Below wr.heap.size wr W') => add_any k (y1, y2 + 1, y3) W' (k2.below hW') HKN.out (by have := (HM.out q).len HV.out HX.out k; unfold maxE at this; omega)
      unfold itemV at hadd
      simp only [Int.natCast_add, Int.natCast_one] at hadd
      have HADD := Lib.hid hadd
      have hy1z : (y1 : Int) < (g.rules.length : Int) := by omega
      have hqz : (q : Int) < ((S z3).length : Int) := by omega
      have HSTEP : ∀ (wE : World) (S' : ESets), EEnd D2 wr wE lo bc g x (some ⟨b, o, none⟩) c B d n1 sb sc ib ic r S' → EEnd D wc wE lo bc g x (some ⟨b, o, none⟩) c B d n1 sb sc ib ic r S' := fun wE S' hE => EEnd.after k1 k3 k4 hE
      have HK2 := Lib.hid k2
      clear hr' hdv ho8 hor hadd k1 k2 k3 k4 hy2 hF5
      by_cases hdot : y2 < r'.r.length
      · obtain ⟨b6, o6, rfl, hF6, hl6, hc13, hc14⟩ := hsy5.symAt y2 hdot
        have hez : (y2 : Int) < (r'.r.length : Int) := by omega
        have hsome := List.getElem?_eq_getElem hdot
        generalize r'.r[y2] = ye at hc13 hc14 hsome
        have HSM := Lib.hid hsome
        clear hsome
        have hnoS : ye ≠ ⟨false, r0.l⟩ → compTo g k r0.l (S z3) S (q + 1) = compTo g k r0.l (S z3) S q := fun hw => by
          show (match (S z3)[q]? with | some y => _ | none => _) = _
          rw [HQY.out]
          exact if_neg (by simp [waits, HR'.out, HSM.out, hw])
        have hyesS : ye = ⟨false, r0.l⟩ → compTo g k r0.l (S z3) S (q + 1) = addE (compTo g k r0.l (S z3) S q) k (y1, y2 + 1, y3) := fun hw => by
          show (match (S z3)[q]? with | some y => _ | none => _) = _
          rw [HQY.out]
          exact if_pos (by simp only [waits, HR'.out, HSM.out, hw, decide_true])
        clear HSM
        have he4b : y2 ≤ 4 := by omega
        obtain ⟨yt, yn⟩ := ye
        cases yt
        · by_cases hyn : yn = r0.l
          · have hyn' : (yn == r0.l) = true := by simp [hyn]
            have HCS := Lib.hid (hyesS (by rw [hyn]))
            clear hyesS hnoS hyn
            go_wp2_with fail
            go_region
            go_wp2_with fail
            refine (HADD.out _ (below2 _ _ _).drew).mono ?_
            rintro e9 w9 ⟨rfl, hE9⟩
            go_wp2
            go_roundg ((S z3).length - (q + 1))
            case measure => omega
            case rel => exact ⟨q + 1, by omega, rfl, by go_num, by rw [HCS.out]; exact HSTEP _ _ (EEnd.pre (below2 _ _ _).drew hE9)⟩
          · have hyn' : (yn == r0.l) = false := by simp [hyn]
            have HNO := Lib.hid (hnoS (fun e => by injection e with _ e; exact hyn e))
            clear hyesS hnoS
            go_wp2_with fail
            go_region
            go_wp2
            go_roundg ((S z3).length - (q + 1))
            case measure => omega
            case rel => exact ⟨q + 1, by omega, rfl, by go_num, by rw [HNO.out]; exact HSTEP _ _ (EEnd.below (EEnd.of HK2.out) (below2 _ _ _).drew)⟩
        · have HNO := Lib.hid (hnoS (fun e => by injection e with e; cases e))
          clear hyesS hnoS
          go_wp2_with fail
          go_region
          go_wp2
          go_roundg ((S z3).length - (q + 1))
          case measure => omega
          case rel => exact ⟨q + 1, by omega, rfl, by go_num, by rw [HNO.out]; exact HSTEP _ _ (EEnd.below (EEnd.of HK2.out) (below2 _ _ _).drew)⟩
      · have hed : decide ((y2 : Int) < (r'.r.length : Int)) = false := by simp; omega
        have hno : compTo g k r0.l (S z3) S (q + 1) = compTo g k r0.l (S z3) S q := by
          show (match (S z3)[q]? with | some y => _ | none => _) = _
          rw [HQY.out]
          exact if_neg (by simp only [waits, HR'.out, List.getElem?_eq_none (Nat.le_of_not_lt hdot)]; simp)
        have HNO := Lib.hid hno
        clear hno
        go_wp2_with fail
        go_region
        go_wp2
        go_roundg ((S z3).length - (q + 1))
        case measure => omega
        case rel => exact ⟨q + 1, by omega, rfl, by go_num, by rw [HNO.out]; exact HSTEP _ _ (EEnd.below (EEnd.of HK2.out) (below2 _ _ _).drew)⟩
    · obtain rfl : q = (S z3).length := by omega
      go_wp2
      refine bodyPost_end (v := .tuple #[]) (by kernel_rfl) rfl ⟨rfl, EEnd.pre HB8.out hE⟩
end
end Go.Proofs.Ytcndbohiiodndaa

open Go Go.RowKit
open Go.ChangeMaps (setBlock)
namespace Go.Proofs.Ytcndbohiiodndaa
section
variable {D : Nat → Prop} {lo bc : Nat} {g : Gram} {x : List Int} {A : Option Addr} {c : Nat} {B : Option Addr} {d n1 sb sc ib ic : Nat} {h : EHead} {r : Nat → Nat} {S : ESets}

set_option maxRecDepth 100000 in
set_option maxHeartbeats 4000000 in
theorem predict_any (k : Nat) (n : Int) (z : EItem) (w : World) (H : EAt D w lo bc g x A c B d n1 sb sc ib ic h r S) (hv : Valid g) (hx : x.length ≤ 12) (ho : EOk g x S) (hkx : k ≤ x.length) (hn1 : n1 = x.length + 1) (hz : z ∈ S k) :
    Calls Try.prog 123 #[.pointer (some ⟨bc, 0, none⟩), .int .i64 k, .int .i64 n, itemV z] w fun e w' => e = .returned (.tuple #[]) ∧ EEnd D w w' lo bc g x A c B d n1 sb sc ib ic r (predE g k n z S) := by
  have hz4 : z.2.1 ≤ 4 := by have := okz_small hv hx (ho.ok k z hz); omega
  have hm : ∀ q, EOk g x (predTo g k n S q) := fun q => predTo_ok ho hkx q
  have HM := Lib.hid hm
  have HO := Lib.hid ho
  obtain ⟨z1, z2, z3⟩ := z
  simp only at hz4 ⊢
  have H32 := hv.len
  have HV := Lib.hid hv
  have HX := Lib.hid hx
  have HKN := Lib.hid (show k < n1 by omega)
  have HZ := Lib.hid hz
  clear hm ho hz hv hx hn1 hkx
  have hb1 := below1 w (.cells #[.int .i64 z1, .int .i64 z2, .int .i64 z3] 63)
  have H1 := H.below hb1
  have hbx := heap_alloc_new w (.cells #[.int .i64 z1, .int .i64 z2, .int .i64 z3] 63)
  have hsz1 : (w.alloc (.cells #[.int .i64 z1, .int .i64 z2, .int .i64 z3] 63)).heap.size = w.heap.size + 1 := World.size_alloc _ _
  have HTOP := Lib.hid H.top
  have HB1 := Lib.hid hb1
  have HSZ1 := Lib.hid hsz1
  have c3 := blk_cell H1.blk (i := 3) rfl
  have HE0 := EEnd.of H1
  clear hb1 H hsz1
  have HH1 := Lib.hid H1
  clear H1
  unfold itemV
  go_enter Try.func123, Try.ntmps123
  go_wp2_with fail
  generalize (w.alloc (.cells #[.int .i64 z1, .int .i64 z2, .int .i64 z3] 63)) = W at *
  clear c3
  go_loopg [18] g.rules.length (fun gk i wr => ∃ q, q ≤ g.rules.length ∧ gk = g.rules.length - q ∧ i = .int .i64 q ∧ EEnd D W wr lo bc g x A c B d n1 sb sc ib ic r (predTo g k n S q))
  case atStart => exact ⟨0, by omega, by omega, rfl, HE0⟩
  case round =>
    clear HE0
    obtain ⟨q, hq, rfl, rfl, hE⟩ := hrel
    obtain ⟨D2, h2, k1, k2, k3, k4⟩ := hE
    have hxr := (k1.block w.heap.size (by have := HSZ1.out; omega) (fun hd => by have := HTOP.out _ hd; omega)).trans hbx
    by_cases hlt : q < g.rules.length
    · have hq64 : q ≤ 5000 := by omega
      obtain ⟨b, o, e5, hF5, hl5, hc11, A5, c5, hc12, hsy5⟩ := k2.rules.ruleAt q hlt
      subst e5
      have hqz : (q : Int) < (g.rules.length : Int) := by omega
      have hlb := blk_lt k2.blk
      have hadd : ∀ (W' : World) (hW' : Below wr.heap.size wr W'), Calls Try.prog 121 #[.pointer (some ⟨bc, 0, none⟩), .int .i64 k, .agg #[.int .i64 q, .int .i64 0, .int .i64 k]] W' fun e w' => e = .returned (.tuple #[]) ∧ EEnd D2 W' w' lo bc g x (some ⟨b, o, none⟩) c B d n1 sb sc ib ic r (addE (predTo g k n S q) k (q, 0, k)) := fun W' hW' => add_any k (q, 0, k) W' (k2.below hW') HKN.out (by have := (HM.out q).len HV.out HX.out k; unfold maxE at this; omega)
      have HADD := Lib.hid hadd
      have HSTEP : ∀ (wE : World) (S' : ESets), EEnd D2 wr wE lo bc g x (some ⟨b, o, none⟩) c B d n1 sb sc ib ic r S' → EEnd D W wE lo bc g x (some ⟨b, o, none⟩) c B d n1 sb sc ib ic r S' := fun wE S' hE => EEnd.after k1 k3 k4 hE
      have HK2 := Lib.hid k2
      have hstep : predTo g k n S (q + 1) = if g.rules[q].l = n then addE (predTo g k n S q) k (q, 0, k) else predTo g k n S q := by
        show (if (g.rules[q]?.map (·.l)) = some n then _ else _) = _
        rw [List.getElem?_eq_getElem hlt]
        simp only [Option.map_some, Option.some.injEq]
      clear hadd k1 k2 k3 k4 hF5 hsy5
      generalize g.rules[q] = rq at hc11 hc12 hstep
      by_cases hln : rq.l = n
      · rw [if_pos hln] at hstep
        have hln' : (rq.l == n) = true := by simp [hln]
        have HST := Lib.hid hstep
        clear hstep hln
        go_wp2_with fail
        refine (HADD.out _ (below1 _ _)).mono ?_
        rintro e9 w9 ⟨rfl, hE9⟩
        go_wp2
        go_roundg (g.rules.length - (q + 1))
        case measure => omega
        case rel => exact ⟨q + 1, by omega, rfl, by go_num, by rw [HST.out]; exact HSTEP _ _ (EEnd.pre (below1 _ _) hE9)⟩
      · rw [if_neg hln] at hstep
        have hln' : (rq.l == n) = false := by simp [hln]
        have HST := Lib.hid hstep
        clear hstep hln
        go_wp2
        go_roundg (g.rules.length - (q + 1))
        case measure => omega
        case rel => exact ⟨q + 1, by omega, rfl, by go_num, by rw [HST.out]; exact HSTEP _ _ (EEnd.below (EEnd.of HK2.out) (below1 _ _))⟩
    · obtain rfl : q = g.rules.length := by omega
      have hqz : ((g.rules.length : Nat) : Int) < (g.rules.length : Int) → False := by omega
      have hmT := HM.out g.rules.length
      have hpred : predE g k n (z1, z2, z3) S = if ((predTo g k n S g.rules.length) k).any (doneAt g k n) = true then addE (predTo g k n S g.rules.length) k (z1, z2 + 1, z3) else predTo g k n S g.rules.length := rfl
      have HPRED := Lib.hid hpred
      clear hpred
      generalize predTo g k n S g.rules.length = T at k2 hmT HPRED
      have HSTEP : ∀ (wE : World) (S' : ESets), EEnd D2 wr wE lo bc g x A c B d n1 sb sc ib ic r S' → EEnd D w wE lo bc g x A c B d n1 sb sc ib ic r S' := fun wE S' hE => EEnd.pre HB1.out (EEnd.after k1 k3 k4 hE)
      have c3 := blk_cell k2.blk (i := 3) rfl
      have c6 := blk_cell k2.blk (i := 6) rfl
      have cm := k2.mapCell HKN.out
      have hkz : (k : Int) < (n1 : Int) := by have := HKN.out; omega
      obtain ⟨lm, hmap, htr, hke⟩ := k2.maps k HKN.out
      have hlb := blk_lt k2.blk
      have HK2 := Lib.hid k2
      have HMT := Lib.hid hmT
      clear k1 k2 k3 k4 hmT
      obtain ⟨wo, rfl⟩ : ∃ wo : World, wo = wr := ⟨_, rfl⟩
      obtain ⟨o2, hrun0, hit⟩ := run_rangeM (P := Try.prog) (w := wo) Try.underlying206 hmap
      have hrun : (Instr.range 206 (.map (some (r k)))).run Try.prog wo = .ok (.pointer (some ⟨wo.heap.size, 0, none⟩)) (wo.alloc o2) := hrun0
      go_wp2_with fail
      clear hrun hrun0 c3 c6 cm
      have hbit : Below wo.heap.size wo (wo.alloc o2) := (Below.refl _ _).alloc (Nat.le_refl _) _
      go_loopg [] 2080 (fun gk wr => ∃ (done : List Item), gk = 2080 - done.length ∧ Below wo.heap.size wo wr ∧ Iter itemV Value.bool wr wo.heap.size (r k) lm (lm.map (·.1)) done ∧ ∀ y ∈ done, doneAt g k n y = false)
      case atStart => exact ⟨[], rfl, hbit, hit, fun y hy => by cases hy⟩
      case round =>
        clear hbit hit
        obtain ⟨done, rfl, hb, hit, hdn⟩ := hrel
        have hbs : wo.heap.size < wr.heap.size := hit.lt.2
        rcases hit.next (P := Try.prog) itemV_inj 0 with ⟨nn, hdone, hnx⟩ | ⟨nn, y, yv, o3, hyk, hyd, hym, hnx, hit2, hent⟩
        · have hfin : EEnd D2 wo (wr.drewN nn) lo bc g x A c B d n1 sb sc ib ic r T := EEnd.below (EEnd.of HK2.out) (below_drewN hb _)
          have hres : predE g k n (z1, z2, z3) S = T := by
            rw [HPRED.out]
            refine if_neg fun ha => ?_
            rw [List.any_eq_true] at ha
            obtain ⟨y, h1, h2⟩ := ha
            rw [hdn y (hdone y ((hke y).2 h1))] at h2
            cases h2
          have HRES := Lib.hid hres
          clear hres
          go_wp2
          refine bodyPost_end (v := .tuple #[]) (by kernel_rfl) rfl ⟨rfl, ?_⟩
          rw [HRES.out]
          exact HSTEP _ _ hfin
        · obtain ⟨m, e, h'⟩ := y
          obtain ⟨r', hr', he4, hdv⟩ := HMT.out.ok k _ ((hke _).1 hyk)
          simp only at hr' he4 hdv
          obtain ⟨hm1, hm2⟩ := List.getElem?_eq_some_iff.1 hr'
          have hnd : done.length + 1 ≤ 2080 := by
            have h1 := nodup_len (l := (m, e, h') :: done) (by
              obtain ⟨es, clock, since, seen, last, _, _, _, _, _, _, _, hnd, hsub⟩ := hit2
              exact hnd) (fun y hy => by
              obtain ⟨es, clock, since, seen, last, _, _, _, _, _, _, _, hnd, hsub⟩ := hit2
              exact okz_small HV.out HX.out (HMT.out.ok k y ((hke y).1 (hsub y hy))))
            simpa [maxE] using h1
          have hda : doneAt g k n (m, e, h') = (decide (h' = k) && (decide (e = r'.r.length) && decide (r'.l = n))) := by
            simp only [doneAt, hr']
          have hbW : Below wo.heap.size wo (setBlock (wr.drewN nn) wo.heap.size o3) := below_setBlock (below_drewN hb _) (Nat.le_refl _) _
          have hsW : (setBlock (wr.drewN nn) wo.heap.size o3).heap.size = wr.heap.size := setBlock_size _ _ _
          generalize setBlock (wr.drewN nn) wo.heap.size o3 = W1 at hnx hit2 hent hbW hsW
          clear hb hit
          have hbs1 : wo.heap.size ≤ W1.heap.size := by omega
          have HS1 := Lib.hid hsW
          clear hsW hbs
          obtain ⟨b5, o5, rfl, hF5, hl5, hc11, A5, c5, hc12, hsy5⟩ := (HK2.out.below hbW).rules.ruleAt m hm1
          rw [hm2] at hc11 hc12 hsy5
          have hlr := (HV.out.ok r' (List.mem_of_getElem? hr')).len
          have c3 := blk_cell (HK2.out.below hbW).blk (i := 3) rfl
          have hlb1 := blk_lt (HK2.out.below hbW).blk
          have hx1 := blk_below hbW (blk_lt hxr) hxr
          have hxl1 := blk_lt hx1
          have x0 := blk_cell hx1 (i := 0) rfl
          have x1 := blk_cell hx1 (i := 1) rfl
          have x2 := blk_cell hx1 (i := 2) rfl
          have hmz : (m : Int) < (g.rules.length : Int) := by omega
          have hadd := fun (W' : World) (hW' : Below W1.heap.size W1 W') => add_any k (z1, z2 + 1, z3) W' ((HK2.out.below hbW).below hW') HKN.out (by have := HMT.out.len HV.out HX.out k; unfold maxE at this; omega)
          unfold itemV at hadd hnx hent
          simp only [Int.natCast_add, Int.natCast_one] at hadd
          have HADD := Lib.hid hadd
          have HYK := Lib.hid ((hke _).1 hyk)
          clear hadd hr' hm2 hdv hF5 hsy5 hyk hyd hym
          by_cases q1 : h' = k
          · have q1' : ((h' : Int) == (k : Int)) = true := by simp [q1]
            by_cases q2 : e = r'.r.length
            · have q2' : ((e : Int) == (r'.r.length : Int)) = true := by simp [q2]
              by_cases q3 : r'.l = n
              · have q3' : (r'.l == n) = true := by simp [q3]
                have hres : predE g k n (z1, z2, z3) S = addE T k (z1, z2 + 1, z3) := by
                  rw [HPRED.out]
                  exact if_pos (List.any_eq_true.2 ⟨_, HYK.out, by rw [hda]; simp [q1, q2, q3]⟩)
                have HRES := Lib.hid hres
                clear hres q1 q2 q3 hda
                go_wp2_with fail
                go_region
                go_wp2_with fail
                refine (HADD.out _ (below2 _ _ _).drew).mono ?_
                rintro e9 w9 ⟨rfl, hE9⟩
                go_wp2
                refine bodyPost_ret (v := .tuple #[]) (by kernel_rfl) rfl ⟨rfl, ?_⟩
                rw [HRES.out]
                exact HSTEP _ _ (EEnd.pre hbW (EEnd.pre (below2 _ _ _).drew hE9))
              · have q3' : (r'.l == n) = false := by simp [q3]
                have HNO := Lib.hid (show doneAt g k n (m, e, h') = false by rw [hda]; simp [q3])
                clear hda q1 q2 q3
                go_wp2_with fail
                go_region
                go_wp2_with fail
                go_wp2
                go_roundg (2080 - (done.length + 1))
                case measure => omega
                case rel => exact ⟨(m, e, h') :: done, rfl, (hbW.alloc hbs1 _).alloc (by simp; omega) _ |>.drew, hit2.below (below2 _ _ _).drew, fun y hy => by
                  rcases List.mem_cons.1 hy with rfl | hy
                  · exact HNO.out
                  · exact hdn y hy⟩
            · have q2' : ((e : Int) == (r'.r.length : Int)) = false := by simp; omega
              have HNO := Lib.hid (show doneAt g k n (m, e, h') = false by rw [hda]; simp [q2])
              clear hda q1 q2
              go_wp2_with fail
              go_region
              go_wp2_with fail
              go_wp2
              go_roundg (2080 - (done.length + 1))
              case measure => omega
              case rel => exact ⟨(m, e, h') :: done, rfl, (hbW.alloc hbs1 _).alloc (by simp; omega) _ |>.drew, hit2.below (below2 _ _ _).drew, fun y hy => by
                rcases List.mem_cons.1 hy with rfl | hy
                · exact HNO.out
                · exact hdn y hy⟩
          · have q1' : ((h' : Int) == (k : Int)) = false := by simp; omega
            have HNO := Lib.hid (show doneAt g k n (m, e, h') = false by rw [hda]; simp [q1])
            clear hda q1
            go_wp2_with fail
            go_region
            go_wp2_with fail
            go_wp2
            go_roundg (2080 - (done.length + 1))
            case measure => omega
            case rel => exact ⟨(m, e, h') :: done, rfl, (hbW.alloc hbs1 _).alloc (by simp; omega) _ |>.drew, hit2.below (below2 _ _ _).drew, fun y hy => by
              rcases List.mem_cons.1 hy with rfl | hy
              · exact HNO.out
              · exact hdn y hy⟩
end
end Go.Proofs.Ytcndbohiiodndaa

open Go Go.RowKit
open Go.ChangeMaps (setBlock)
namespace Go.Proofs.Ytcndbohiiodndaa

/-- the chart while its sets are laid out -/
structure FSt (g : Gram) (x : List Int) (w wr : World) (bc : Nat) (A : Option Addr) (c : Nat) (B : Option Addr) (d q : Nat) (sv iv : Value) (rs : List Nat) : Prop where
  away : Away w.heap.size (fun b => b = bc) w wr
  blk : wr.heap[bc]? = some (.cells #[.int .i64 g.terms, .int .i64 g.nons, .int .i64 g.start, .slice A g.rules.length c, .slice B x.length d, sv, iv] 146 (0, 0))
  sets : wr.ownsRow w.heap.size 56 1 sv q (List.replicate q (.slice none 0 0))
  ins : wr.ownsRow w.heap.size 206 1 iv q (rs.map fun r => .map (some r))
  len : rs.length = q
  maps : ∀ r ∈ rs, wr.heap[r]? = some (.map #[] 0)
  nd : rs.Nodup
  low : ∀ r ∈ rs, w.heap.size ≤ r

theorem fil_i1 {wx W1 w1 : World} {base n m : Nat} {av bv : Value} {xs ys : List Value} (hB : ∀ W, Below wx.heap.size wx W → W.ownsRow base 206 1 bv n xs) (hA : W1.ownsRow base 56 1 av m ys) (hb : Below wx.heap.size wx W1) (hg : W1.grownBy w1 av.ownBlock) :
    ∀ W, Below w1.heap.size w1 W → W.ownsRow base 206 1 bv n xs := fun W hW =>
  have h := own_other (hB _ hb) hA (by decide) hg
  own_same h fun k hk => hW.block k (own_lt h k hk)
theorem belo_of {w0 W1 w1 : World} {r : Option Nat} (_ : W1.grownBy w1 r) (h : Below w0.heap.size w0 W1) : Below w0.heap.size w0 W1 := h

theorem FSt.step {g : Gram} {x : List Int} {w wo : World} {bc : Nat} {A : Option Addr} {c : Nat} {B : Option Addr} {d q : Nat} {sv iv sv' iv' : Value} {rs : List Nat} {W1 w1 W2 w2 : World} {lf : Nat} (h : FSt g x w wo bc A c B d q sv iv rs) (hbc : bc < w.heap.size)
    (hb1 : Below wo.heap.size wo W1) (hg1 : W1.grownBy w1 sv.ownBlock) (hown1 : w1.ownsRow w.heap.size 56 1 sv' (q + 1) (List.replicate q (.slice none 0 0) ++ [.slice none 0 0]))
    (hb2 : Below w1.heap.size w1 W2) (hg2 : W2.grownBy w2 iv.ownBlock) (hown2 : w2.ownsRow w.heap.size 206 1 iv' (q + 1) ((rs.map fun r => Value.map (some r)) ++ [.map (some lf)]))
    (hlf : wo.heap.size ≤ lf) (hlfb : W1.heap[lf]? = some (.map #[] 0) ∨ (w1.heap.size ≤ lf ∧ W2.heap[lf]? = some (.map #[] 0))) :
    FSt g x w ((w2.setCell ⟨bc, 5, none⟩ sv').setCell ⟨bc, 6, none⟩ iv') bc A c B d (q + 1) sv' iv' (rs ++ [lf]) := by
  have s0 := h.away.size
  have s1 := hb1.size
  have s2 := hg1.size
  have s3 := hb2.size
  have s4 := hg2.size
  have hlsv := fun b hb => own_lt h.sets b hb
  have hliv := fun b hb => own_lt h.ins b hb
  have hbsv := fun b hb => own_base' h.sets b hb
  have hbiv := fun b hb => own_base' h.ins b hb
  -- blocks of wo that are neither row
  have hk : ∀ b, b < wo.heap.size → sv.ownBlock ≠ some b → iv.ownBlock ≠ some b → w2.heap[b]? = wo.heap[b]? := fun b hb h1 h2 => by
    rw [hg2.block b (by omega) fun e => h2 e.symm, hb2.block b (by omega), hg1.block b (by omega) fun e => h1 e.symm, hb1.block b hb]
  have hown1W : W2.ownsRow w.heap.size 56 1 sv' (q + 1) (List.replicate q (.slice none 0 0) ++ [.slice none 0 0]) := own_same hown1 fun b hb => hb2.block b (own_lt hown1 b hb)
  have hinsW1 : W1.ownsRow w.heap.size 206 1 iv q (rs.map fun r => .map (some r)) := own_same h.ins fun b hb => hb1.block b (hliv b hb)
  have hsetsW1 : W1.ownsRow w.heap.size 56 1 sv q (List.replicate q (.slice none 0 0)) := own_same h.sets fun b hb => hb1.block b (hlsv b hb)
  have hins1 := own_other hinsW1 hsetsW1 (by decide) hg1
  have hinsW2 : W2.ownsRow w.heap.size 206 1 iv q (rs.map fun r => .map (some r)) := own_same hins1 fun b hb => hb2.block b (own_lt hins1 b hb)
  have hown1' := own_other hown1W hinsW2 (by decide) hg2
  have hmapNe : ∀ {b : Nat} {u : World} {e : TypeId} {n : Nat} {v : Value} {xs : List Value}, u.heap[b]? = some (.map #[] 0) → u.ownsRow w.heap.size e 1 v n xs → v.ownBlock ≠ some b := fun hm ho e => by
    obtain ⟨cs, h1, _⟩ := own_typed ho _ e
    rw [hm] at h1; cases h1
  have hold : ∀ r ∈ rs, w2.heap[r]? = some (.map #[] 0) := fun r hr => (hk r (blk_lt (h.maps r hr)) (hmapNe (h.maps r hr) h.sets) (hmapNe (h.maps r hr) h.ins)).trans (h.maps r hr)
  have hnew : w2.heap[lf]? = some (.map #[] 0) := by
    have hW2 : W2.heap[lf]? = some (.map #[] 0) := by
      rcases hlfb with h1 | h1
      · have := blk_lt h1
        exact (hb2.block lf (by omega)).trans ((hg1.block lf this fun e => hmapNe h1 hsetsW1 e.symm).trans h1)
      · exact h1.2
    exact (hg2.block lf (blk_lt hW2) fun e => hmapNe hW2 hinsW2 e.symm).trans hW2
  have hbo := blk_lt h.blk
  have hbc2 : w2.heap[bc]? = _ := (hk bc hbo (fun e => by have := hbsv _ e; omega) (fun e => by have := hbiv _ e; omega)).trans h.blk
  have hkeep : ∀ b, b ≠ bc → ((w2.setCell ⟨bc, 5, none⟩ sv').setCell ⟨bc, 6, none⟩ iv').heap[b]? = w2.heap[b]? := fun b hb => by rw [heap_set_ne hb, heap_set_ne hb]
  refine ⟨⟨?_, ?_, ?_, ?_, fun b hb hne => ?_⟩, ?_, ?_, ?_, by simp [h.len], ?_, ?_, ?_⟩
  · exact hg2.os.trans (hb2.os.trans (hg1.os.trans (hb1.os.trans h.away.os)))
  · exact hg2.tape.trans (hb2.tape.trans (hg1.tape.trans (hb1.tape.trans h.away.tape)))
  · exact hg2.output.trans (hb2.output.trans (hg1.output.trans (hb1.output.trans h.away.output)))
  · rw [size_setCell, size_setCell]; omega
  · rw [hkeep b hne, hk b (by omega) (fun e => by have := hbsv _ e; omega) (fun e => by have := hbiv _ e; omega)]
    exact h.away.block b hb hne
  · rw [heap_set (heap_set hbc2 _ _)]; rfl
  · rw [List.replicate_succ']
    exact own_same hown1' fun b hb => hkeep b (by have := own_base' hown1' b hb; omega)
  · rw [List.map_append]
    exact own_same hown2 fun b hb => hkeep b (by have := own_base' hown2 b hb; omega)
  · intro r hr
    rcases List.mem_append.1 hr with hr | hr
    · rw [hkeep r (by have := h.low r hr; omega)]; exact hold r hr
    · simp at hr; subst hr
      rw [hkeep r (by omega)]; exact hnew
  · rw [List.nodup_append]
    refine ⟨h.nd, by simp, fun a ha b hb e => ?_⟩
    simp at hb
    have := blk_lt (h.maps a ha)
    omega
  · intro r hr
    rcases List.mem_append.1 hr with hr | hr
    · exact h.low r hr
    · simp at hr; subst hr; omega

/-- the chart is laid out -/
theorem FSt.chart {g : Gram} {x : List Int} {w wo : World} {bc : Nat} {A : Option Addr} {c : Nat} {B : Option Addr} {d n1 : Nat} {sv iv : Value} {rs : List Nat} (h : FSt g x w wo bc A c B d n1 sv iv rs) (hbc : bc < w.heap.size) (hn1 : 0 < n1)
    (hr : IsSl Elt.rule (fun b => b < bc) w (.slice A g.rules.length c) g.rules) (hx : IsSl Elt.int (fun b => b < bc) w (.slice B x.length d) x) :
    ∃ sb sc ib ic, sv = .slice (some ⟨sb, 0, none⟩) n1 sc ∧ iv = .slice (some ⟨ib, 0, none⟩) n1 ic ∧
      EAt (fun b => b = sb ∨ b = ib ∨ b ∈ rs) wo w.heap.size bc g x A c B d n1 sb sc ib ic (fun _ => (none, 0)) (fun k => rs.getD k 0) (fun _ => []) := by
  obtain ⟨sb, sc, rfl, _, _⟩ := h.sets.form hn1
  obtain ⟨ib, ic, rfl, _, _⟩ := h.ins.form hn1
  have hget : ∀ k, k < n1 → rs.getD k 0 ∈ rs := fun k hk => by
    have := h.len
    rw [List.getD_eq_getElem?_getD, List.getElem?_eq_getElem (by omega)]
    exact List.getElem_mem _
  have hkF : ∀ b, b < bc → wo.heap[b]? = w.heap[b]? := fun b hb => h.away.block b (by omega) (by omega)
  refine ⟨sb, sc, ib, ic, rfl, rfl, h.blk, hbc, (hr.keep hkF h.away.size).weak fun b hb => (by omega), (hx.keep hkF h.away.size).weak fun b hb => (by omega), ?_, ?_, fun k _ => World.ownsRow_nil _ _ _ _, fun k j _ _ _ b hb => (by cases hb), fun k hk => ?_, fun k j hk hj e => ?_, ⟨.inl rfl, .inr (.inl rfl), fun k hk => .inr (.inr (hget k hk)), fun k _ b hb => (by cases hb)⟩, fun b hb => ?_, fun b hb => ?_, h.away.size⟩
  · have e : (List.range n1).map (hdE (fun _ => (none, 0)) (fun _ => [])) = List.replicate n1 (.slice none 0 0) := by
      rw [List.eq_replicate_iff]
      refine ⟨by simp, fun b hb => ?_⟩
      obtain ⟨k, _, rfl⟩ := List.mem_map.1 hb
      rfl
    rw [e]
    exact h.sets
  · have e : (List.range n1).map (fun k => Value.map (some (rs.getD k 0))) = rs.map fun r => .map (some r) := by
      apply List.ext_getElem
      · simp [h.len]
      · intro i h1 h2
        simp at h1 h2 ⊢
        rw [List.getElem?_eq_getElem h2]; rfl
    rw [e]
    exact h.ins
  · refine ⟨[], ⟨#[], 0, h.maps _ (hget k hk), ?_⟩, by simp, by simp⟩
    have := IsMap.new itemV Value.bool wo
    obtain ⟨es, cl, h1, h2⟩ := this
    rw [heap_alloc_new] at h1
    injection h1 with h1
    injection h1 with h3 h4
    subst h3
    subst h4
    exact h2
  · have hl := h.len
    have h1 := h.nd
    rw [List.getD_eq_getElem?_getD, List.getD_eq_getElem?_getD, List.getElem?_eq_getElem (by omega), List.getElem?_eq_getElem (by omega)] at e
    simp only [Option.getD_some] at e
    rw [List.Nodup, List.pairwise_iff_getElem] at h1
    rcases Nat.lt_trichotomy k j with h2 | h2 | h2
    · exact absurd e (h1 k j (by omega) (by omega) h2)
    · exact h2
    · exact absurd e.symm (h1 j k (by omega) (by omega) h2)
  · rcases hb with rfl | rfl | hb
    · exact own_base' h.sets _ rfl
    · exact own_base' h.ins _ rfl
    · exact h.low b hb
  · rcases hb with rfl | rfl | hb
    · exact own_lt h.sets _ rfl
    · exact own_lt h.ins _ rfl
    · exact blk_lt (h.maps b hb)
end Go.Proofs.Ytcndbohiiodndaa

open Go Go.RowKit
namespace Go.Proofs.Ytcndbohiiodndaa

/-! ### loads of a region that draws its order, where a later operation of the same region writes what they read
The loads are taken first; what they read must hold behind each operation until one that waitsD for them (dep) has come up. -/
section
variable {P : Program} {ops : Array Oper} {Q : Exit → Act → World → Prop} {md : Region.Mode} {S : World → Prop} {dep : Nat}

def Until (S : World → Prop) (dep : Nat) (listed : Array Bool) (w : World) : Prop := listed.getD dep true = false → S w

def wpAnyD (P : Program) (md : Region.Mode) (ops : Array Oper) (Q : Exit → Act → World → Prop) (S : World → Prop) (dep : Nat) : Nat → Array Bool → Act → World → Prop
  | 0, l, a, w => Region.ready md ops l = [] ∧ Q .normal a w
  | n + 1, l, a, w => (Region.ready md ops l = [] → Q .normal a w) ∧ ∀ j ∈ Region.ready md ops l, wpOp P ops Q j (fun a' w' => Until S dep (l.setIfInBounds j true) w' ∧ wpAnyD P md ops Q S dep n (l.setIfInBounds j true) a' w') a w

theorem wpAny_of_D : ∀ (n : Nat) (l : Array Bool) (a : Act) (w : World), wpAnyD P md ops Q S dep n l a w → wpAny P md ops Q n l a w
  | 0, _, _, _, h => h
  | n + 1, _, _, _, h => ⟨h.1, fun j hj => wpOp_mono (fun a' w' h' => wpAny_of_D n _ a' w' h'.2) (h.2 j hj)⟩

theorem getD_up {l : Array Bool} {j k : Nat} (h : l.getD k true = true) : (l.setIfInBounds j true).getD k true = true := by
  by_cases e : j = k
  · subst e
    by_cases hl : j < l.size
    · simp [hl]
    · simp
  · rw [getD_set_ne true e]; exact h

/-- behind dep nothing more is asked -/
theorem wpAnyD_of : ∀ (n : Nat) (l : Array Bool) (a : Act) (w : World), l.getD dep true = true → wpAny P md ops Q n l a w → wpAnyD P md ops Q S dep n l a w
  | 0, _, _, _, _, h => h
  | n + 1, _, _, _, hd, h => ⟨h.1, fun j hj => wpOp_mono (fun a' w' h' => ⟨fun e => (by rw [getD_up hd] at e; cases e), wpAnyD_of n _ a' w' (getD_up hd) h'⟩) (h.2 j hj)⟩

/-- number m waitsD for number i -/
def waitsFor (md : Region.Mode) (ops : Array Oper) (m i : Nat) : Bool := match ops[m]? with
  | some o => o.after.any fun e => Region.binds md e && e.on == i
  | none => false

theorem waitsD {m i : Nat} (h : waitsFor md ops m i = true) {l : Array Bool} (hi : l.getD i true = false) : m ∉ Region.ready md ops l := fun hm => by
  obtain ⟨_, o, ho, hall⟩ := mem_ready.1 hm
  unfold waitsFor at h
  rw [ho] at h
  simp only at h
  rw [Array.any_eq_true] at h
  obtain ⟨k, hk, h⟩ := h
  rw [Bool.and_eq_true] at h
  have h2 := hall _ (Array.getElem_mem hk) h.1
  rw [eq_of_beq h.2] at h2
  rcases Nat.lt_or_ge i l.size with h' | h'
  · simp [h'] at hi h2; rw [hi] at h2; cases h2
  · simp [Array.getElem?_eq_none h'] at h2

theorem wpAnyD_first {i mid : Nat} {oi : Oper} {v : Value} (hi : ops[i]? = some oi) (hsel : ∀ (j : Nat) (o : Oper) cs b, ops[j]? = some o → o.op ≠ .select cs b)
    (hQ : ∀ c a w, Q (.panic c) (a.put oi.dst v) w → Q (.panic c) a w) (hm : waitsFor md ops mid i = true) (hd : mid = dep ∨ waitsFor md ops dep mid = true) (hid : i ≠ dep) :
    ∀ (n : Nat) (l : Array Bool) (a : Act) (w : World),
      (∀ j oj, ops[j]? = some oj → j ≠ i → l.getD j true = false → (∀ e ∈ oj.after, Region.binds md e = true → e.on ≠ i) → oi.apart ops oj = true) →
      i ∈ Region.ready md ops l → l.getD mid true = false → l.getD dep true = false → YieldsIf P ops S oi v a → S w →
      wpAnyD P md ops Q S dep n (l.setIfInBounds i true) (a.put oi.dst v) w → wpAnyD P md ops Q S dep (n + 1) l a w := by
  intro n
  induction n with
  | zero =>
    intro l a w _ hr _ _ hy hS H
    refine ⟨fun h => (by rw [h] at hr; cases hr), fun j hj => ?_⟩
    by_cases hji : j = i
    · subst hji; exact hy.wpOp hi hS ⟨fun _ => hS, H⟩
    · have := ready_mono hj hji
      rw [H.1] at this
      cases this
  | succ n ih =>
    intro l a w hfree hr hmid hdep hy hS H
    refine ⟨fun h => (by rw [h] at hr; cases hr), fun j hj => ?_⟩
    by_cases hji : j = i
    · subst hji; exact hy.wpOp hi hS ⟨fun _ => hS, H⟩
    · have hil := (mem_ready.1 hr).1
      have hjm : j ≠ mid := fun e => waitsD hm hil (e ▸ hj)
      have hjd : j ≠ dep := fun e => by
        rcases hd with hd | hd
        · exact hjm (e.trans hd.symm)
        · exact waitsD hd hmid (e ▸ hj)
      have h1 := H.2 j (ready_mono hj hji)
      obtain ⟨hjun, oj, hoj, hall⟩ := mem_ready.1 hj
      have hnot : ∀ e ∈ oj.after, Region.binds md e = true → e.on ≠ i := fun e he hb heq => by
        have h2 := hall e he hb
        rw [heq] at h2
        rcases Nat.lt_or_ge i l.size with h' | h'
        · simp [h'] at hil h2; rw [hil] at h2; cases h2
        · simp [Array.getElem?_eq_none h'] at h2
      have h2 := wpOp_putIf hoj (hfree j oj hoj hji hjun hnot) (fun cs b => hsel i oi cs b hi) (fun cs b => hsel j oj cs b hoj) hQ hy h1
      refine wpOp_mono (fun a' w' h3 => ?_) h2
      have hS' : S w' := h3.2.1 (by rw [getD_set_ne true hjd, getD_set_ne true hid]; exact hdep)
      refine ⟨fun _ => hS', ih (l.setIfInBounds j true) a' w' (fun k ok hk hki hun hno => hfree k ok hk hki ?_ hno) (ready_mono hr (Ne.symm hji)) (by rw [getD_set_ne true hjm]; exact hmid) (by rw [getD_set_ne true hjd]; exact hdep) h3.1 hS' ?_⟩
      · by_cases hjk : j = k
        · subst hjk; exact hjun
        · rw [getD_set_ne true hjk] at hun; exact hun
      · rw [Array.setIfInBounds_comm _ _ hji]
        exact h3.2.2

/-- number i is taken first; mid waitsD for it, dep for mid (or dep is mid) -/
theorem wpAnyD_take {i : Nat} (mid : Nat) {oi : Oper} {v : Value} {n : Nat} {l : Array Bool} {a : Act} {w : World} (hi : ops[i]? = some oi)
    (hs : Region.noSelect ops = true) (hf : Region.free md ops l i = true) (hr : (Region.ready md ops l).contains i = true) (hm : waitsFor md ops mid i = true) (hd : mid = dep ∨ waitsFor md ops dep mid = true) (hid : i ≠ dep)
    (hml : l.getD mid true = false) (hdl : l.getD dep true = false) (hQ : ∀ c a w, Q (.panic c) (a.put oi.dst v) w → Q (.panic c) a w) (hw : Region.wanted oi (yielded ops a.tmps) = true) (hy : ∀ w, S w → (execOp a.eval oi).run P w = .ok (.value v) w) (hS : S w)
    (h : wpAnyD P md ops Q S dep n (l.setIfInBounds i true) (a.put oi.dst v) w) : wpAnyD P md ops Q S dep (n + 1) l a w :=
  wpAnyD_first hi (Region.noSelect_spec hs) hQ hm hd hid n l a w (Region.free_spec hi hf) (by simpa using hr) hml hdl (.inl ⟨hw, hy⟩) hS h

/-- each of those that may come up comes up -/
def EachD (P : Program) (md : Region.Mode) (ops : Array Oper) (Q : Exit → Act → World → Prop) (S : World → Prop) (dep n : Nat) (l : Array Bool) (a : Act) (w : World) (rs : List Nat) : Prop :=
  ∀ j ∈ rs, wpOp P ops Q j (fun a' w' => Until S dep (l.setIfInBounds j true) w' ∧ wpAnyD P md ops Q S dep n (l.setIfInBounds j true) a' w') a w
theorem wpAnyD_each {rs : List Nat} {n : Nat} {l : Array Bool} {a : Act} {w : World} (hr : Region.ready md ops l = rs) (hne : rs ≠ []) (h : EachD P md ops Q S dep n l a w rs) : wpAnyD P md ops Q S dep (n + 1) l a w :=
  ⟨fun h0 => absurd (hr ▸ h0) hne, hr ▸ h⟩
theorem EachD.nil {n : Nat} {l : Array Bool} {a : Act} {w : World} : EachD P md ops Q S dep n l a w [] := fun _ h => by cases h
theorem EachD.cons {n : Nat} {l : Array Bool} {a : Act} {w : World} {i : Nat} {o : Oper} {rs : List Nat} (ho : ops[i]? = some o)
    (h : ∀ K : Act → World → Prop, (∀ a' w', Until S dep (l.setIfInBounds i true) w' → wpAnyD P md ops Q S dep n (l.setIfInBounds i true) a' w' → K a' w') → if Region.wanted o (yielded ops a.tmps) = true then Oper.wp P o a w K Q else K (a.put o.dst undef) w)
    (hs : EachD P md ops Q S dep n l a w rs) : EachD P md ops Q S dep n l a w (i :: rs) := fun j hj => by
  rcases List.mem_cons.1 hj with rfl | hj
  · exact wpOp_step ho fun K' hK => h K' fun a' w' h1 h2 => hK a' w' ⟨h1, h2⟩
  · exact hs j hj
end
end Go.Proofs.Ytcndbohiiodndaa

open Go Go.RowKit
open Go.ChangeMaps (setBlock)
namespace Go.Proofs.Ytcndbohiiodndaa

theorem fst_len {g : Gram} {x : List Int} {w wo : World} {bc : Nat} {A : Option Addr} {c : Nat} {B : Option Addr} {d q : Nat} {sv iv : Value} {rs : List Nat} (h : FSt g x w wo bc A c B d q sv iv rs) : ∃ sv' iv' rs', Hid (sv = sv') ∧ Hid (iv = iv') ∧ FSt g x w wo bc A c B d q sv' iv' rs' := ⟨_, _, _, Lib.hid rfl, Lib.hid rfl, h⟩

def FillEnd (w w' : World) (bc : Nat) (g : Gram) (x : List Int) (A : Option Addr) (c : Nat) (B : Option Addr) (d n1 : Nat) : Prop :=
  ∃ (D : Nat → Prop) (sb sc ib ic : Nat) (h : EHead) (r : Nat → Nat), Away w.heap.size (fun b => b = bc) w w' ∧ EAt D w' w.heap.size bc g x A c B d n1 sb sc ib ic h r (fillE g x)

theorem fillS {W0 W : World} {bc : Nat} {v0 v1 v2 v3 v4 sv iv : Value} (hb : Below W0.heap.size W0 W) (hm : W0.heap[bc]? = some (.cells #[v0, v1, v2, v3, v4, sv, iv] 146 (0, 0))) : W.cell? ⟨bc, 5, none⟩ = some sv ∧ W.cell? ⟨bc, 6, none⟩ = some iv := by
  have h := blk_below hb (blk_lt hm) hm
  exact ⟨blk_cell h (i := 5) rfl, blk_cell h (i := 6) rfl⟩

set_option maxRecDepth 100000 in
set_option maxHeartbeats 16000000 in
theorem fill_any (g : Gram) (x : List Int) (A : Option Addr) (c : Nat) (B : Option Addr) (d n1 bc : Nat) (w : World) (hblk : w.heap[bc]? = some (.cells #[.int .i64 g.terms, .int .i64 g.nons, .int .i64 g.start, .slice A g.rules.length c, .slice B x.length d, .slice none 0 0, .slice none 0 0] 146 (0, 0)))
    (hr : IsSl Elt.rule (fun b => b < bc) w (.slice A g.rules.length c) g.rules) (hx : IsSl Elt.int (fun b => b < bc) w (.slice B x.length d) x) (hv : Valid g) (hm : x.length ≤ 12) (hn1 : n1 = x.length + 1) :
    Calls Try.prog 83 #[.pointer (some ⟨bc, 0, none⟩)] w fun e w' => e = .returned (.tuple #[]) ∧ FillEnd w w' bc g x A c B d n1 := by
  have hbc := blk_lt hblk
  have c1 := blk_cell hblk (i := 4) rfl
  obtain ⟨i1, hi1, ha1, hb1, hc1⟩ := info_parts Try.infoEItems
  obtain ⟨i2, hi2, ha2, hb2, hc2⟩ := info_parts Try.infoEMap
  have hF0 : FSt g x w w bc A c B d 0 (.slice none 0 0) (.slice none 0 0) [] := ⟨Away.refl _ _ _, hblk, World.ownsRow_nil _ _ _ _, World.ownsRow_nil _ _ _ _, rfl, by simp, by simp, by simp⟩
  have hmm : ∀ W : World, (Instr.makeMap 206 none).run Try.prog W = .ok (.map (some W.heap.size)) (W.alloc (.map #[] 0)) := fun _ => rfl
  have HR := Lib.hid hr
  have HX := Lib.hid hx
  have HV := Lib.hid hv
  have H32 := hv.len
  have HN1 := Lib.hid hn1
  clear hr hx hv hn1 hblk
  go_enter Try.func83, Try.ntmps83
  go_wp2_with fail
  clear c1
  go_loopg [14] (x.length + 1) (fun gk i wr => ∃ (q : Nat) (sv iv : Value) (rs : List Nat), q ≤ x.length + 1 ∧ gk = x.length + 1 - q ∧ i = .int .i64 q ∧ FSt g x w wr bc A c B d q sv iv rs)
  case atStart => exact ⟨0, _, _, [], by omega, by omega, rfl, hF0⟩
  case round =>
    clear hF0
    obtain ⟨q, sv, iv, rs, hq, rfl, rfl, hS⟩ := hrel
    obtain ⟨wo, rfl⟩ : ∃ wo : World, wo = wr := ⟨_, rfl⟩
    by_cases hlt : q < x.length + 1
    · have hqz : decide ((q : Int) < (x.length : Int) + 1) = true := by simp only [decide_eq_true_eq]; omega
      have hs1 := hS.away.size
      have hwo := blk_lt hS.blk
      have hc5 := blk_cell hS.blk (i := 5) rfl
      have hc6 := blk_cell hS.blk (i := 6) rfl
      have hc5' : ∀ o o' : Obj, ((wo.alloc o).alloc o').cell? ⟨bc, 5, none⟩ = some sv := fun o o' => (World.cell?_of_block (w := wo) ((below2 wo o o').block _ hwo)).trans hc5
      have hc6' : ∀ o o' : Obj, ((wo.alloc o).alloc o').cell? ⟨bc, 6, none⟩ = some iv := fun o o' => (World.cell?_of_block (w := wo) ((below2 wo o o').block _ hwo)).trans hc6
      have hc5'' : ∀ o o' o'' : Obj, (((wo.alloc o).alloc o').alloc o'').cell? ⟨bc, 5, none⟩ = some sv := fun o o' o'' => (World.cell?_of_block (w := wo) ((below3 wo o o' o'').block _ hwo)).trans hc5
      have hc6'' : ∀ o o' o'' : Obj, (((wo.alloc o).alloc o').alloc o'').cell? ⟨bc, 6, none⟩ = some iv := fun o o' o'' => (World.cell?_of_block (w := wo) ((below3 wo o o' o'').block _ hwo)).trans hc6
      have hownH := Lib.hid (fun (W : World) (hb : Below wo.heap.size wo W) => own_same (w' := W) hS.sets fun b hb2 => hb.block b (own_lt hS.sets b hb2))
      have hownI := Lib.hid (fun (W : World) (hb : Below wo.heap.size wo W) => own_same (w' := W) hS.ins fun b hb2 => hb.block b (own_lt hS.ins b hb2))
      have hAlt : ∀ k, sv.ownBlock = some k → k < wo.heap.size := fun k hk => own_lt hS.sets k hk
      have HLO := Lib.hid (show (∀ b, sv.ownBlock = some b → w.heap.size ≤ b) ∧ ∀ b, iv.ownBlock = some b → w.heap.size ≤ b from ⟨fun b hb => own_base' hS.sets b hb, fun b hb => own_base' hS.ins b hb⟩)
      have hbi := hS.blk
      have HSF := Lib.hid hS
      have hq13 : q ≤ 12 := by omega
      have HLT := Lib.hid hlt
      clear hS hlt hq
      go_upto_block 1 with (fail)
      go_cut [] (fun wx => ∃ sv' iv' rs', FSt g x w wx bc A c B d (q + 1) sv' iv' rs')
      case first =>
       clear HR HX HV HN1
       go_wp2_with fail
       refine wp_region_any (by kernel_rfl) ?_
       change wpAny _ _ _ _ _ _ _ (World.drew _)
       refine wpAny_take (i := 0) (v := ?_) rfl (by kernel_rfl) (by kernel_rfl) (by kernel_rfl) (fun _ _ _ h => h) (Or.inl ⟨by rfl, ?_⟩) ?_
       rotate_left
       · (intro w'; go_simp; first | done | with_reducible rfl)
       refine wpAny_take (i := 1) (v := ?_) rfl (by kernel_rfl) (by kernel_rfl) (by kernel_rfl) (fun _ _ _ h => h) (Or.inl ⟨by rfl, ?_⟩) ?_
       rotate_left
       · (intro w'; go_simp; first | done | with_reducible rfl)
       refine wpAny_take (i := 2) (v := ?_) rfl (by kernel_rfl) (by kernel_rfl) (by kernel_rfl) (fun _ _ _ h => h) (Or.inl ⟨by rfl, ?_⟩) ?_
       rotate_left
       · (intro w'; go_simp; first | done | with_reducible rfl)
       refine wpAny_take (i := 3) (v := ?_) rfl (by kernel_rfl) (by kernel_rfl) (by kernel_rfl) (fun _ _ _ h => h) (Or.inl ⟨by rfl, ?_⟩) ?_
       rotate_left
       · (intro w'; go_simp; first | done | with_reducible rfl)
       refine wpAny_take (i := 4) (v := ?_) rfl (by kernel_rfl) (by kernel_rfl) (by kernel_rfl) (fun _ _ _ h => h) (Or.inl ⟨by rfl, ?_⟩) ?_
       rotate_left
       · (intro w'; go_simp; first | done | with_reducible rfl)
       refine wpAny_take (i := 8) (v := ?_) rfl (by kernel_rfl) (by kernel_rfl) (by kernel_rfl) (fun _ _ _ h => h) (Or.inl ⟨by rfl, ?_⟩) ?_
       rotate_left
       · (intro w'; go_simp; first | done | with_reducible rfl)
       refine wpAny_take (i := 9) (v := ?_) rfl (by kernel_rfl) (by kernel_rfl) (by kernel_rfl) (fun _ _ _ h => h) (Or.inl ⟨by rfl, ?_⟩) ?_
       rotate_left
       · (intro w'; go_simp; first | done | with_reducible rfl)
       refine wpAny_take (i := 10) (v := ?_) rfl (by kernel_rfl) (by kernel_rfl) (by kernel_rfl) (fun _ _ _ h => h) (Or.inl ⟨by rfl, ?_⟩) ?_
       rotate_left
       · (intro w'; go_simp; first | done | with_reducible rfl)
       refine wpAny_of_D (S := fun w' => w'.cell? ⟨bc, 5, none⟩ = some sv ∧ w'.cell? ⟨bc, 6, none⟩ = some iv) (dep := 14) _ _ _ _ ?_
       refine wpAnyD_take (i := 5) (v := sv) 7 rfl (by kernel_rfl) (by kernel_rfl) (by kernel_rfl) (by kernel_rfl) (.inr (by kernel_rfl)) (by decide) (by kernel_rfl) (by kernel_rfl) (fun _ _ _ h => h) (by rfl) ?_ ⟨hc5, hc6⟩ ?_
       · (intro w' hS; have h5 := hS.1; go_simp)
       refine wpAnyD_take (i := 11) (v := iv) 14 rfl (by kernel_rfl) (by kernel_rfl) (by kernel_rfl) (by kernel_rfl) (.inl rfl) (by decide) (by kernel_rfl) (by kernel_rfl) (fun _ _ _ h => h) (by rfl) ?_ ⟨hc5, hc6⟩ ?_
       · (intro w' hS; have h6 := hS.2; go_simp)
       refine wpAnyD_each (rs := [6, 12]) (by kernel_rfl) (by simp) ?_
       refine EachD.cons rfl (fun K hK => ?_) ?_
       · go_simp
         refine hK _ _ (fun _ => by first | exact fillS (by first | exact (below1 _ _).drew | exact (below2 _ _ _).drew | exact (below3 _ _ _ _).drew) hbi | exact fillS (by first | exact Below.refl _ _ | exact below1 _ _ | exact below2 _ _ _) hgm1) ?_
         clear hK K
         refine wpAnyD_each (rs := [7, 12]) (by kernel_rfl) (by simp) ?_
         refine EachD.cons rfl (fun K hK => ?_) ?_
         · (refine step_append_one _ rfl (.tmp 21) (.tmp 22) (.const (.slice none 0 0)) 53 rfl w.heap.size 56 i1 (.slice none 0 0) 24 Try.underlying53 hi1 ha1 hb1 hc1 rfl _ q (List.replicate q (.slice none 0 0)) (by rfl) (hownH.out _ (by refine Below.drew ?_; first | exact below1 _ _ | exact below2 _ _ _ | exact below3 _ _ _ _)) (by rfl) (by rfl) (fun j u hj => by rw [World.cell?_drew]; first | exact cells_new' (by simp) _ _ _ _ hj | exact cell_new1 (by simp) _ _ _ _ _ hj | exact cell_new2 (by simp) _ _ _ _ _ _ hj) (by rfl) (q + 1) rfl (by unfold maxLen; omega) (by omega) (by simp; omega) ?_; intro A1 c1 w1 hown1 hga hat1; have hbl := belo_of hga (w0 := wo) (by refine Below.drew ?_; first | exact below1 _ _ | exact below2 _ _ _ | exact below3 _ _ _ _); have hgm1 : w1.heap[bc]? = _ := (hga.block bc (Nat.lt_of_lt_of_le hwo hbl.size) (fun e => by have := HLO.out.1 _ e.symm; omega)).trans ((hbl.block _ hwo).trans hbi); have hgc1 := blk_cell hgm1 (i := 6) rfl; have hlt1 := blk_lt hgm1; have HB := Lib.hid (fil_i1 hownI.out (hownH.out _ hbl) hbl hga))
           try go_simp
           refine hK _ _ (fun _ => fillS (by first | exact Below.refl _ _ | exact below1 _ _ | exact below2 _ _ _) hgm1) ?_
           clear hK K
           refine wpAnyD_each (rs := [12]) (by kernel_rfl) (by simp) ?_
           refine EachD.cons rfl (fun K hK => ?_) ?_
           · go_simp
             refine hK _ _ (fun _ => by first | exact fillS (by first | exact (below1 _ _).drew | exact (below2 _ _ _).drew | exact (below3 _ _ _ _).drew) hbi | exact fillS (by first | exact Below.refl _ _ | exact below1 _ _ | exact below2 _ _ _) hgm1) ?_
             clear hK K
             refine wpAnyD_each (rs := [13]) (by kernel_rfl) (by simp) ?_
             refine EachD.cons rfl (fun K hK => ?_) ?_
             · go_simp
               refine hK _ _ (fun _ => by first | exact fillS (by first | exact (below1 _ _).drew | exact (below2 _ _ _).drew | exact (below3 _ _ _ _).drew) hbi | exact fillS (by first | exact Below.refl _ _ | exact below1 _ _ | exact below2 _ _ _) hgm1) ?_
               clear hK K
               refine wpAnyD_each (rs := [14]) (by kernel_rfl) (by simp) ?_
               refine EachD.cons rfl (fun K hK => ?_) ?_
               · (refine step_append_one _ rfl (.tmp 27) (.tmp 29) (.tmp 28) 144 rfl w.heap.size 206 i2 (.map none) 8 Try.underlying144 hi2 ha2 hb2 hc2 rfl _ q (rs.map fun r => .map (some r)) (by rfl) (HB.out _ (by first | exact Below.refl _ _ | exact below1 _ _ | exact below2 _ _ _)) (by rfl) (by rfl) (fun j u hj => by first | exact cells_new' (by simp) _ _ _ _ hj | exact cell_after hga hAlt _ _ _ (by omega) (by rw [World.cell?_drew]; first | exact cells_new' (by simp) _ _ _ _ hj | exact cell_new1 (by simp) _ _ _ _ _ hj)) (by rfl) (q + 1) rfl (by unfold maxLen; omega) (by omega) (by have := hga.size; have := hbl.size; simp; omega) ?_; intro A2 c2 w2 hown2 hgb hat2; have hbl2 := belo_of hgb (w0 := w1) (by first | exact Below.refl _ _ | exact below1 _ _ | exact below2 _ _ _); have hgm2 : w2.heap[bc]? = _ := (hgb.block bc (Nat.lt_of_lt_of_le hlt1 hbl2.size) (fun e => by have := HLO.out.2 _ e.symm; omega)).trans ((hbl2.block _ hlt1).trans hgm1); have hq5 := blk_cell hgm2 (i := 5) rfl; have hq6 := blk_cell hgm2 (i := 6) rfl; have hf5 : w2.frozen? ⟨bc, 5, none⟩ = false := blk_free hgm2; have hf6 : w2.frozen? ⟨bc, 6, none⟩ = false := blk_free hgm2)
                 try go_simp
                 refine hK _ _ (fun e => Bool.noConfusion (show true = false from e)) ?_
                 clear hK K
                 refine wpAnyD_of _ _ _ _ (by kernel_rfl) ?_
                 refine wpAny_take (i := 15) (v := ?_) rfl (by kernel_rfl) (by kernel_rfl) (by kernel_rfl) (fun _ _ _ h => h) (Or.inl ⟨by rfl, ?_⟩) ?_
                 rotate_left
                 · (intro w'; go_simp; first | done | with_reducible rfl)
                 refine wpAny_take (i := 16) (v := ?_) rfl (by kernel_rfl) (by kernel_rfl) (by kernel_rfl) (fun _ _ _ h => h) (Or.inl ⟨by rfl, ?_⟩) ?_
                 rotate_left
                 · (intro w'; go_simp; first | done | with_reducible rfl)
                 refine wpAny_ready (rs := [17]) (by kernel_rfl) (by simp) ?_
                 refine AllReady.cons rfl (fun K hK => ?_) AllReady.nil
                 go_simp
                 refine hK _ _ ?_
                 clear hK K
                 refine wpAny_take (i := 18) (v := ?_) rfl (by kernel_rfl) (by kernel_rfl) (by kernel_rfl) (fun _ _ _ h => h) (Or.inl ⟨by rfl, ?_⟩) ?_
                 rotate_left
                 · (intro w'; go_simp; first | done | with_reducible rfl)
                 refine wpAny_take (i := 19) (v := ?_) rfl (by kernel_rfl) (by kernel_rfl) (by kernel_rfl) (fun _ _ _ h => h) (Or.inl ⟨by rfl, ?_⟩) ?_
                 rotate_left
                 · (intro w'; go_simp; first | done | with_reducible rfl)
                 refine wpAny_ready (rs := [20]) (by kernel_rfl) (by simp) ?_
                 refine AllReady.cons rfl (fun K hK => ?_) AllReady.nil
                 go_simp
                 refine hK _ _ ?_
                 clear hK K
                 refine wpAny_done (by kernel_rfl) ?_ _
                 have hst := fst_len (by first
                   | exact FSt.step (lf := w1.heap.size) HSF.out hbc hbl hga hown1 hbl2 hgb hown2 (by have := hga.size; have := hbl.size; omega) (.inr ⟨Nat.le_refl _, by first | exact blk_new' rfl _ | exact blk_new1 rfl _ _⟩)
                   | exact FSt.step (lf := wo.heap.size) HSF.out hbc hbl hga hown1 hbl2 hgb hown2 (Nat.le_refl _) (.inl (by rw [drew_heap]; first | exact blk_new' rfl _ | exact blk_new1 rfl _ _ | exact blk_new2 rfl _ _ _))
                   | exact FSt.step (lf := wo.heap.size + 1) HSF.out hbc hbl hga hown1 hbl2 hgb hown2 (Nat.le_succ _) (.inl (by rw [drew_heap]; first | exact blk_new' (by simp) _ | exact blk_new1 (by simp) _ _ | exact blk_new2 (by simp) _ _ _)))
                 clear hown1 hga hat1 hbl hgm1 hgc1 HB hown2 hgb hat2 hbl2 hownH hownI hq5 hq6 hf5 hf6 hgm2 hc5 hc6 hc5' hc6' hc5'' hc6''
                 obtain ⟨sv', iv', rs', e5, e6, hS'⟩ := hst
                 clear HSF HLO hbi hwo hAlt hlt1
                 go_wp2_with fail
                 go_meet
                 exact ⟨sv', iv', rs', hS'⟩
               exact EachD.nil
             exact EachD.nil
           exact EachD.nil
         refine EachD.cons rfl (fun K hK => ?_) ?_
         · go_simp
           refine hK _ _ (fun _ => by first | exact fillS (by first | exact (below1 _ _).drew | exact (below2 _ _ _).drew | exact (below3 _ _ _ _).drew) hbi | exact fillS (by first | exact Below.refl _ _ | exact below1 _ _ | exact below2 _ _ _) hgm1) ?_
           clear hK K
           refine wpAnyD_each (rs := [7, 13]) (by kernel_rfl) (by simp) ?_
           refine EachD.cons rfl (fun K hK => ?_) ?_
           · (refine step_append_one _ rfl (.tmp 21) (.tmp 22) (.const (.slice none 0 0)) 53 rfl w.heap.size 56 i1 (.slice none 0 0) 24 Try.underlying53 hi1 ha1 hb1 hc1 rfl _ q (List.replicate q (.slice none 0 0)) (by rfl) (hownH.out _ (by refine Below.drew ?_; first | exact below1 _ _ | exact below2 _ _ _ | exact below3 _ _ _ _)) (by rfl) (by rfl) (fun j u hj => by rw [World.cell?_drew]; first | exact cells_new' (by simp) _ _ _ _ hj | exact cell_new1 (by simp) _ _ _ _ _ hj | exact cell_new2 (by simp) _ _ _ _ _ _ hj) (by rfl) (q + 1) rfl (by unfold maxLen; omega) (by omega) (by simp; omega) ?_; intro A1 c1 w1 hown1 hga hat1; have hbl := belo_of hga (w0 := wo) (by refine Below.drew ?_; first | exact below1 _ _ | exact below2 _ _ _ | exact below3 _ _ _ _); have hgm1 : w1.heap[bc]? = _ := (hga.block bc (Nat.lt_of_lt_of_le hwo hbl.size) (fun e => by have := HLO.out.1 _ e.symm; omega)).trans ((hbl.block _ hwo).trans hbi); have hgc1 := blk_cell hgm1 (i := 6) rfl; have hlt1 := blk_lt hgm1; have HB := Lib.hid (fil_i1 hownI.out (hownH.out _ hbl) hbl hga))
             try go_simp
             refine hK _ _ (fun _ => fillS (by first | exact Below.refl _ _ | exact below1 _ _ | exact below2 _ _ _) hgm1) ?_
             clear hK K
             refine wpAnyD_each (rs := [13]) (by kernel_rfl) (by simp) ?_
             refine EachD.cons rfl (fun K hK => ?_) ?_
             · go_simp
               refine hK _ _ (fun _ => by first | exact fillS (by first | exact (below1 _ _).drew | exact (below2 _ _ _).drew | exact (below3 _ _ _ _).drew) hbi | exact fillS (by first | exact Below.refl _ _ | exact below1 _ _ | exact below2 _ _ _) hgm1) ?_
               clear hK K
               refine wpAnyD_each (rs := [14]) (by kernel_rfl) (by simp) ?_
               refine EachD.cons rfl (fun K hK => ?_) ?_
               · (refine step_append_one _ rfl (.tmp 27) (.tmp 29) (.tmp 28) 144 rfl w.heap.size 206 i2 (.map none) 8 Try.underlying144 hi2 ha2 hb2 hc2 rfl _ q (rs.map fun r => .map (some r)) (by rfl) (HB.out _ (by first | exact Below.refl _ _ | exact below1 _ _ | exact below2 _ _ _)) (by rfl) (by rfl) (fun j u hj => by first | exact cells_new' (by simp) _ _ _ _ hj | exact cell_after hga hAlt _ _ _ (by omega) (by rw [World.cell?_drew]; first | exact cells_new' (by simp) _ _ _ _ hj | exact cell_new1 (by simp) _ _ _ _ _ hj)) (by rfl) (q + 1) rfl (by unfold maxLen; omega) (by omega) (by have := hga.size; have := hbl.size; simp; omega) ?_; intro A2 c2 w2 hown2 hgb hat2; have hbl2 := belo_of hgb (w0 := w1) (by first | exact Below.refl _ _ | exact below1 _ _ | exact below2 _ _ _); have hgm2 : w2.heap[bc]? = _ := (hgb.block bc (Nat.lt_of_lt_of_le hlt1 hbl2.size) (fun e => by have := HLO.out.2 _ e.symm; omega)).trans ((hbl2.block _ hlt1).trans hgm1); have hq5 := blk_cell hgm2 (i := 5) rfl; have hq6 := blk_cell hgm2 (i := 6) rfl; have hf5 : w2.frozen? ⟨bc, 5, none⟩ = false := blk_free hgm2; have hf6 : w2.frozen? ⟨bc, 6, none⟩ = false := blk_free hgm2)
                 try go_simp
                 refine hK _ _ (fun e => Bool.noConfusion (show true = false from e)) ?_
                 clear hK K
                 refine wpAnyD_of _ _ _ _ (by kernel_rfl) ?_
                 refine wpAny_take (i := 15) (v := ?_) rfl (by kernel_rfl) (by kernel_rfl) (by kernel_rfl) (fun _ _ _ h => h) (Or.inl ⟨by rfl, ?_⟩) ?_
                 rotate_left
                 · (intro w'; go_simp; first | done | with_reducible rfl)
                 refine wpAny_take (i := 16) (v := ?_) rfl (by kernel_rfl) (by kernel_rfl) (by kernel_rfl) (fun _ _ _ h => h) (Or.inl ⟨by rfl, ?_⟩) ?_
                 rotate_left
                 · (intro w'; go_simp; first | done | with_reducible rfl)
                 refine wpAny_ready (rs := [17]) (by kernel_rfl) (by simp) ?_
                 refine AllReady.cons rfl (fun K hK => ?_) AllReady.nil
                 go_simp
                 refine hK _ _ ?_
                 clear hK K
                 refine wpAny_take (i := 18) (v := ?_) rfl (by kernel_rfl) (by kernel_rfl) (by kernel_rfl) (fun _ _ _ h => h) (Or.inl ⟨by rfl, ?_⟩) ?_
                 rotate_left
                 · (intro w'; go_simp; first | done | with_reducible rfl)
                 refine wpAny_take (i := 19) (v := ?_) rfl (by kernel_rfl) (by kernel_rfl) (by kernel_rfl) (fun _ _ _ h => h) (Or.inl ⟨by rfl, ?_⟩) ?_
                 rotate_left
                 · (intro w'; go_simp; first | done | with_reducible rfl)
                 refine wpAny_ready (rs := [20]) (by kernel_rfl) (by simp) ?_
                 refine AllReady.cons rfl (fun K hK => ?_) AllReady.nil
                 go_simp
                 refine hK _ _ ?_
                 clear hK K
                 refine wpAny_done (by kernel_rfl) ?_ _
                 have hst := fst_len (by first
                   | exact FSt.step (lf := w1.heap.size) HSF.out hbc hbl hga hown1 hbl2 hgb hown2 (by have := hga.size; have := hbl.size; omega) (.inr ⟨Nat.le_refl _, by first | exact blk_new' rfl _ | exact blk_new1 rfl _ _⟩)
                   | exact FSt.step (lf := wo.heap.size) HSF.out hbc hbl hga hown1 hbl2 hgb hown2 (Nat.le_refl _) (.inl (by rw [drew_heap]; first | exact blk_new' rfl _ | exact blk_new1 rfl _ _ | exact blk_new2 rfl _ _ _))
                   | exact FSt.step (lf := wo.heap.size + 1) HSF.out hbc hbl hga hown1 hbl2 hgb hown2 (Nat.le_succ _) (.inl (by rw [drew_heap]; first | exact blk_new' (by simp) _ | exact blk_new1 (by simp) _ _ | exact blk_new2 (by simp) _ _ _)))
                 clear hown1 hga hat1 hbl hgm1 hgc1 HB hown2 hgb hat2 hbl2 hownH hownI hq5 hq6 hf5 hf6 hgm2 hc5 hc6 hc5' hc6' hc5'' hc6''
                 obtain ⟨sv', iv', rs', e5, e6, hS'⟩ := hst
                 clear HSF HLO hbi hwo hAlt hlt1
                 go_wp2_with fail
                 go_meet
                 exact ⟨sv', iv', rs', hS'⟩
               exact EachD.nil
             exact EachD.nil
           refine EachD.cons rfl (fun K hK => ?_) ?_
           · go_simp
             refine hK _ _ (fun _ => by first | exact fillS (by first | exact (below1 _ _).drew | exact (below2 _ _ _).drew | exact (below3 _ _ _ _).drew) hbi | exact fillS (by first | exact Below.refl _ _ | exact below1 _ _ | exact below2 _ _ _) hgm1) ?_
             clear hK K
             refine wpAnyD_each (rs := [7]) (by kernel_rfl) (by simp) ?_
             refine EachD.cons rfl (fun K hK => ?_) ?_
             · (refine step_append_one _ rfl (.tmp 21) (.tmp 22) (.const (.slice none 0 0)) 53 rfl w.heap.size 56 i1 (.slice none 0 0) 24 Try.underlying53 hi1 ha1 hb1 hc1 rfl _ q (List.replicate q (.slice none 0 0)) (by rfl) (hownH.out _ (by refine Below.drew ?_; first | exact below1 _ _ | exact below2 _ _ _ | exact below3 _ _ _ _)) (by rfl) (by rfl) (fun j u hj => by rw [World.cell?_drew]; first | exact cells_new' (by simp) _ _ _ _ hj | exact cell_new1 (by simp) _ _ _ _ _ hj | exact cell_new2 (by simp) _ _ _ _ _ _ hj) (by rfl) (q + 1) rfl (by unfold maxLen; omega) (by omega) (by simp; omega) ?_; intro A1 c1 w1 hown1 hga hat1; have hbl := belo_of hga (w0 := wo) (by refine Below.drew ?_; first | exact below1 _ _ | exact below2 _ _ _ | exact below3 _ _ _ _); have hgm1 : w1.heap[bc]? = _ := (hga.block bc (Nat.lt_of_lt_of_le hwo hbl.size) (fun e => by have := HLO.out.1 _ e.symm; omega)).trans ((hbl.block _ hwo).trans hbi); have hgc1 := blk_cell hgm1 (i := 6) rfl; have hlt1 := blk_lt hgm1; have HB := Lib.hid (fil_i1 hownI.out (hownH.out _ hbl) hbl hga))
               try go_simp
               refine hK _ _ (fun _ => fillS (by first | exact Below.refl _ _ | exact below1 _ _ | exact below2 _ _ _) hgm1) ?_
               clear hK K
               refine wpAnyD_each (rs := [14]) (by kernel_rfl) (by simp) ?_
               refine EachD.cons rfl (fun K hK => ?_) ?_
               · (refine step_append_one _ rfl (.tmp 27) (.tmp 29) (.tmp 28) 144 rfl w.heap.size 206 i2 (.map none) 8 Try.underlying144 hi2 ha2 hb2 hc2 rfl _ q (rs.map fun r => .map (some r)) (by rfl) (HB.out _ (by first | exact Below.refl _ _ | exact below1 _ _ | exact below2 _ _ _)) (by rfl) (by rfl) (fun j u hj => by first | exact cells_new' (by simp) _ _ _ _ hj | exact cell_after hga hAlt _ _ _ (by omega) (by rw [World.cell?_drew]; first | exact cells_new' (by simp) _ _ _ _ hj | exact cell_new1 (by simp) _ _ _ _ _ hj)) (by rfl) (q + 1) rfl (by unfold maxLen; omega) (by omega) (by have := hga.size; have := hbl.size; simp; omega) ?_; intro A2 c2 w2 hown2 hgb hat2; have hbl2 := belo_of hgb (w0 := w1) (by first | exact Below.refl _ _ | exact below1 _ _ | exact below2 _ _ _); have hgm2 : w2.heap[bc]? = _ := (hgb.block bc (Nat.lt_of_lt_of_le hlt1 hbl2.size) (fun e => by have := HLO.out.2 _ e.symm; omega)).trans ((hbl2.block _ hlt1).trans hgm1); have hq5 := blk_cell hgm2 (i := 5) rfl; have hq6 := blk_cell hgm2 (i := 6) rfl; have hf5 : w2.frozen? ⟨bc, 5, none⟩ = false := blk_free hgm2; have hf6 : w2.frozen? ⟨bc, 6, none⟩ = false := blk_free hgm2)
                 try go_simp
                 refine hK _ _ (fun e => Bool.noConfusion (show true = false from e)) ?_
                 clear hK K
                 refine wpAnyD_of _ _ _ _ (by kernel_rfl) ?_
                 refine wpAny_take (i := 15) (v := ?_) rfl (by kernel_rfl) (by kernel_rfl) (by kernel_rfl) (fun _ _ _ h => h) (Or.inl ⟨by rfl, ?_⟩) ?_
                 rotate_left
                 · (intro w'; go_simp; first | done | with_reducible rfl)
                 refine wpAny_take (i := 16) (v := ?_) rfl (by kernel_rfl) (by kernel_rfl) (by kernel_rfl) (fun _ _ _ h => h) (Or.inl ⟨by rfl, ?_⟩) ?_
                 rotate_left
                 · (intro w'; go_simp; first | done | with_reducible rfl)
                 refine wpAny_ready (rs := [17]) (by kernel_rfl) (by simp) ?_
                 refine AllReady.cons rfl (fun K hK => ?_) AllReady.nil
                 go_simp
                 refine hK _ _ ?_
                 clear hK K
                 refine wpAny_take (i := 18) (v := ?_) rfl (by kernel_rfl) (by kernel_rfl) (by kernel_rfl) (fun _ _ _ h => h) (Or.inl ⟨by rfl, ?_⟩) ?_
                 rotate_left
                 · (intro w'; go_simp; first | done | with_reducible rfl)
                 refine wpAny_take (i := 19) (v := ?_) rfl (by kernel_rfl) (by kernel_rfl) (by kernel_rfl) (fun _ _ _ h => h) (Or.inl ⟨by rfl, ?_⟩) ?_
                 rotate_left
                 · (intro w'; go_simp; first | done | with_reducible rfl)
                 refine wpAny_ready (rs := [20]) (by kernel_rfl) (by simp) ?_
                 refine AllReady.cons rfl (fun K hK => ?_) AllReady.nil
                 go_simp
                 refine hK _ _ ?_
                 clear hK K
                 refine wpAny_done (by kernel_rfl) ?_ _
                 have hst := fst_len (by first
                   | exact FSt.step (lf := w1.heap.size) HSF.out hbc hbl hga hown1 hbl2 hgb hown2 (by have := hga.size; have := hbl.size; omega) (.inr ⟨Nat.le_refl _, by first | exact blk_new' rfl _ | exact blk_new1 rfl _ _⟩)
                   | exact FSt.step (lf := wo.heap.size) HSF.out hbc hbl hga hown1 hbl2 hgb hown2 (Nat.le_refl _) (.inl (by rw [drew_heap]; first | exact blk_new' rfl _ | exact blk_new1 rfl _ _ | exact blk_new2 rfl _ _ _))
                   | exact FSt.step (lf := wo.heap.size + 1) HSF.out hbc hbl hga hown1 hbl2 hgb hown2 (Nat.le_succ _) (.inl (by rw [drew_heap]; first | exact blk_new' (by simp) _ | exact blk_new1 (by simp) _ _ | exact blk_new2 (by simp) _ _ _)))
                 clear hown1 hga hat1 hbl hgm1 hgc1 HB hown2 hgb hat2 hbl2 hownH hownI hq5 hq6 hf5 hf6 hgm2 hc5 hc6 hc5' hc6' hc5'' hc6''
                 obtain ⟨sv', iv', rs', e5, e6, hS'⟩ := hst
                 clear HSF HLO hbi hwo hAlt hlt1
                 go_wp2_with fail
                 go_meet
                 exact ⟨sv', iv', rs', hS'⟩
               exact EachD.nil
             exact EachD.nil
           exact EachD.nil
         exact EachD.nil
       refine EachD.cons rfl (fun K hK => ?_) ?_
       · go_simp
         refine hK _ _ (fun _ => by first | exact fillS (by first | exact (below1 _ _).drew | exact (below2 _ _ _).drew | exact (below3 _ _ _ _).drew) hbi | exact fillS (by first | exact Below.refl _ _ | exact below1 _ _ | exact below2 _ _ _) hgm1) ?_
         clear hK K
         refine wpAnyD_each (rs := [6, 13]) (by kernel_rfl) (by simp) ?_
         refine EachD.cons rfl (fun K hK => ?_) ?_
         · go_simp
           refine hK _ _ (fun _ => by first | exact fillS (by first | exact (below1 _ _).drew | exact (below2 _ _ _).drew | exact (below3 _ _ _ _).drew) hbi | exact fillS (by first | exact Below.refl _ _ | exact below1 _ _ | exact below2 _ _ _) hgm1) ?_
           clear hK K
           refine wpAnyD_each (rs := [7, 13]) (by kernel_rfl) (by simp) ?_
           refine EachD.cons rfl (fun K hK => ?_) ?_
           · (refine step_append_one _ rfl (.tmp 21) (.tmp 22) (.const (.slice none 0 0)) 53 rfl w.heap.size 56 i1 (.slice none 0 0) 24 Try.underlying53 hi1 ha1 hb1 hc1 rfl _ q (List.replicate q (.slice none 0 0)) (by rfl) (hownH.out _ (by refine Below.drew ?_; first | exact below1 _ _ | exact below2 _ _ _ | exact below3 _ _ _ _)) (by rfl) (by rfl) (fun j u hj => by rw [World.cell?_drew]; first | exact cells_new' (by simp) _ _ _ _ hj | exact cell_new1 (by simp) _ _ _ _ _ hj | exact cell_new2 (by simp) _ _ _ _ _ _ hj) (by rfl) (q + 1) rfl (by unfold maxLen; omega) (by omega) (by simp; omega) ?_; intro A1 c1 w1 hown1 hga hat1; have hbl := belo_of hga (w0 := wo) (by refine Below.drew ?_; first | exact below1 _ _ | exact below2 _ _ _ | exact below3 _ _ _ _); have hgm1 : w1.heap[bc]? = _ := (hga.block bc (Nat.lt_of_lt_of_le hwo hbl.size) (fun e => by have := HLO.out.1 _ e.symm; omega)).trans ((hbl.block _ hwo).trans hbi); have hgc1 := blk_cell hgm1 (i := 6) rfl; have hlt1 := blk_lt hgm1; have HB := Lib.hid (fil_i1 hownI.out (hownH.out _ hbl) hbl hga))
             try go_simp
             refine hK _ _ (fun _ => fillS (by first | exact Below.refl _ _ | exact below1 _ _ | exact below2 _ _ _) hgm1) ?_
             clear hK K
             refine wpAnyD_each (rs := [13]) (by kernel_rfl) (by simp) ?_
             refine EachD.cons rfl (fun K hK => ?_) ?_
             · go_simp
               refine hK _ _ (fun _ => by first | exact fillS (by first | exact (below1 _ _).drew | exact (below2 _ _ _).drew | exact (below3 _ _ _ _).drew) hbi | exact fillS (by first | exact Below.refl _ _ | exact below1 _ _ | exact below2 _ _ _) hgm1) ?_
               clear hK K
               refine wpAnyD_each (rs := [14]) (by kernel_rfl) (by simp) ?_
               refine EachD.cons rfl (fun K hK => ?_) ?_
               · (refine step_append_one _ rfl (.tmp 27) (.tmp 29) (.tmp 28) 144 rfl w.heap.size 206 i2 (.map none) 8 Try.underlying144 hi2 ha2 hb2 hc2 rfl _ q (rs.map fun r => .map (some r)) (by rfl) (HB.out _ (by first | exact Below.refl _ _ | exact below1 _ _ | exact below2 _ _ _)) (by rfl) (by rfl) (fun j u hj => by first | exact cells_new' (by simp) _ _ _ _ hj | exact cell_after hga hAlt _ _ _ (by omega) (by rw [World.cell?_drew]; first | exact cells_new' (by simp) _ _ _ _ hj | exact cell_new1 (by simp) _ _ _ _ _ hj)) (by rfl) (q + 1) rfl (by unfold maxLen; omega) (by omega) (by have := hga.size; have := hbl.size; simp; omega) ?_; intro A2 c2 w2 hown2 hgb hat2; have hbl2 := belo_of hgb (w0 := w1) (by first | exact Below.refl _ _ | exact below1 _ _ | exact below2 _ _ _); have hgm2 : w2.heap[bc]? = _ := (hgb.block bc (Nat.lt_of_lt_of_le hlt1 hbl2.size) (fun e => by have := HLO.out.2 _ e.symm; omega)).trans ((hbl2.block _ hlt1).trans hgm1); have hq5 := blk_cell hgm2 (i := 5) rfl; have hq6 := blk_cell hgm2 (i := 6) rfl; have hf5 : w2.frozen? ⟨bc, 5, none⟩ = false := blk_free hgm2; have hf6 : w2.frozen? ⟨bc, 6, none⟩ = false := blk_free hgm2)
                 try go_simp
                 refine hK _ _ (fun e => Bool.noConfusion (show true = false from e)) ?_
                 clear hK K
                 refine wpAnyD_of _ _ _ _ (by kernel_rfl) ?_
                 refine wpAny_take (i := 15) (v := ?_) rfl (by kernel_rfl) (by kernel_rfl) (by kernel_rfl) (fun _ _ _ h => h) (Or.inl ⟨by rfl, ?_⟩) ?_
                 rotate_left
                 · (intro w'; go_simp; first | done | with_reducible rfl)
                 refine wpAny_take (i := 16) (v := ?_) rfl (by kernel_rfl) (by kernel_rfl) (by kernel_rfl) (fun _ _ _ h => h) (Or.inl ⟨by rfl, ?_⟩) ?_
                 rotate_left
                 · (intro w'; go_simp; first | done | with_reducible rfl)
                 refine wpAny_ready (rs := [17]) (by kernel_rfl) (by simp) ?_
                 refine AllReady.cons rfl (fun K hK => ?_) AllReady.nil
                 go_simp
                 refine hK _ _ ?_
                 clear hK K
                 refine wpAny_take (i := 18) (v := ?_) rfl (by kernel_rfl) (by kernel_rfl) (by kernel_rfl) (fun _ _ _ h => h) (Or.inl ⟨by rfl, ?_⟩) ?_
                 rotate_left
                 · (intro w'; go_simp; first | done | with_reducible rfl)
                 refine wpAny_take (i := 19) (v := ?_) rfl (by kernel_rfl) (by kernel_rfl) (by kernel_rfl) (fun _ _ _ h => h) (Or.inl ⟨by rfl, ?_⟩) ?_
                 rotate_left
                 · (intro w'; go_simp; first | done | with_reducible rfl)
                 refine wpAny_ready (rs := [20]) (by kernel_rfl) (by simp) ?_
                 refine AllReady.cons rfl (fun K hK => ?_) AllReady.nil
                 go_simp
                 refine hK _ _ ?_
                 clear hK K
                 refine wpAny_done (by kernel_rfl) ?_ _
                 have hst := fst_len (by first
                   | exact FSt.step (lf := w1.heap.size) HSF.out hbc hbl hga hown1 hbl2 hgb hown2 (by have := hga.size; have := hbl.size; omega) (.inr ⟨Nat.le_refl _, by first | exact blk_new' rfl _ | exact blk_new1 rfl _ _⟩)
                   | exact FSt.step (lf := wo.heap.size) HSF.out hbc hbl hga hown1 hbl2 hgb hown2 (Nat.le_refl _) (.inl (by rw [drew_heap]; first | exact blk_new' rfl _ | exact blk_new1 rfl _ _ | exact blk_new2 rfl _ _ _))
                   | exact FSt.step (lf := wo.heap.size + 1) HSF.out hbc hbl hga hown1 hbl2 hgb hown2 (Nat.le_succ _) (.inl (by rw [drew_heap]; first | exact blk_new' (by simp) _ | exact blk_new1 (by simp) _ _ | exact blk_new2 (by simp) _ _ _)))
                 clear hown1 hga hat1 hbl hgm1 hgc1 HB hown2 hgb hat2 hbl2 hownH hownI hq5 hq6 hf5 hf6 hgm2 hc5 hc6 hc5' hc6' hc5'' hc6''
                 obtain ⟨sv', iv', rs', e5, e6, hS'⟩ := hst
                 clear HSF HLO hbi hwo hAlt hlt1
                 go_wp2_with fail
                 go_meet
                 exact ⟨sv', iv', rs', hS'⟩
               exact EachD.nil
             exact EachD.nil
           refine EachD.cons rfl (fun K hK => ?_) ?_
           · go_simp
             refine hK _ _ (fun _ => by first | exact fillS (by first | exact (below1 _ _).drew | exact (below2 _ _ _).drew | exact (below3 _ _ _ _).drew) hbi | exact fillS (by first | exact Below.refl _ _ | exact below1 _ _ | exact below2 _ _ _) hgm1) ?_
             clear hK K
             refine wpAnyD_each (rs := [7]) (by kernel_rfl) (by simp) ?_
             refine EachD.cons rfl (fun K hK => ?_) ?_
             · (refine step_append_one _ rfl (.tmp 21) (.tmp 22) (.const (.slice none 0 0)) 53 rfl w.heap.size 56 i1 (.slice none 0 0) 24 Try.underlying53 hi1 ha1 hb1 hc1 rfl _ q (List.replicate q (.slice none 0 0)) (by rfl) (hownH.out _ (by refine Below.drew ?_; first | exact below1 _ _ | exact below2 _ _ _ | exact below3 _ _ _ _)) (by rfl) (by rfl) (fun j u hj => by rw [World.cell?_drew]; first | exact cells_new' (by simp) _ _ _ _ hj | exact cell_new1 (by simp) _ _ _ _ _ hj | exact cell_new2 (by simp) _ _ _ _ _ _ hj) (by rfl) (q + 1) rfl (by unfold maxLen; omega) (by omega) (by simp; omega) ?_; intro A1 c1 w1 hown1 hga hat1; have hbl := belo_of hga (w0 := wo) (by refine Below.drew ?_; first | exact below1 _ _ | exact below2 _ _ _ | exact below3 _ _ _ _); have hgm1 : w1.heap[bc]? = _ := (hga.block bc (Nat.lt_of_lt_of_le hwo hbl.size) (fun e => by have := HLO.out.1 _ e.symm; omega)).trans ((hbl.block _ hwo).trans hbi); have hgc1 := blk_cell hgm1 (i := 6) rfl; have hlt1 := blk_lt hgm1; have HB := Lib.hid (fil_i1 hownI.out (hownH.out _ hbl) hbl hga))
               try go_simp
               refine hK _ _ (fun _ => fillS (by first | exact Below.refl _ _ | exact below1 _ _ | exact below2 _ _ _) hgm1) ?_
               clear hK K
               refine wpAnyD_each (rs := [14]) (by kernel_rfl) (by simp) ?_
               refine EachD.cons rfl (fun K hK => ?_) ?_
               · (refine step_append_one _ rfl (.tmp 27) (.tmp 29) (.tmp 28) 144 rfl w.heap.size 206 i2 (.map none) 8 Try.underlying144 hi2 ha2 hb2 hc2 rfl _ q (rs.map fun r => .map (some r)) (by rfl) (HB.out _ (by first | exact Below.refl _ _ | exact below1 _ _ | exact below2 _ _ _)) (by rfl) (by rfl) (fun j u hj => by first | exact cells_new' (by simp) _ _ _ _ hj | exact cell_after hga hAlt _ _ _ (by omega) (by rw [World.cell?_drew]; first | exact cells_new' (by simp) _ _ _ _ hj | exact cell_new1 (by simp) _ _ _ _ _ hj)) (by rfl) (q + 1) rfl (by unfold maxLen; omega) (by omega) (by have := hga.size; have := hbl.size; simp; omega) ?_; intro A2 c2 w2 hown2 hgb hat2; have hbl2 := belo_of hgb (w0 := w1) (by first | exact Below.refl _ _ | exact below1 _ _ | exact below2 _ _ _); have hgm2 : w2.heap[bc]? = _ := (hgb.block bc (Nat.lt_of_lt_of_le hlt1 hbl2.size) (fun e => by have := HLO.out.2 _ e.symm; omega)).trans ((hbl2.block _ hlt1).trans hgm1); have hq5 := blk_cell hgm2 (i := 5) rfl; have hq6 := blk_cell hgm2 (i := 6) rfl; have hf5 : w2.frozen? ⟨bc, 5, none⟩ = false := blk_free hgm2; have hf6 : w2.frozen? ⟨bc, 6, none⟩ = false := blk_free hgm2)
                 try go_simp
                 refine hK _ _ (fun e => Bool.noConfusion (show true = false from e)) ?_
                 clear hK K
                 refine wpAnyD_of _ _ _ _ (by kernel_rfl) ?_
                 refine wpAny_take (i := 15) (v := ?_) rfl (by kernel_rfl) (by kernel_rfl) (by kernel_rfl) (fun _ _ _ h => h) (Or.inl ⟨by rfl, ?_⟩) ?_
                 rotate_left
                 · (intro w'; go_simp; first | done | with_reducible rfl)
                 refine wpAny_take (i := 16) (v := ?_) rfl (by kernel_rfl) (by kernel_rfl) (by kernel_rfl) (fun _ _ _ h => h) (Or.inl ⟨by rfl, ?_⟩) ?_
                 rotate_left
                 · (intro w'; go_simp; first | done | with_reducible rfl)
                 refine wpAny_ready (rs := [17]) (by kernel_rfl) (by simp) ?_
                 refine AllReady.cons rfl (fun K hK => ?_) AllReady.nil
                 go_simp
                 refine hK _ _ ?_
                 clear hK K
                 refine wpAny_take (i := 18) (v := ?_) rfl (by kernel_rfl) (by kernel_rfl) (by kernel_rfl) (fun _ _ _ h => h) (Or.inl ⟨by rfl, ?_⟩) ?_
                 rotate_left
                 · (intro w'; go_simp; first | done | with_reducible rfl)
                 refine wpAny_take (i := 19) (v := ?_) rfl (by kernel_rfl) (by kernel_rfl) (by kernel_rfl) (fun _ _ _ h => h) (Or.inl ⟨by rfl, ?_⟩) ?_
                 rotate_left
                 · (intro w'; go_simp; first | done | with_reducible rfl)
                 refine wpAny_ready (rs := [20]) (by kernel_rfl) (by simp) ?_
                 refine AllReady.cons rfl (fun K hK => ?_) AllReady.nil
                 go_simp
                 refine hK _ _ ?_
                 clear hK K
                 refine wpAny_done (by kernel_rfl) ?_ _
                 have hst := fst_len (by first
                   | exact FSt.step (lf := w1.heap.size) HSF.out hbc hbl hga hown1 hbl2 hgb hown2 (by have := hga.size; have := hbl.size; omega) (.inr ⟨Nat.le_refl _, by first | exact blk_new' rfl _ | exact blk_new1 rfl _ _⟩)
                   | exact FSt.step (lf := wo.heap.size) HSF.out hbc hbl hga hown1 hbl2 hgb hown2 (Nat.le_refl _) (.inl (by rw [drew_heap]; first | exact blk_new' rfl _ | exact blk_new1 rfl _ _ | exact blk_new2 rfl _ _ _))
                   | exact FSt.step (lf := wo.heap.size + 1) HSF.out hbc hbl hga hown1 hbl2 hgb hown2 (Nat.le_succ _) (.inl (by rw [drew_heap]; first | exact blk_new' (by simp) _ | exact blk_new1 (by simp) _ _ | exact blk_new2 (by simp) _ _ _)))
                 clear hown1 hga hat1 hbl hgm1 hgc1 HB hown2 hgb hat2 hbl2 hownH hownI hq5 hq6 hf5 hf6 hgm2 hc5 hc6 hc5' hc6' hc5'' hc6''
                 obtain ⟨sv', iv', rs', e5, e6, hS'⟩ := hst
                 clear HSF HLO hbi hwo hAlt hlt1
                 go_wp2_with fail
                 go_meet
                 exact ⟨sv', iv', rs', hS'⟩
               exact EachD.nil
             exact EachD.nil
           exact EachD.nil
         refine EachD.cons rfl (fun K hK => ?_) ?_
         · go_simp
           refine hK _ _ (fun _ => by first | exact fillS (by first | exact (below1 _ _).drew | exact (below2 _ _ _).drew | exact (below3 _ _ _ _).drew) hbi | exact fillS (by first | exact Below.refl _ _ | exact below1 _ _ | exact below2 _ _ _) hgm1) ?_
           clear hK K
           refine wpAnyD_each (rs := [6]) (by kernel_rfl) (by simp) ?_
           refine EachD.cons rfl (fun K hK => ?_) ?_
           · go_simp
             refine hK _ _ (fun _ => by first | exact fillS (by first | exact (below1 _ _).drew | exact (below2 _ _ _).drew | exact (below3 _ _ _ _).drew) hbi | exact fillS (by first | exact Below.refl _ _ | exact below1 _ _ | exact below2 _ _ _) hgm1) ?_
             clear hK K
             refine wpAnyD_each (rs := [7]) (by kernel_rfl) (by simp) ?_
             refine EachD.cons rfl (fun K hK => ?_) ?_
             · (refine step_append_one _ rfl (.tmp 21) (.tmp 22) (.const (.slice none 0 0)) 53 rfl w.heap.size 56 i1 (.slice none 0 0) 24 Try.underlying53 hi1 ha1 hb1 hc1 rfl _ q (List.replicate q (.slice none 0 0)) (by rfl) (hownH.out _ (by refine Below.drew ?_; first | exact below1 _ _ | exact below2 _ _ _ | exact below3 _ _ _ _)) (by rfl) (by rfl) (fun j u hj => by rw [World.cell?_drew]; first | exact cells_new' (by simp) _ _ _ _ hj | exact cell_new1 (by simp) _ _ _ _ _ hj | exact cell_new2 (by simp) _ _ _ _ _ _ hj) (by rfl) (q + 1) rfl (by unfold maxLen; omega) (by omega) (by simp; omega) ?_; intro A1 c1 w1 hown1 hga hat1; have hbl := belo_of hga (w0 := wo) (by refine Below.drew ?_; first | exact below1 _ _ | exact below2 _ _ _ | exact below3 _ _ _ _); have hgm1 : w1.heap[bc]? = _ := (hga.block bc (Nat.lt_of_lt_of_le hwo hbl.size) (fun e => by have := HLO.out.1 _ e.symm; omega)).trans ((hbl.block _ hwo).trans hbi); have hgc1 := blk_cell hgm1 (i := 6) rfl; have hlt1 := blk_lt hgm1; have HB := Lib.hid (fil_i1 hownI.out (hownH.out _ hbl) hbl hga))
               try go_simp
               refine hK _ _ (fun _ => fillS (by first | exact Below.refl _ _ | exact below1 _ _ | exact below2 _ _ _) hgm1) ?_
               clear hK K
               refine wpAnyD_each (rs := [14]) (by kernel_rfl) (by simp) ?_
               refine EachD.cons rfl (fun K hK => ?_) ?_
               · (refine step_append_one _ rfl (.tmp 27) (.tmp 29) (.tmp 28) 144 rfl w.heap.size 206 i2 (.map none) 8 Try.underlying144 hi2 ha2 hb2 hc2 rfl _ q (rs.map fun r => .map (some r)) (by rfl) (HB.out _ (by first | exact Below.refl _ _ | exact below1 _ _ | exact below2 _ _ _)) (by rfl) (by rfl) (fun j u hj => by first | exact cells_new' (by simp) _ _ _ _ hj | exact cell_after hga hAlt _ _ _ (by omega) (by rw [World.cell?_drew]; first | exact cells_new' (by simp) _ _ _ _ hj | exact cell_new1 (by simp) _ _ _ _ _ hj)) (by rfl) (q + 1) rfl (by unfold maxLen; omega) (by omega) (by have := hga.size; have := hbl.size; simp; omega) ?_; intro A2 c2 w2 hown2 hgb hat2; have hbl2 := belo_of hgb (w0 := w1) (by first | exact Below.refl _ _ | exact below1 _ _ | exact below2 _ _ _); have hgm2 : w2.heap[bc]? = _ := (hgb.block bc (Nat.lt_of_lt_of_le hlt1 hbl2.size) (fun e => by have := HLO.out.2 _ e.symm; omega)).trans ((hbl2.block _ hlt1).trans hgm1); have hq5 := blk_cell hgm2 (i := 5) rfl; have hq6 := blk_cell hgm2 (i := 6) rfl; have hf5 : w2.frozen? ⟨bc, 5, none⟩ = false := blk_free hgm2; have hf6 : w2.frozen? ⟨bc, 6, none⟩ = false := blk_free hgm2)
                 try go_simp
                 refine hK _ _ (fun e => Bool.noConfusion (show true = false from e)) ?_
                 clear hK K
                 refine wpAnyD_of _ _ _ _ (by kernel_rfl) ?_
                 refine wpAny_take (i := 15) (v := ?_) rfl (by kernel_rfl) (by kernel_rfl) (by kernel_rfl) (fun _ _ _ h => h) (Or.inl ⟨by rfl, ?_⟩) ?_
                 rotate_left
                 · (intro w'; go_simp; first | done | with_reducible rfl)
                 refine wpAny_take (i := 16) (v := ?_) rfl (by kernel_rfl) (by kernel_rfl) (by kernel_rfl) (fun _ _ _ h => h) (Or.inl ⟨by rfl, ?_⟩) ?_
                 rotate_left
                 · (intro w'; go_simp; first | done | with_reducible rfl)
                 refine wpAny_ready (rs := [17]) (by kernel_rfl) (by simp) ?_
                 refine AllReady.cons rfl (fun K hK => ?_) AllReady.nil
                 go_simp
                 refine hK _ _ ?_
                 clear hK K
                 refine wpAny_take (i := 18) (v := ?_) rfl (by kernel_rfl) (by kernel_rfl) (by kernel_rfl) (fun _ _ _ h => h) (Or.inl ⟨by rfl, ?_⟩) ?_
                 rotate_left
                 · (intro w'; go_simp; first | done | with_reducible rfl)
                 refine wpAny_take (i := 19) (v := ?_) rfl (by kernel_rfl) (by kernel_rfl) (by kernel_rfl) (fun _ _ _ h => h) (Or.inl ⟨by rfl, ?_⟩) ?_
                 rotate_left
                 · (intro w'; go_simp; first | done | with_reducible rfl)
                 refine wpAny_ready (rs := [20]) (by kernel_rfl) (by simp) ?_
                 refine AllReady.cons rfl (fun K hK => ?_) AllReady.nil
                 go_simp
                 refine hK _ _ ?_
                 clear hK K
                 refine wpAny_done (by kernel_rfl) ?_ _
                 have hst := fst_len (by first
                   | exact FSt.step (lf := w1.heap.size) HSF.out hbc hbl hga hown1 hbl2 hgb hown2 (by have := hga.size; have := hbl.size; omega) (.inr ⟨Nat.le_refl _, by first | exact blk_new' rfl _ | exact blk_new1 rfl _ _⟩)
                   | exact FSt.step (lf := wo.heap.size) HSF.out hbc hbl hga hown1 hbl2 hgb hown2 (Nat.le_refl _) (.inl (by rw [drew_heap]; first | exact blk_new' rfl _ | exact blk_new1 rfl _ _ | exact blk_new2 rfl _ _ _))
                   | exact FSt.step (lf := wo.heap.size + 1) HSF.out hbc hbl hga hown1 hbl2 hgb hown2 (Nat.le_succ _) (.inl (by rw [drew_heap]; first | exact blk_new' (by simp) _ | exact blk_new1 (by simp) _ _ | exact blk_new2 (by simp) _ _ _)))
                 clear hown1 hga hat1 hbl hgm1 hgc1 HB hown2 hgb hat2 hbl2 hownH hownI hq5 hq6 hf5 hf6 hgm2 hc5 hc6 hc5' hc6' hc5'' hc6''
                 obtain ⟨sv', iv', rs', e5, e6, hS'⟩ := hst
                 clear HSF HLO hbi hwo hAlt hlt1
                 go_wp2_with fail
                 go_meet
                 exact ⟨sv', iv', rs', hS'⟩
               exact EachD.nil
             exact EachD.nil
           exact EachD.nil
         exact EachD.nil
       exact EachD.nil
      case rest =>
      obtain ⟨sv', iv', rs', hS'⟩ := hcut
      have hlt := HLT.out
      clear HSF HLO hbi hwo hAlt hownH hownI hc5 hc6 hc5' hc6' hc5'' hc6''
      go_wp2
      go_roundg (x.length + 1 - (q + 1))
      case measure => omega
      case rel => exact ⟨q + 1, sv', iv', rs', by omega, rfl, by go_num, hS'⟩
    · obtain rfl : q = n1 := by have := HN1.out; omega
      have hpz : decide ((q : Int) < (x.length : Int) + 1) = false := by simp; omega
      obtain ⟨sb, sc, ib, ic, rfl, rfl, H0⟩ := hS.chart hbc (by have := HN1.out; omega) HR.out HX.out
      have HA := Lib.hid hS.away
      obtain ⟨D, h, r, H⟩ : ∃ D h r, EAt D wo w.heap.size bc g x A c B d q sb sc ib ic h r (fun _ => []) := ⟨_, _, _, H0⟩
      have HLOW := Lib.hid H.low
      have HE0 : EEnd D wo wo w.heap.size bc g x A c B d q sb sc ib ic r (initTo g 0) := EEnd.of H
      have c3 := blk_cell H.blk (i := 3) rfl
      clear hS hmm hi1 ha1 hb1 hc1 hi2 ha2 hb2 hc2 H H0 HR HX hq hlt
      go_wp2_with fail
      clear c3 hpz
      go_loopg [42] g.rules.length (fun gk i wr => ∃ p, p ≤ g.rules.length ∧ gk = g.rules.length - p ∧ i = .int .i64 p ∧ EEnd D wo wr w.heap.size bc g x A c B d q sb sc ib ic r (initTo g p))
      case atStart => exact ⟨0, by omega, by omega, rfl, HE0⟩
      case round =>
        clear HE0
        obtain ⟨p, hp, rfl, rfl, hE⟩ := hrel
        obtain ⟨D2, h2, k1, k2, k3, k4⟩ := hE
        by_cases hlt : p < g.rules.length
        · have hp64 : p ≤ 5000 := by omega
          obtain ⟨b, o, e5, hF5, hl5, hc11, A5, c5, hc12, hsy5⟩ := k2.rules.ruleAt p hlt
          subst e5
          have hqz : (p : Int) < (g.rules.length : Int) := by omega
          have hlb := blk_lt k2.blk
          have c2 := blk_cell k2.blk (i := 2) rfl
          have hadd : ∀ (W' : World) (hW' : Below wr.heap.size wr W'), Calls Try.prog 121 #[.pointer (some ⟨bc, 0, none⟩), .int .i64 0, .agg #[.int .i64 p, .int .i64 0, .int .i64 0]] W' fun e w' => e = .returned (.tuple #[]) ∧ EEnd D2 W' w' w.heap.size bc g x (some ⟨b, o, none⟩) c B d q sb sc ib ic r (addE (initTo g p) 0 (p, 0, 0)) := fun W' hW' => add_any 0 (p, 0, 0) W' (k2.below hW') (by have := HN1.out; omega) (by have := (initTo_ok (g := g) (x := x) p).len HV.out hm 0; unfold maxE at this; omega)
          have HADD := Lib.hid hadd
          have HSTEP : ∀ (wE : World) (S' : ESets), EEnd D2 wr wE w.heap.size bc g x (some ⟨b, o, none⟩) c B d q sb sc ib ic r S' → EEnd D wo wE w.heap.size bc g x (some ⟨b, o, none⟩) c B d q sb sc ib ic r S' := fun wE S' hE => EEnd.after k1 k3 k4 hE
          have HK2 := Lib.hid k2
          have hstep : initTo g (p + 1) = if g.rules[p].l = g.start then addE (initTo g p) 0 (p, 0, 0) else initTo g p := by
            show (if (g.rules[p]?.map (·.l)) = some g.start then _ else _) = _
            rw [List.getElem?_eq_getElem hlt]
            simp only [Option.map_some, Option.some.injEq]
          clear hadd k1 k2 k3 k4 hF5 hsy5
          generalize g.rules[p] = rq at hc11 hc12 hstep
          by_cases hln : rq.l = g.start
          · rw [if_pos hln] at hstep
            have hln' : (rq.l == g.start) = true := by simp [hln]
            have HST := Lib.hid hstep
            clear hstep hln
            go_wp2_with fail
            go_quiet (fail)
            go_wp2_with fail
            refine (HADD.out _ (below_drewN (below1 _ _) _)).mono ?_
            rintro e9 w9 ⟨rfl, hE9⟩
            go_wp2
            go_roundg (g.rules.length - (p + 1))
            case measure => omega
            case rel => exact ⟨p + 1, by omega, rfl, by go_num, by rw [HST.out]; exact HSTEP _ _ (EEnd.pre (below_drewN (below1 _ _) _) hE9)⟩
          · rw [if_neg hln] at hstep
            have hln' : (rq.l == g.start) = false := by simp [hln]
            have HST := Lib.hid hstep
            clear hstep hln
            go_wp2_with fail
            go_quiet (fail)
            go_wp2
            go_roundg (g.rules.length - (p + 1))
            case measure => omega
            case rel => exact ⟨p + 1, by omega, rfl, by go_num, by rw [HST.out]; exact HSTEP _ _ (EEnd.below (EEnd.of HK2.out) (below_drewN (below1 _ _) _))⟩
        · obtain rfl : p = g.rules.length := by omega
          obtain ⟨wp, rfl⟩ : ∃ wp : World, wp = wr := ⟨_, rfl⟩
          have c5 := blk_cell k2.blk (i := 5) rfl
          have HE1 : EEnd D2 wp wp w.heap.size bc g x A c B d q sb sc ib ic r (fillTo g x 0) := EEnd.of k2
          have HSTEP := Lib.hid (fun (wE : World) (S' : ESets) (hE : EEnd D2 wp wE w.heap.size bc g x A c B d q sb sc ib ic r S') => EEnd.after (A := A) (B := B) k1 k3 k4 hE)
          clear k1 k2 k3 k4
          go_wp2_with fail
          clear c5
          go_loopg [65] q (fun gk i wr => ∃ k, k ≤ q ∧ gk = q - k ∧ i = .int .i64 k ∧ EEnd D2 wp wr w.heap.size bc g x A c B d q sb sc ib ic r (fillTo g x k))
          case atStart => exact ⟨0, by omega, by omega, rfl, HE1⟩
          case round =>
            clear HE1
            obtain ⟨k, hk, rfl, rfl, hE⟩ := hrel
            obtain ⟨wk, rfl⟩ : ∃ wk : World, wk = wr := ⟨_, rfl⟩
            by_cases hlt : k < q
            · have hkz : (k : Int) < (q : Int) := by omega
              have hkx : k ≤ x.length := by have := HN1.out; omega
              have hk64 : k ≤ 12 := by omega
              go_wp2_with fail
              go_loopg [5] (maxE + 1) (fun gk i wr => ∃ (a : Nat) (S' : ESets), a ≤ maxE ∧ gk = maxE + 1 - a ∧ i = .int .i64 a ∧ EOk g x S' ∧ EEnd D2 wp wr w.heap.size bc g x A c B d q sb sc ib ic r S' ∧ procE g x k (maxE + 1 - a) a S' = fillTo g x (k + 1))
              case atStart => exact ⟨0, _, Nat.zero_le _, rfl, rfl, fillTo_ok k, hE, rfl⟩
              case round =>
                clear hE
                obtain ⟨a, S', ha, rfl, rfl, hok, hE, hpr⟩ := hrel
                obtain ⟨wa, rfl⟩ : ∃ wa : World, wa = wr := ⟨_, rfl⟩
                obtain ⟨D3, h3, k1, k2, k3, k4⟩ := hE
                have c5 := blk_cell k2.blk (i := 5) rfl
                have cs := k2.setCell hlt
                by_cases hal : a < (S' k).length
                · have ha64 : a ≤ 2080 := by unfold maxE at ha; omega
                  have haz : (a : Int) < ((S' k).length : Int) := by omega
                  obtain ⟨b8, e8, d0, d1, d2⟩ := k2.itemAt hlt hal
                  rw [e8] at cs
                  have hzm : (S' k)[a] ∈ S' k := List.getElem_mem hal
                  have hza : (S' k)[a]? = some (S' k)[a] := List.getElem?_eq_getElem hal
                  obtain ⟨r0, hr0, hdl, hdv⟩ := hok.ok k _ hzm
                  have hstp : stepE g x k (S' k)[a] S' = match r0.r[(S' k)[a].2.1]? with | none => compE g k (S' k)[a] S' | some y => if y.t = false then predE g k y.n (S' k)[a] S' else if x[k]? = some y.n then addE S' (k + 1) ((S' k)[a].1, (S' k)[a].2.1 + 1, (S' k)[a].2.2) else S' := by
                    unfold stepE
                    rw [hr0]
                    try rfl
                  have hok2 : EOk g x (stepE g x k (S' k)[a] S') := stepE_ok hok hzm
                  have hpr2 : procE g x k (maxE + 1 - (a + 1)) (a + 1) (stepE g x k (S' k)[a] S') = fillTo g x (k + 1) := by
                    rw [← hpr, show maxE + 1 - a = (maxE + 1 - (a + 1)) + 1 by omega]
                    show _ = (match (S' k)[a]? with | none => S' | some z => _)
                    rw [hza]
                  have haE : a + 1 ≤ maxE := by have := hok.len HV.out hm k; omega
                  have HLEN := Lib.hid (fun j => hok.len HV.out hm j)
                  generalize (S' k)[a] = z at d0 d1 d2 hzm hr0 hdl hstp hok2 hpr2
                  clear hza hpr hdv ha hal
                  obtain ⟨z1, z2, z3⟩ := z
                  simp only at d0 d1 d2 hr0 hdl hstp hok2 hpr2
                  have hz4 : z2 ≤ 4 := by have := okz_small HV.out hm (hok.ok k _ hzm); simp only at this; omega
                  obtain ⟨hz1, hz2⟩ := List.getElem?_eq_some_iff.1 hr0
                  obtain ⟨b, o, e5, hF5, hl5, hc11, A5, c5', hc12, hsy5⟩ := k2.rules.ruleAt z1 hz1
                  subst e5
                  rw [hz2] at hc11 hc12 hsy5
                  have hlr := (HV.out.ok r0 (List.mem_of_getElem? hr0)).len
                  have c3 := blk_cell k2.blk (i := 3) rfl
                  have c4 := blk_cell k2.blk (i := 4) rfl
                  have hlb := blk_lt k2.blk
                  have hz1z : (z1 : Int) < (g.rules.length : Int) := by omega
                  have HNEXT := Lib.hid (fun (wE : World) (hE : EEnd D3 wa wE w.heap.size bc g x (some ⟨b, o, none⟩) c B d q sb sc ib ic r (stepE g x k (z1, z2, z3) S')) => EEnd.after (A := some ⟨b, o, none⟩) (B := B) k1 k3 k4 hE)
                  have hwrd := k2.word
                  have HK2 := Lib.hid k2
                  have HST := Lib.hid hstp
                  have HOK := Lib.hid hok
                  have HOK2 := Lib.hid hok2
                  have HPR := Lib.hid hpr2
                  have HZM := Lib.hid hzm
                  have HR0 := Lib.hid hr0
                  clear k1 k2 k3 k4 hstp hok hok2 hpr2 hzm hr0 hz2 hF5
                  by_cases hdot : z2 = r0.r.length
                  · have hq2 : ((z2 : Int) == (r0.r.length : Int)) = true := by simp [hdot]
                    have hcomp := fun (W' : World) (hW' : Below wa.heap.size wa W') => complete_any k (z1, z2, z3) W' (HK2.out.below hW') HV.out hm HOK.out hkx HN1.out HZM.out r0 HR0.out hdot
                    unfold itemV at hcomp
                    have HC := Lib.hid hcomp
                    have HST2 : stepE g x k (z1, z2, z3) S' = compE g k (z1, z2, z3) S' := by
                      rw [HST.out, List.getElem?_eq_none (by omega)]
                    have HST := Lib.hid HST2
                    clear hcomp HST2 hdot
                    go_wp2_with fail
                    go_region
                    go_wp2_with fail
                    refine (HC.out _ (below2 _ _ _).drew).mono ?_
                    rintro e9 w9 ⟨rfl, hE9⟩
                    go_wp2
                    go_roundg (maxE + 1 - (a + 1))
                    case measure => omega
                    case rel => exact ⟨a + 1, _, haE, rfl, by go_num, HOK2.out, HNEXT.out _ (by rw [HST.out]; exact EEnd.pre (below2 _ _ _).drew hE9), HPR.out⟩
                  · have hq2 : ((z2 : Int) == (r0.r.length : Int)) = false := by simp; omega
                    have hlt2 : z2 < r0.r.length := by omega
                    have hez : (z2 : Int) < (r0.r.length : Int) := by omega
                    obtain ⟨b6, o6, rfl, hF6, hl6, hc13, hc14⟩ := hsy5.symAt z2 hlt2
                    have hsome := List.getElem?_eq_getElem hlt2
                    generalize r0.r[z2] = ye at hc13 hc14 hsome
                    obtain ⟨yt, yn⟩ := ye
                    have HST2 := HST.out
                    rw [hsome] at HST2
                    simp only at HST2
                    clear hsome hsy5 hdot
                    cases yt
                    · have hpred := fun (W' : World) (hW' : Below wa.heap.size wa W') => predict_any k yn (z1, z2, z3) W' (HK2.out.below hW') HV.out hm HOK.out hkx HN1.out HZM.out
                      unfold itemV at hpred
                      have HP := Lib.hid hpred
                      have HST3 : stepE g x k (z1, z2, z3) S' = predE g k yn (z1, z2, z3) S' := HST2.trans (if_pos rfl)
                      have HST := Lib.hid HST3
                      clear hpred HST2 HST3
                      go_wp2_with fail
                      go_region
                      go_wp2_with fail
                      go_region_law (first | (refine step_call rfl 123 Try.f123 Try.func123 (by kernel_rfl) (by kernel_rfl) [_, _, _, _] _ rfl [.pointer (some ⟨bc, 0, none⟩), .int .i64 k, .int .i64 yn, .agg #[.int .i64 z1, .int .i64 z2, .int .i64 z3]] rfl _ (HP.out _ (below2 _ _ _).drew.drew) ?_; rintro e8 w8 ⟨rfl, hE9⟩; refine ⟨_, rfl, ?_⟩))
                      all_goals
                        go_wp2
                        go_roundg (maxE + 1 - (a + 1))
                        case measure => omega
                        case rel => exact ⟨a + 1, _, haE, rfl, by go_num, HOK2.out, HNEXT.out _ (by rw [HST.out]; exact EEnd.pre (below2 _ _ _).drew.drew hE9), HPR.out⟩
                    · have HST3 : stepE g x k (z1, z2, z3) S' = if x[k]? = some yn then addE S' (k + 1) (z1, z2 + 1, z3) else S' := HST2.trans (if_neg (by simp))
                      clear HST2
                      by_cases hkx2 : k < x.length
                      · obtain ⟨b7, o7, rfl, hF7, hl7, hw7⟩ := hwrd.oneAt k hkx2
                        have hkxz : (k : Int) < (x.length : Int) := by omega
                        rw [List.getElem?_eq_getElem hkx2] at HST3
                        generalize x[k] = xk at hw7 HST3
                        by_cases hxy : xk = yn
                        · have hxy' : (xk == yn) = true := by simp [hxy]
                          have hadd := fun (W' : World) (hW' : Below wa.heap.size wa W') => add_any (k + 1) (z1, z2 + 1, z3) W' (HK2.out.below hW') (by have := HN1.out; omega) (by have := HLEN.out (k + 1); unfold maxE at this; omega)
                          unfold itemV at hadd
                          simp only [Int.natCast_add, Int.natCast_one] at hadd
                          have HADD := Lib.hid hadd
                          rw [if_pos (by rw [hxy])] at HST3
                          have HST := Lib.hid HST3
                          clear hadd HST3 hxy
                          go_wp2_with fail
                          go_region
                          go_wp2_with fail
                          go_quiet (fail)
                          go_wp2_with fail
                          refine (HADD.out _ (by first | exact below_drewN (below2 _ _ _) _ | exact below_drewN (below2 _ _ _).drew _ | exact (below2 _ _ _).drew.drew)).mono ?_
                          rintro e9 w9 ⟨rfl, hE9⟩
                          go_wp2
                          go_roundg (maxE + 1 - (a + 1))
                          case measure => omega
                          case rel => exact ⟨a + 1, _, haE, rfl, by go_num, HOK2.out, HNEXT.out _ (by rw [HST.out]; exact EEnd.pre (by first | exact below_drewN (below2 _ _ _) _ | exact below_drewN (below2 _ _ _).drew _ | exact (below2 _ _ _).drew.drew) hE9), HPR.out⟩
                        · have hxy' : (xk == yn) = false := by simp [hxy]
                          rw [if_neg (by intro e; injection e with e; exact hxy e)] at HST3
                          have HST := Lib.hid HST3
                          clear HST3
                          go_wp2_with fail
                          go_region
                          go_wp2_with fail
                          go_quiet (fail)
                          go_wp2
                          go_roundg (maxE + 1 - (a + 1))
                          case measure => omega
                          case rel => exact ⟨a + 1, _, haE, rfl, by go_num, HOK2.out, HNEXT.out _ (by rw [HST.out]; exact EEnd.below (EEnd.of HK2.out) (by first | exact below_drewN (below2 _ _ _) _ | exact below_drewN (below2 _ _ _).drew _ | exact (below2 _ _ _).drew.drew)), HPR.out⟩
                      · have hkxz : decide ((k : Int) < (x.length : Int)) = false := by simp; omega
                        rw [List.getElem?_eq_none (by omega), if_neg (by simp)] at HST3
                        have HST := Lib.hid HST3
                        clear HST3
                        go_wp2_with fail
                        go_region
                        go_wp2_with fail
                        go_quiet (fail)
                        go_wp2
                        go_roundg (maxE + 1 - (a + 1))
                        case measure => omega
                        case rel => exact ⟨a + 1, _, haE, rfl, by go_num, HOK2.out, HNEXT.out _ (by rw [HST.out]; exact EEnd.below (EEnd.of HK2.out) (by first | exact below_drewN (below2 _ _ _) _ | exact below_drewN (below2 _ _ _).drew _ | exact (below2 _ _ _).drew.drew)), HPR.out⟩
                · have hnone : (S' k)[a]? = none := List.getElem?_eq_none (Nat.le_of_not_lt hal)
                  have hS : S' = fillTo g x (k + 1) := by
                    rw [← hpr, show maxE + 1 - a = (maxE - a) + 1 by omega]
                    show _ = (match (S' k)[a]? with | none => S' | some z => _)
                    rw [hnone]
                  have HS := Lib.hid hS
                  have HE := Lib.hid (show EEnd D2 wp wa w.heap.size bc g x A c B d q sb sc ib ic r S' from ⟨D3, h3, k1, k2, k3, k4⟩)
                  clear hS hnone hpr k1 k2 k3 k4
                  go_wp2
                  go_roundg (q - (k + 1))
                  case measure => omega
                  case rel => exact ⟨k + 1, by omega, rfl, by go_num, by rw [← HS.out]; exact HE.out⟩
            · obtain rfl : k = q := by omega
              have hfill : fillTo g x k = fillE g x := by unfold fillE; rw [← HN1.out]
              rw [hfill] at hE
              have hE2 := HSTEP.out _ _ hE
              clear hE hfill
              go_wp2
              refine bodyPost_end (v := .tuple #[]) (by kernel_rfl) rfl ⟨rfl, ?_⟩
              obtain ⟨D4, h4, a1, a2, a3, a4⟩ := hE2
              have hsz := HA.out.size
              exact ⟨D4, sb, sc, ib, ic, h4, r, HA.out.trans ⟨a1.os, a1.tape, a1.output, a1.size, fun j hj hf => a1.block j (by omega) fun hd => by have := HLOW.out _ hd; omega⟩, a2⟩
end Go.Proofs.Ytcndbohiiodndaa
