import Derived.Test.YtdbkbkopcnkgcaaTreeK
open Go Go.RowKit
namespace Go.Proofs.Ytdbkbkopcnkgcaa

/-! ### spoil: only whole numbers turn -/
structure Ints (F : Nat → Prop) (w w' : World) : Prop where
  away : Away w.heap.size F w w'
  cell : ∀ b i v, w.cell? ⟨b, i, none⟩ = some v → w'.cell? ⟨b, i, none⟩ = some v ∨ ∃ z z' : Int, v = .int .i64 z ∧ w'.cell? ⟨b, i, none⟩ = some (.int .i64 z')
  free : ∀ b, b < w.heap.size → Cel w b → Cel w' b
theorem Ints.refl (F : Nat → Prop) (w : World) : Ints F w w := ⟨Away.refl _ _ _, fun _ _ _ h => .inl h, fun _ _ h => h⟩
theorem Ints.trans {F : Nat → Prop} {a b c : World} (h : Ints F a b) (k : Ints F b c) : Ints F a c := by
  refine ⟨h.away.trans (k.away.mono h.away.size fun _ _ h => h), fun p i v hv => ?_, fun p hp hc => k.free p (Nat.lt_of_lt_of_le hp h.away.size) (h.free p hp hc)⟩
  rcases h.cell p i v hv with h1 | ⟨z, z', rfl, h1⟩
  · exact k.cell p i v h1
  · rcases k.cell p i _ h1 with h2 | ⟨y, y', _, h2⟩
    · exact .inr ⟨z, z', rfl, h2⟩
    · exact .inr ⟨z, y', rfl, h2⟩
theorem Ints.set {F : Nat → Prop} {w : World} {b i : Nat} {z : Int} (hF : F b) (h : w.cell? ⟨b, i, none⟩ = some (.int .i64 z)) (z' : Int) : Ints F w (w.setCell ⟨b, i, none⟩ (.int .i64 z')) := by
  refine ⟨Away.setCell _ _ _ _ (.inl hF), fun p k v hv => ?_, fun p _ hc j => by rw [World.frozen?_setCell]; exact hc j⟩
  by_cases e : p = b ∧ k = i
  · obtain ⟨rfl, rfl⟩ := e
    rw [h] at hv
    injection hv with hv
    exact .inr ⟨z, z', hv.symm, World.cell?_setCell_same _ _ _ h⟩
  · refine .inl ?_
    rw [World.cell?_setCell_other (h := fun e2 => e ⟨by injection e2 with e3; exact e3.symm, by injection e2 with _ e3; exact e3.symm⟩)]
    exact hv
theorem Ints.slice {F : Nat → Prop} {w w' : World} (h : Ints F w w') {b i : Nat} {A : Option Addr} {n c : Nat} (hc : w.cell? ⟨b, i, none⟩ = some (.slice A n c)) : w'.cell? ⟨b, i, none⟩ = some (.slice A n c) := by
  rcases h.cell b i _ hc with h1 | ⟨z, z', h1, _⟩
  · exact h1
  · cases h1
theorem Ints.int {F : Nat → Prop} {w w' : World} (h : Ints F w w') {b i : Nat} {z : Int} (hc : w.cell? ⟨b, i, none⟩ = some (.int .i64 z)) : ∃ z' : Int, w'.cell? ⟨b, i, none⟩ = some (.int .i64 z') := by
  rcases h.cell b i _ hc with h1 | ⟨z, z', _, h1⟩
  · exact ⟨_, h1⟩
  · exact ⟨_, h1⟩

theorem ints_sl {n : Nat} {F G : Nat → Prop} {w w' : World} (h : Ints G w w') (hE : ∀ b o t, (trD n).E F w b o t → ∃ t', (trD n).E F w' b o t') {v : Value} {l : List Tr} (hl : IsSl (trD n) F w v l) : ∃ l', l'.length = l.length ∧ IsSl (trD n) F w' v l' := by
  obtain ⟨A, c, rfl, hm, hk⟩ := hl
  have hex : ∀ k : Fin l.length, ∃ t', ∃ b o, A = some ⟨b, o, none⟩ ∧ F b ∧ b < w'.heap.size ∧ (trD n).E F w' b (o + k.1 * (trD n).sz) t' := fun k => by
    obtain ⟨b, o, h1, h2, h3, h4⟩ := hk k.1 k.2
    obtain ⟨t', h5⟩ := hE _ _ _ h4
    exact ⟨t', b, o, h1, h2, Nat.lt_of_lt_of_le h3 h.away.size, h5⟩
  obtain ⟨f, hf⟩ := Classical.axiomOfChoice hex
  refine ⟨List.ofFn f, List.length_ofFn, A, c, by rw [List.length_ofFn], by rw [List.length_ofFn]; exact hm, fun k hk2 => ?_⟩
  rw [List.getElem_ofFn]
  exact hf ⟨k, by rw [List.length_ofFn] at hk2; exact hk2⟩
theorem ints_E : ∀ (n : Nat) {F G : Nat → Prop} {w w' : World}, Ints G w w' → ∀ b o t, (trD n).E F w b o t → ∃ t', (trD n).E F w' b o t'
  | 0, _, _, _, _, _, _, _, _, h => h.elim
  | n + 1, F, G, w, w', hi, b, o, t, h => by
    obtain ⟨h1, h2, h3, A, c, h4, h5, h6⟩ := h
    obtain ⟨r', k1⟩ := hi.int h1.2
    obtain ⟨m', k2⟩ := hi.int h2.2
    obtain ⟨l', k3, k4⟩ := ints_sl hi (ints_E n hi) h6
    refine ⟨Tr.mk r' m' l', ⟨h1.1, k1⟩, ⟨h2.1, k2⟩, h3, A, c, ?_, ?_, ?_⟩
    · show w'.cell? _ = some (.slice A l'.length c)
      rw [k3]
      exact hi.slice h4
    · show l'.length ≤ c
      rw [k3]; exact h5
    · show IsSl (trD n) F w' (.slice A l'.length c) l'
      rw [k3]; exact k4

set_option maxRecDepth 100000 in
set_option maxHeartbeats 3200000 in
theorem spoil_any : ∀ (n : Nat) (F : Nat → Prop) (w : World) (b o : Nat) (t : Tr), (trD n).E F w b o t → (∀ b, F b → b < w.heap.size ∧ Cel w b) → Calls Try.prog 43 #[.pointer (some ⟨b, o, none⟩)] w fun e w' => e = .returned (.tuple #[]) ∧ Ints F w w'
  | 0, _, _, _, _, _, h, _ => h.elim
  | n + 1, F, w, b, o, t, h, hF => by
    have IH := Lib.hid (spoil_any n)
    obtain ⟨h1, h2, h3, A, c, h4, h5, h6⟩ := h
    have c0 : w.cell? ⟨b, o, none⟩ = some (.int .i64 t.rule) := h1.2
    have c1 : w.cell? ⟨b, o + 1, none⟩ = some (.int .i64 t.term) := h2.2
    have c2 : w.cell? ⟨b, o + 2, none⟩ = some (.slice A t.kids.length c) := h4
    have hb : F b := h1.1
    have hfr := (hF b hb).2
    have f0 := hfr o
    have f1 : (w.setCell ⟨b, o, none⟩ (.int .i64 (-7))).frozen? ⟨b, o + 1, none⟩ = false := by rw [World.frozen?_setCell]; exact hfr _
    have hi1 := Ints.set hb c0 (-7)
    obtain ⟨z1, d1⟩ := hi1.int c1
    have hi2 := hi1.trans (Ints.set hb d1 (-7))
    have e2 := hi2.slice c2
    have h6' : IsSl (trD n) F w (.slice A t.kids.length c) t.kids := h6
    have hm : t.kids.length ≤ 9223372036854775807 := by obtain ⟨_, _, _, h, _⟩ := h6'; exact h
    clear h1 h2 h3 h4 h5 h6 hfr hi1
    generalize t.kids = ks at h6' e2 hm c2
    obtain ⟨m, hmn⟩ : ∃ m, m = ks.length := ⟨_, rfl⟩
    rw [← hmn] at h6' e2 hm c2
    have HF := Lib.hid hF
    have H6 := Lib.hid h6'
    have HMN := Lib.hid hmn
    clear hmn h6' hF
    go_enter Try.func43, Try.ntmps43
    go_wp2_with fail
    obtain ⟨W, hW⟩ : ∃ W : World, W = (w.setCell ⟨b, o, none⟩ (.int .i64 (-7))).setCell ⟨b, o + 1, none⟩ (.int .i64 (-7)) := ⟨_, rfl⟩
    rw [← hW] at hi2 e2 ⊢
    clear hW f0 f1 c0 c1 d1
    go_loopg [14] m (fun gk i wr => ∃ q : Nat, q ≤ m ∧ gk = m - q ∧ i = .int .i64 q ∧ Ints F w wr)
    case atStart => exact ⟨0, Nat.zero_le _, rfl, rfl, hi2⟩
    case round =>
      clear hi2 e2
      obtain ⟨q, hq, rfl, rfl, hi⟩ := hrel
      obtain ⟨wo, rfl⟩ : ∃ wo : World, wo = wr := ⟨_, rfl⟩
      have e2 := hi.slice c2
      by_cases hlt : q < m
      · have hqz : (q : Int) < (m : Int) := by omega
        obtain ⟨l', k1, k2⟩ := ints_sl hi (ints_E n hi) H6.out
        have hql : q < l'.length := by rw [k1, ← HMN.out]; exact hlt
        obtain ⟨A', c', k3, _, k4⟩ := k2
        obtain ⟨b2, o2, k5, k6, k7, k8⟩ := k4 q hql
        have hAA : A = A' := by injection k3
        rw [trD_sz] at k8
        have hA : A = some ⟨b2, o2, none⟩ := hAA.trans k5
        clear k3 k5 hAA
        subst hA
        have hcl := IH.out F wo b2 (o2 + q * 3) l'[q] k8 (fun p hp => by
          obtain ⟨p1, p2⟩ := HF.out p hp
          exact ⟨Nat.lt_of_lt_of_le p1 hi.away.size, hi.free p p1 p2⟩)
        have HCL := Lib.hid hcl
        clear hcl k4 k6 k7 k8
        go_wp2_with fail
        refine HCL.out.mono ?_
        rintro e5 w5 ⟨rfl, hi5⟩
        go_wp2_with fail
        go_roundg (m - (q + 1))
        case measure => omega
        case rel => exact ⟨q + 1, by omega, rfl, by go_num, hi.trans hi5⟩
      · obtain rfl : q = m := by omega
        go_wp2_with fail
        refine bodyPost_end (v := .tuple #[]) ?_ rfl ⟨rfl, hi⟩
        kernel_rfl
end Go.Proofs.Ytdbkbkopcnkgcaa
