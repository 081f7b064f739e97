import Derived.Test.YtdbkbkopcnkgcaaGramA
open Go Go.RowKit
namespace Go.Proofs.Ytdbkbkopcnkgcaa

def cmpRule (a b : Rule) : Int := if cmpI a.l b.l ≠ 0 then cmpI a.l b.l else cmpSyms a.r b.r

theorem ordS_eq (a b : Sym) : ordS a b = 0 ↔ a = b := by
  obtain ⟨at_, an⟩ := a
  obtain ⟨bt, bn⟩ := b
  unfold ordS
  cases at_ <;> cases bt <;> simp <;> omega
theorem cmpSyms_eq : ∀ (x y : List Sym), cmpSyms x y = 0 ↔ x = y
  | [], [] => by simp [cmpSyms]
  | [], _ :: _ => by simp [cmpSyms]
  | _ :: _, [] => by simp [cmpSyms]
  | a :: x, b :: y => by
    unfold cmpSyms
    by_cases h : ordS a b = 0
    · rw [if_neg (by simpa using h), cmpSyms_eq x y, (ordS_eq a b).1 h]; simp
    · rw [if_pos (by simpa using h)]
      have : a ≠ b := fun e => h ((ordS_eq a b).2 e)
      simp [h, this]
theorem cmpRule_eq (a b : Rule) : cmpRule a b = 0 ↔ a = b := by
  obtain ⟨al, ar⟩ := a
  obtain ⟨bl, br⟩ := b
  unfold cmpRule cmpI
  by_cases h : al < bl
  · simp [h]; omega
  · by_cases h2 : bl < al
    · simp [h, h2]; omega
    · have : al = bl := by omega
      subst this
      simp [cmpSyms_eq]

theorem cmpRule_any (F : Nat → Prop) (x y : Rule) (A B : Option Addr) (nx ny cx cy : Nat) (w : World) (hx : IsSl Elt.sym F w (.slice A nx cx) x.r) (hy : IsSl Elt.sym F w (.slice B ny cy) y.r) :
    Calls Try.prog 116 #[.agg #[.int .i64 x.l, .slice A nx cx], .agg #[.int .i64 y.l, .slice B ny cy]] w fun e w' => e = .returned (.int .i64 (cmpRule x y)) ∧ Below w.heap.size w w' := by
  by_cases h : cmpI x.l y.l = 0
  · have h' : (cmpI x.l y.l != 0) = false := by simp [h]
    have hf : cmpRule x y = cmpSyms x.r y.r := by unfold cmpRule; rw [if_neg (by simpa using h)]
    have HF := Lib.hid hf
    clear hf h
    go_enter Try.func116, Try.ntmps116
    go_wp2_with (go_at_call 67; refine (cmp_any _ _ _).mono ?_; rintro e w' ⟨rfl, rfl⟩)
    have hb : Below w.heap.size w ((w.alloc (.cells #[.int .i64 x.l, .slice A nx cx] 47)).alloc (.cells #[.int .i64 y.l, .slice B ny cy] 47)) := ((Below.refl _ _).alloc (Nat.le_refl _) _).alloc (by simp) _
    refine (cmpSyms_any F x.r y.r A B nx ny cx cy _ (hx.below hb) (hy.below hb)).mono ?_
    rintro e w' ⟨rfl, hb2⟩
    go_wp2
    go_ret
    exact ⟨ret_int (by rw [HF.out]), hb.trans (hb2.mono (by simp; omega))⟩
  · have h' : (cmpI x.l y.l != 0) = true := by simp [h]
    have hf : cmpRule x y = cmpI x.l y.l := by unfold cmpRule; rw [if_pos (by simpa using h)]
    have HF := Lib.hid hf
    clear hf h
    go_enter Try.func116, Try.ntmps116
    go_wp2_with (go_at_call 67; refine (cmp_any _ _ _).mono ?_; rintro e w' ⟨rfl, rfl⟩)
    go_ret
    exact ⟨ret_int (by rw [HF.out]), ((Below.refl _ _).alloc (Nat.le_refl _) _).alloc (by simp) _⟩

/-- a word over the grammar's terminals -/
def OkWord (g : Gram) (x : List Int) : Prop := ∀ t ∈ x, 0 ≤ t ∧ t < g.terms

set_option maxHeartbeats 400000 in
theorem gramWord_any (F : Nat → Prop) (g : Gram) (vr : Value) (x : List Int) (A : Option Addr) (n c : Nat) (most : Int) (w : World) (hx : IsSl Elt.int F w (.slice A n c) x) (hm : (x.length : Int) ≤ most) (ho : OkWord g x) :
    Calls Try.prog 95 #[gramV g vr, .slice A n c, .int .i64 most] w fun e w' => e = .returned (.int .i64 0) ∧ Below w.heap.size w w' := by
  obtain ⟨rfl, hn⟩ := hx.len
  unfold gramV
  go_enter Try.func95, Try.ntmps95
  go_wp2
  go_loopw [15] (fun i wr => ∃ k : Nat, k ≤ x.length ∧ i = .int .i64 k ∧ Below (w.heap.size + 1) (w.alloc (.cells #[.int .i64 g.terms, .int .i64 g.nons, .int .i64 g.start, vr] 25)) wr) (fun i _ => x.length - (intOf i).toNat)
  case atStart => exact ⟨0, by omega, rfl, Below.refl _ _⟩
  case round =>
    obtain ⟨k, hk, rfl, hb⟩ := hrel
    have hb0 : Below w.heap.size w wr := ((Below.refl _ _).alloc (Nat.le_refl _) _).trans (hb.mono (by omega))
    have hg := box_cell hb (j := 0) rfl
    by_cases hlt : k < x.length
    · obtain ⟨b, o, rfl, hF, hl, hc⟩ := (hx.below hb0).oneAt k hlt
      have h1 := (ho x[k] (by simp)).1
      have h2 := (ho x[k] (by simp)).2
      go_wp2
      go_roundw
      case rel => exact ⟨k + 1, by omega, by go_num, hb⟩
      case measure => simp [intOf]; omega
    · go_wp2
      go_ret
      exact ⟨rfl, hb0⟩
end Go.Proofs.Ytdbkbkopcnkgcaa
