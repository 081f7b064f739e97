import Derived.Test.YtdbkbkopcnkgcaaMeanC
open Go Go.RowKit
namespace Go.Proofs.Ytdbkbkopcnkgcaa

theorem is_start (be : Nat) (g : Gram) (x : List Int) (M : List (List Nat)) (A : Option Addr) (n c : Nat) (B : Option Addr) (m d : Nat) (C : Option Addr) (p q : Nat) (w : World)
    (he : IsEnds (fun _ => True) w be g x M A n c B m d C p q) (hl : x.length ≤ 12) (h0 : 0 ≤ g.start) (h1 : g.start < g.nons) (hsh : MShape g x M) (hso : Sound g x M) (hcl : Closed g x M) :
    Calls Try.prog 78 #[.pointer (some ⟨be, 0, none⟩), .agg #[.bool false, .int .i64 g.start], .int .i64 0, .int .i64 x.length] w fun e w' => (∃ b : Bool, e = .returned (.bool b) ∧ (b = true ↔ Drv g x [⟨false, g.start⟩] 0 x.length)) ∧ Below w.heap.size w w' := by
  refine (is_any _ be g x M A n c B m d C p q ⟨false, g.start⟩ 0 x.length w he hl h0 (fun _ => by have := hsh.len; show g.start < _; omega) hsh.row hsh.small (by omega) hl).mono ?_
  rintro e w' ⟨rfl, hb⟩
  refine ⟨⟨_, rfl, ?_⟩, hb⟩
  rw [← ends_iff hso hcl _ h0, aftTo_bit]
  constructor
  · rintro ⟨i, _, h2, h3⟩
    rw [Nat.testBit_two_pow] at h2
    have : 0 = i := by simpa using h2
    subst this
    rwa [aft1_non] at h3
  · intro h
    exact ⟨0, by omega, by simp, by rwa [aft1_non]⟩

set_option maxHeartbeats 1600000 in
theorem accepts_any (F : Nat → Prop) (g : Gram) (A : Option Addr) (n c : Nat) (x : List Int) (B : Option Addr) (m d : Nat) (w : World) (hr : IsSl Elt.rule F w (.slice A n c) g.rules) (hv : Valid g) (hc : n ≤ c)
    (hx : IsSl Elt.int F w (.slice B m d) x) (ho : OkWord g x) (hm : x.length ≤ 12) :
    Calls Try.prog 60 #[gramV g (.slice A n c), .slice B m d] w fun e w' => ∃ b : Bool, e = .returned (.tuple #[.bool b, .int .i64 0]) ∧ (b = true ↔ Drv g x [⟨false, g.start⟩] 0 x.length) ∧ Below w.heap.size w w' := by
  obtain ⟨rfl, hn2⟩ := hx.len
  go_enter Try.func60, Try.ntmps60
  unfold gramV
  have hb1 : Below w.heap.size w (w.alloc (.cells #[.int .i64 g.terms, .int .i64 g.nons, .int .i64 g.start, .slice A n c] 25)) := (Below.refl _ _).alloc (Nat.le_refl _) _
  go_wp2_with fail
  refine (check_ok F g A n c x B _ d _ (hr.below hb1) hv hc (hx.below hb1) ho hm).mono ?_
  rintro e w1 ⟨rfl, hb2⟩
  have hb3 : Below w.heap.size w w1 := hb1.trans (hb2.mono (by simp))
  have hb4 : Below (w.heap.size + 1) (w.alloc (.cells #[.int .i64 g.terms, .int .i64 g.nons, .int .i64 g.start, .slice A n c] 25)) w1 := hb2.mono (by simp)
  have h0 := box_cell hb4 (j := 0) rfl
  have h1 := box_cell hb4 (j := 1) rfl
  have h2 := box_cell hb4 (j := 2) rfl
  have h3 := box_cell hb4 (j := 3) rfl
  have hS : w.heap.size < w1.heap.size := by have := hb4.size; rw [World.size_alloc] at this; omega
  have hs0 := hv.s0
  have hs1 := hv.s1
  go_wp2_with fail
  go_region_with (first | (go_at_call 77; refine (derived_any F g A n c x B _ d _ (hr.below hb3.drew) hv (hx.below hb3.drew) hm).mono ?_; rintro e w2 ⟨be, rfl, hd⟩; have hs2 := (hd.below.cell (p := ⟨w.heap.size, 2, none⟩) hS).trans h2; obtain ⟨hbd, M, C, p, q, he, hsh, hso, hcl⟩ := hd) | (go_at_call 78; refine (is_start _ g x M _ _ _ _ _ _ _ _ _ _ he hm hs0 hs1 hsh hso hcl).mono ?_; rintro e w3 ⟨⟨b, rfl, hbi⟩, hb5⟩))
  all_goals go_wp2
  all_goals go_ret2
  all_goals exact ⟨b, rfl, hbi, (hb3.drew.trans (hbd.mono (by have := hb3.size; exact this))).trans (hb5.mono (Nat.le_trans hb3.size hbd.size))⟩
end Go.Proofs.Ytdbkbkopcnkgcaa
