import Derived.Test.YtdbkbkopcnkgcaaGreatTreeK
import Derived.Test.YtdbkbkopcnkgcaaGreatEqual
open Go Go.RowKit
namespace Go.Proofs.YtdbkbkopcnkgcaaGreat

/-! ### equal lists are found equal -/
/-- equal lists of trees -/
def EqT (n : Nat) : Prop := ∀ (F F2 : Nat → Prop) (l : List Tr) (A : Option Addr) (c : Nat) (B : Option Addr) (d : Nat) (w : World), IsSl (trD n) F w (.slice A l.length c) l → IsSl Elt.tree F2 w (.slice B l.length d) l →
    Calls Tryz.prog 12 #[.slice A l.length c, .slice B l.length d, .func (.func 13) #[] #[]] w fun e w' => e = .returned (.bool true) ∧ Below w.heap.size w w'
set_option maxRecDepth 100000 in
set_option maxHeartbeats 1600000 in
theorem sameTree_any {n : Nat} (h : EqT n) (F F2 : Nat → Prop) (r t : Int) (ks : List Tr) (A : Option Addr) (c : Nat) (B : Option Addr) (d : Nat) (w : World) (hx : IsSl (trD n) F w (.slice A ks.length c) ks) (hy : IsSl Elt.tree F2 w (.slice B ks.length d) ks) :
    Calls Tryz.prog 13 #[.agg #[.int .i64 r, .int .i64 t, .slice A ks.length c], .agg #[.int .i64 r, .int .i64 t, .slice B ks.length d]] w fun e w' => e = .returned (.bool true) ∧ Below w.heap.size w w' := by
  have hb2 := below2 w (.cells #[.int .i64 r, .int .i64 t, .slice A ks.length c] 45) (.cells #[.int .i64 r, .int .i64 t, .slice B ks.length d] 45)
  have H := Lib.hid (h F F2 ks A c B d _ (hx.below hb2) (hy.below hb2))
  have hb2' := hb2
  have h1 : (r == r) = true := by simp
  have h2 : (t == t) = true := by simp
  clear hx hy h
  go_enter Tryz.func13, Tryz.ntmps13
  go_wp2_with fail
  refine H.out.mono ?_
  rintro e w' ⟨rfl, hb⟩
  go_wp2_with fail
  go_ret
  exact ⟨rfl, hb2'.trans (hb.mono hb2'.size)⟩

theorem IsSl.trAt {m : Nat} {F : Nat → Prop} {w : World} {A : Option Addr} {n c : Nat} {xs : List Tr} (h : IsSl (trD m) F w (.slice A n c) xs) (k : Nat) (hk : k < xs.length) :
    ∃ b o, A = some ⟨b, o, none⟩ ∧ F b ∧ b < w.heap.size ∧ w.cell? ⟨b, o + k * 3, none⟩ = some (.int .i64 xs[k].rule) ∧ w.cell? ⟨b, o + k * 3 + 1, none⟩ = some (.int .i64 xs[k].term) ∧
      ∃ R cr m', m = m' + 1 ∧ w.cell? ⟨b, o + k * 3 + 2, none⟩ = some (.slice R xs[k].kids.length cr) ∧ IsSl (trD m') F w (.slice R xs[k].kids.length cr) xs[k].kids := by
  obtain ⟨A', c', he, hl, h⟩ := h
  injection he with h1 h2 h3
  subst h1
  obtain ⟨b, o, rfl, hb, hlt, he⟩ := h k hk
  rw [trD_sz] at he
  cases m with
  | zero => exact he.elim
  | succ m =>
    obtain ⟨h1, h2, _, R, cr, h5, h6, h7⟩ := he
    exact ⟨b, o, rfl, hb, hlt, h1.2, h2.2, R, cr, m, rfl, h5, h7⟩
set_option maxRecDepth 100000 in
set_option maxHeartbeats 1600000 in
theorem eqT_step (m : Nat) (IH : ∀ m', m = m' + 1 → EqT m') : EqT m := by
  intro F F2 l A c B d w ha hb
  obtain ⟨-, hn⟩ := ha.len
  obtain ⟨n, hnn⟩ : ∃ n, n = l.length := ⟨_, rfl⟩
  rw [← hnn] at ha hb hn ⊢
  have HN := Lib.hid hnn
  clear hnn
  go_enter Tryz.func12, Tryz.ntmps12
  go_wp2_with fail
  go_loopg [17] n (fun gk i wr => ∃ q : Nat, q ≤ n ∧ gk = n - q ∧ i = .int .i64 q ∧ Below w.heap.size w wr)
  case atStart => exact ⟨0, by omega, by omega, rfl, Below.refl _ _⟩
  case round =>
    obtain ⟨q, hq, rfl, rfl, hw⟩ := hrel
    obtain ⟨wo, rfl⟩ : ∃ wo : World, wo = wr := ⟨_, rfl⟩
    by_cases hlt : q < n
    · have hlx : q < l.length := by rw [← HN.out]; exact hlt
      obtain ⟨b, o, rfl, hF, hbl, h1, h2, P, cp, m', hm, h3, hp⟩ := (ha.below hw).trAt q hlx
      obtain ⟨b2, o2, rfl, hF2, hbl2, k1, k2, P2, cp2, k3, _, kp⟩ := (hb.below hw).treeK q hlx
      have hqz : (q : Int) < (n : Int) := by omega
      generalize l[q] = t at h1 h2 h3 hp k1 k2 k3 kp
      have hB : Below wo.heap.size wo ((wo.alloc (.cells #[.int .i64 t.rule, .int .i64 t.term, .slice P t.kids.length cp] 45)).alloc (.cells #[.int .i64 t.rule, .int .i64 t.term, .slice P2 t.kids.length cp2] 45)) := below2 wo _ _
      have hk1 : ∀ o, (wo.alloc o).cell? ⟨b2, o2 + q * 3, none⟩ = _ := fun o => cell_alloc_old k1 _
      have hk2 : ∀ o, (wo.alloc o).cell? ⟨b2, o2 + q * 3 + 1, none⟩ = _ := fun o => cell_alloc_old k2 _
      have hk3 : ∀ o, (wo.alloc o).cell? ⟨b2, o2 + q * 3 + 2, none⟩ = _ := fun o => cell_alloc_old k3 _
      have hsn := sameTree_any (IH m' hm) F F2 t.rule t.term t.kids P cp P2 cp2 _ (hp.below hB) (kp.below hB)
      clear hp kp
      go_wp2_with fail
      with_reducible refine hsn.mono ?_
      rintro e3 w3 ⟨rfl, hb3⟩
      go_wp2_with fail
      go_roundg (n - (q + 1))
      case measure => omega
      case rel => exact ⟨q + 1, by omega, rfl, by go_num, hw.trans ((hB.trans (hb3.mono hB.size)).mono hw.size)⟩
    · obtain rfl : q = n := by omega
      go_wp2_with fail
      go_ret
      exact ⟨rfl, hw⟩
theorem eqT_any : ∀ n, EqT n
  | 0 => eqT_step 0 fun _ h => by omega
  | n + 1 => eqT_step (n + 1) fun m' h => by
    obtain rfl : n = m' := by omega
    exact eqT_any n
theorem eqTree_any (F F2 : Nat → Prop) (l : List Tr) (A : Option Addr) (c : Nat) (B : Option Addr) (d : Nat) (w : World) (ha : IsSl Elt.tree F w (.slice A l.length c) l) (hb : IsSl Elt.tree F2 w (.slice B l.length d) l) :
    Calls Tryz.prog 12 #[.slice A l.length c, .slice B l.length d, .func (.func 13) #[] #[]] w fun e w' => e = .returned (.bool true) ∧ Below w.heap.size w w' := by
  obtain ⟨n, ha⟩ := ha.deep
  exact eqT_any n F F2 l A c B d w ha hb
end Go.Proofs.YtdbkbkopcnkgcaaGreat
