import Derived.Test.YtdbkbkopcnkgcaaGreatForMN
import Derived.Test.YtdbkbkopcnkgcaaGreatEqual
import Derived.Test.YtdbkbkopcnkgcaaGreatFeedB
open Go Go.RowKit
namespace Go.Proofs.YtdbkbkopcnkgcaaGreat

theorem IsSl.packAt {F : Nat → Prop} {w : World} {A : Option Addr} {n c : Nat} {xs : List PackD} (h : IsSl Elt.pack F w (.slice A n c) xs) (k : Nat) (hk : k < xs.length) :
    ∃ b o, A = some ⟨b, o, none⟩ ∧ F b ∧ b < w.heap.size ∧ w.cell? ⟨b, o + k * 2, none⟩ = some (.int .i64 xs[k].rule) ∧ ∃ A' c', w.cell? ⟨b, o + k * 2 + 1, none⟩ = some (.slice A' xs[k].kids.length c') ∧ IsSl Elt.int F w (.slice A' xs[k].kids.length c') xs[k].kids := by
  obtain ⟨A', c', he, hl, h⟩ := h
  injection he with h1 h2 h3
  subst h1
  obtain ⟨b, o, rfl, hb, hlt, he⟩ := h k hk
  obtain ⟨⟨_, e1⟩, ⟨_, A2, c2, h2, _, h3⟩⟩ := he
  exact ⟨b, o, rfl, hb, hlt, e1, A2, c2, h2, h3⟩
theorem IsSl.nodeAt {F : Nat → Prop} {w : World} {A : Option Addr} {n c : Nat} {xs : List NodeD} (h : IsSl Elt.node F w (.slice A n c) xs) (k : Nat) (hk : k < xs.length) :
    ∃ b o, A = some ⟨b, o, none⟩ ∧ F b ∧ b < w.heap.size ∧ w.cell? ⟨b, o + k * 5, none⟩ = some (.bool xs[k].y.t) ∧ w.cell? ⟨b, o + k * 5 + 1, none⟩ = some (.int .i64 xs[k].y.n) ∧ w.cell? ⟨b, o + k * 5 + 2, none⟩ = some (.int .i64 xs[k].i) ∧ w.cell? ⟨b, o + k * 5 + 3, none⟩ = some (.int .i64 xs[k].j) ∧
      ∃ A' c', w.cell? ⟨b, o + k * 5 + 4, none⟩ = some (.slice A' xs[k].packs.length c') ∧ IsSl Elt.pack F w (.slice A' xs[k].packs.length c') xs[k].packs := by
  obtain ⟨A', c', he, hl, h⟩ := h
  injection he with h1 h2 h3
  subst h1
  obtain ⟨b, o, rfl, hb, hlt, he⟩ := h k hk
  obtain ⟨⟨⟨_, e1⟩, ⟨_, e2⟩⟩, ⟨⟨⟨_, e3⟩, ⟨_, e4⟩⟩, ⟨_, A2, c2, h2, _, h3⟩⟩⟩ := he
  exact ⟨b, o, rfl, hb, hlt, e1, e2, e3, e4, A2, c2, h2, h3⟩

set_option maxRecDepth 100000 in
set_option maxHeartbeats 400000 in
theorem same_pack (F F2 : Nat → Prop) (p : PackD) (A : Option Addr) (c : Nat) (B : Option Addr) (d : Nat) (w : World) (ha : IsSl Elt.int F w (.slice A p.kids.length c) p.kids) (hb : IsSl Elt.int F2 w (.slice B p.kids.length d) p.kids) :
    Calls Tryz.prog 71 #[.agg #[.int .i64 p.rule, .slice A p.kids.length c], .agg #[.int .i64 p.rule, .slice B p.kids.length d]] w fun e w' => e = .returned (.bool true) ∧ Below w.heap.size w w' := by
  go_enter Tryz.func71, Tryz.ntmps71
  have hB : Below w.heap.size w ((w.alloc (.cells #[.int .i64 p.rule, .slice A p.kids.length c] 116)).alloc (.cells #[.int .i64 p.rule, .slice B p.kids.length d] 116)) := ((Below.refl _ _).alloc (Nat.le_refl _) _).alloc (by simp) _
  have heq := equal_int F F2 p.kids p.kids A _ c B _ d _ (ha.below hB) (hb.below hB)
  go_wp2_with fail
  with_reducible refine heq.mono ?_
  rintro e2 w2 ⟨rfl, hb2⟩
  go_wp2_with fail
  go_ret
  exact ⟨rfl, hB.trans (hb2.mono hB.size)⟩

set_option maxRecDepth 100000 in
set_option maxHeartbeats 400000 in
theorem same_packs (F F2 : Nat → Prop) (l : List PackD) (A : Option Addr) (c : Nat) (B : Option Addr) (d : Nat) (w : World) (ha : IsSl Elt.pack F w (.slice A l.length c) l) (hb : IsSl Elt.pack F2 w (.slice B l.length d) l) :
    Calls Tryz.prog 70 #[.slice A l.length c, .slice B l.length d, .func (.func 71) #[] #[]] w fun e w' => e = .returned (.bool true) ∧ Below w.heap.size w w' := by
  obtain ⟨-, hn⟩ := ha.len
  go_enter Tryz.func70, Tryz.ntmps70
  go_wp2_with fail
  go_loopg [17] l.length (fun gk i wr => ∃ q : Nat, q ≤ l.length ∧ gk = l.length - q ∧ i = .int .i64 q ∧ Below w.heap.size w wr)
  case atStart => exact ⟨0, by omega, by omega, rfl, Below.refl _ _⟩
  case round =>
    obtain ⟨q, hq, rfl, rfl, hw⟩ := hrel
    obtain ⟨wo, rfl⟩ : ∃ wo : World, wo = wr := ⟨_, rfl⟩
    by_cases hlt : q < l.length
    · obtain ⟨b, o, rfl, hF, hbl, h1, A', c', h2, hs⟩ := (ha.below hw).packAt q hlt
      obtain ⟨b2, o2, rfl, hF2, hbl2, k1, B', d', k2, ks⟩ := (hb.below hw).packAt q hlt
      have hqz : (q : Int) < (l.length : Int) := by omega
      generalize l[q] = p at h1 h2 hs k1 k2 ks
      have hB : Below wo.heap.size wo ((wo.alloc (.cells #[.int .i64 p.rule, .slice A' p.kids.length c'] 116)).alloc (.cells #[.int .i64 p.rule, .slice B' p.kids.length d'] 116)) := ((Below.refl _ _).alloc (Nat.le_refl _) _).alloc (by simp) _
      have hst : ∀ o, (wo.alloc o).cell? ⟨b2, o2 + q * 2, none⟩ = some (.int .i64 p.rule) := fun o => cell_alloc_old k1 _
      have hst2 : ∀ o, (wo.alloc o).cell? ⟨b2, o2 + q * 2 + 1, none⟩ = some (.slice B' p.kids.length d') := fun o => cell_alloc_old k2 _
      go_wp2_with fail
      with_reducible refine (same_pack F F2 p A' c' B' d' _ (hs.below hB) (ks.below hB)).mono ?_
      rintro e3 w3 ⟨rfl, hb3⟩
      go_wp2_with fail
      go_roundg (l.length - (q + 1))
      case measure => omega
      case rel => exact ⟨q + 1, by omega, rfl, by go_num, hw.trans ((hB.trans (hb3.mono hB.size)).mono hw.size)⟩
    · obtain rfl : q = l.length := by omega
      go_wp2_with fail
      go_ret
      exact ⟨rfl, hw⟩

def nodeV (n : NodeD) (A : Option Addr) (c : Nat) : Value := .agg #[.bool n.y.t, .int .i64 n.y.n, .int .i64 n.i, .int .i64 n.j, .slice A n.packs.length c]

set_option maxRecDepth 100000 in
set_option maxHeartbeats 800000 in
theorem same_node (F F2 : Nat → Prop) (p : NodeD) (A : Option Addr) (c : Nat) (B : Option Addr) (d : Nat) (w : World) (ha : IsSl Elt.pack F w (.slice A p.packs.length c) p.packs) (hb : IsSl Elt.pack F2 w (.slice B p.packs.length d) p.packs) :
    Calls Tryz.prog 69 #[nodeV p A c, nodeV p B d] w fun e w' => e = .returned (.bool true) ∧ Below w.heap.size w w' := by
  have hsym : ∀ w : World, (Op.equal 70 (.agg #[.bool p.y.t, .int .i64 p.y.n]) (.agg #[.bool p.y.t, .int .i64 p.y.n])).run Tryz.prog w = .ok true w := fun w => by rw [Tryz.symEq]; simp
  unfold nodeV
  go_enter Tryz.func69, Tryz.ntmps69
  have hB : Below w.heap.size w ((w.alloc (.cells #[.bool p.y.t, .int .i64 p.y.n, .int .i64 p.i, .int .i64 p.j, .slice A p.packs.length c] 114)).alloc (.cells #[.bool p.y.t, .int .i64 p.y.n, .int .i64 p.i, .int .i64 p.j, .slice B p.packs.length d] 114)) := ((Below.refl _ _).alloc (Nat.le_refl _) _).alloc (by simp) _
  have heq := same_packs F F2 p.packs A c B d _ (ha.below hB) (hb.below hB)
  go_wp2_with fail
  with_reducible refine heq.mono ?_
  rintro e2 w2 ⟨rfl, hb2⟩
  go_wp2_with fail
  go_ret
  exact ⟨rfl, hB.trans (hb2.mono hB.size)⟩

set_option maxRecDepth 100000 in
set_option maxHeartbeats 800000 in
theorem same_nodes (F F2 : Nat → Prop) (l : List NodeD) (A : Option Addr) (c : Nat) (B : Option Addr) (d : Nat) (w : World) (ha : IsSl Elt.node F w (.slice A l.length c) l) (hb : IsSl Elt.node F2 w (.slice B l.length d) l) :
    Calls Tryz.prog 68 #[.slice A l.length c, .slice B l.length d, .func (.func 69) #[] #[]] w fun e w' => e = .returned (.bool true) ∧ Below w.heap.size w w' := by
  obtain ⟨-, hn⟩ := ha.len
  go_enter Tryz.func68, Tryz.ntmps68
  go_wp2_with fail
  go_loopg [17] l.length (fun gk i wr => ∃ q : Nat, q ≤ l.length ∧ gk = l.length - q ∧ i = .int .i64 q ∧ Below w.heap.size w wr)
  case atStart => exact ⟨0, by omega, by omega, rfl, Below.refl _ _⟩
  case round =>
    obtain ⟨q, hq, rfl, rfl, hw⟩ := hrel
    obtain ⟨wo, rfl⟩ : ∃ wo : World, wo = wr := ⟨_, rfl⟩
    by_cases hlt : q < l.length
    · obtain ⟨b, o, rfl, hF, hbl, h1, h2, h3, h4, A', c', h5, hs⟩ := (ha.below hw).nodeAt q hlt
      obtain ⟨b2, o2, rfl, hF2, hbl2, k1, k2, k3, k4, B', d', k5, ks⟩ := (hb.below hw).nodeAt q hlt
      have hqz : (q : Int) < (l.length : Int) := by omega
      generalize l[q] = p at h1 h2 h3 h4 h5 hs k1 k2 k3 k4 k5 ks
      have hB : Below wo.heap.size wo ((wo.alloc (.cells #[.bool p.y.t, .int .i64 p.y.n, .int .i64 p.i, .int .i64 p.j, .slice A' p.packs.length c'] 114)).alloc (.cells #[.bool p.y.t, .int .i64 p.y.n, .int .i64 p.i, .int .i64 p.j, .slice B' p.packs.length d'] 114)) := ((Below.refl _ _).alloc (Nat.le_refl _) _).alloc (by simp) _
      have hk1 : ∀ o, (wo.alloc o).cell? ⟨b2, o2 + q * 5, none⟩ = _ := fun o => cell_alloc_old k1 _
      have hk2 : ∀ o, (wo.alloc o).cell? ⟨b2, o2 + q * 5 + 1, none⟩ = _ := fun o => cell_alloc_old k2 _
      have hk3 : ∀ o, (wo.alloc o).cell? ⟨b2, o2 + q * 5 + 2, none⟩ = _ := fun o => cell_alloc_old k3 _
      have hk4 : ∀ o, (wo.alloc o).cell? ⟨b2, o2 + q * 5 + 3, none⟩ = _ := fun o => cell_alloc_old k4 _
      have hk5 : ∀ o, (wo.alloc o).cell? ⟨b2, o2 + q * 5 + 4, none⟩ = _ := fun o => cell_alloc_old k5 _
      have hsn := same_node F F2 p A' c' B' d' _ (hs.below hB) (ks.below hB)
      unfold nodeV at hsn
      go_wp2_with fail
      with_reducible refine hsn.mono ?_
      rintro e3 w3 ⟨rfl, hb3⟩
      go_wp2_with fail
      go_roundg (l.length - (q + 1))
      case measure => omega
      case rel => exact ⟨q + 1, by omega, rfl, by go_num, hw.trans ((hB.trans (hb3.mono hB.size)).mono hw.size)⟩
    · obtain rfl : q = l.length := by omega
      go_wp2_with fail
      go_ret
      exact ⟨rfl, hw⟩

/-- two forests with the same data are the same -/
theorem same_any (F F2 : Nat → Prop) (f : ForD) (A : Option Addr) (c : Nat) (B : Option Addr) (d : Nat) (w : World) (ha : IsSl Elt.node F w (.slice A f.nodes.length c) f.nodes) (hb : IsSl Elt.node F2 w (.slice B f.nodes.length d) f.nodes) :
    Calls Tryz.prog 53 #[.agg #[.slice A f.nodes.length c, .int .i64 f.root], .agg #[.slice B f.nodes.length d, .int .i64 f.root]] w fun e w' => e = .returned (.bool true) ∧ Below w.heap.size w w' := by
  go_enter Tryz.func53, Tryz.ntmps53
  have hB : Below w.heap.size w ((w.alloc (.cells #[.slice A f.nodes.length c, .int .i64 f.root] 31)).alloc (.cells #[.slice B f.nodes.length d, .int .i64 f.root] 31)) := ((Below.refl _ _).alloc (Nat.le_refl _) _).alloc (by simp) _
  have heq := same_nodes F F2 f.nodes A c B d _ (ha.below hB) (hb.below hB)
  go_wp2_with fail
  with_reducible refine heq.mono ?_
  rintro e2 w2 ⟨rfl, hb2⟩
  go_wp2_with fail
  go_ret
  exact ⟨rfl, hB.trans (hb2.mono hB.size)⟩
end Go.Proofs.YtdbkbkopcnkgcaaGreat
