import Derived.Test.YtdbkbkopcnkgcaaForO
import Derived.Test.YtdbkbkopcnkgcaaOwnLt
open Go Go.RowKit
namespace Go.Proofs.Ytdbkbkopcnkgcaa

/-! ### slices.ContainsFunc over nodes -/
section
variable {F : Nat → Prop} {id : FuncId} {caps : Array Value}

set_option maxRecDepth 100000 in
set_option maxHeartbeats 1600000 in
theorem index_node (p : NodeD → Bool) (ns : List NodeD) (A : Option Addr) (c : Nat) (w : World) (hn : IsSl Elt.node F w (.slice A ns.length c) ns) (hen : ∀ (args : Array Value) (w : World), Sem.run Try.prog (callFunc id args) w = .ok (.enter id args) w)
    (hcall : ∀ (nd : NodeD) (B : Option Addr) (d : Nat) (W : World), Below w.heap.size w W → Calls Try.prog id (#[nodeV nd B d] ++ caps) W fun e w' => e = .returned (.bool (p nd)) ∧ Below W.heap.size W w') :
    Calls Try.prog 70 #[.slice A ns.length c, .func (.func id) #[] caps] w fun e w' => (∃ r : Int, e = .returned (.int .i64 r) ∧ (0 ≤ r ↔ ∃ nd ∈ ns, p nd = true)) ∧ Below w.heap.size w w' := by
  have hl := hn.len.2
  have HC := Lib.hid hcall
  clear hcall
  go_enter Try.func70, Try.ntmps70
  go_wp2_with fail
  go_loopg [8] ns.length (fun gk i wr => ∃ q : Nat, q ≤ ns.length ∧ gk = ns.length - q ∧ i = .int .i64 q ∧ Below w.heap.size w wr ∧ Hid (∀ j (h : j < ns.length), j < q → p ns[j] = false))
  case atStart => exact ⟨0, by omega, by omega, rfl, Below.refl _ _, Lib.hid fun j _ hj => by omega⟩
  case round =>
    obtain ⟨q, hq, rfl, rfl, hb, hH⟩ := hrel
    by_cases hlt : q < ns.length
    · obtain ⟨b, o, rfl, hF, hbl, h1, h2, h3, h4, A', c', h5, -⟩ := (hn.below hb).nodeAt q hlt
      have hqz : (q : Int) < (ns.length : Int) := by omega
      have hone := HC.out ns[q] A' c' wr hb
      unfold nodeV at hone
      have HONE := Lib.hid hone
      clear hone
      cases hp : p ns[q]
      · have hH2 : Hid (∀ j (h : j < ns.length), j < q + 1 → p ns[j] = false) := Lib.hid fun j h hj => by
          by_cases e : j = q
          · subst e; exact hp
          · exact hH.out j h (by omega)
        rw [hp] at HONE
        clear hp
        generalize ns[q] = nd at h1 h2 h3 h4 h5 HONE
        go_wp2_with fail
        refine HONE.out.mono ?_
        rintro e w' ⟨rfl, hb2⟩
        go_wp2_with fail
        go_roundg (ns.length - (q + 1))
        case measure => omega
        case rel => exact ⟨q + 1, by omega, rfl, by go_num, hb.trans (hb2.mono hb.size), hH2⟩
      · have hex : ∃ nd ∈ ns, p nd = true := ⟨ns[q], List.getElem_mem hlt, hp⟩
        have HEX := Lib.hid hex
        rw [hp] at HONE
        clear hp hex
        generalize ns[q] = nd at h1 h2 h3 h4 h5 HONE
        go_wp2_with fail
        refine HONE.out.mono ?_
        rintro e w' ⟨rfl, hb2⟩
        go_wp2_with fail
        go_ret
        exact ⟨⟨_, rfl, fun _ => HEX.out, fun _ => by omega⟩, hb.trans (hb2.mono hb.size)⟩
    · obtain rfl : q = ns.length := by omega
      have hno : ¬ ∃ nd ∈ ns, p nd = true := fun ⟨nd, hnd, hp⟩ => by
        obtain ⟨j, hj, rfl⟩ := List.getElem_of_mem hnd
        rw [hH.out j hj hj] at hp
        cases hp
      have HNO := Lib.hid hno
      clear hno
      go_wp2_with fail
      go_ret
      exact ⟨⟨_, rfl, fun h => by simp at h, fun h => absurd h HNO.out⟩, hb⟩

set_option maxRecDepth 100000 in
theorem contains_node (p : NodeD → Bool) (ns : List NodeD) (A : Option Addr) (c : Nat) (w : World) (hn : IsSl Elt.node F w (.slice A ns.length c) ns) (hen : ∀ (args : Array Value) (w : World), Sem.run Try.prog (callFunc id args) w = .ok (.enter id args) w)
    (hcall : ∀ (nd : NodeD) (B : Option Addr) (d : Nat) (W : World), Below w.heap.size w W → Calls Try.prog id (#[nodeV nd B d] ++ caps) W fun e w' => e = .returned (.bool (p nd)) ∧ Below W.heap.size W w') (hex : ∃ nd ∈ ns, p nd = true) :
    Calls Try.prog 25 #[.slice A ns.length c, .func (.func id) #[] caps] w fun e w' => e = .returned (.bool true) ∧ Below w.heap.size w w' := by
  have hi := index_node p ns A c w hn hen hcall
  have HEX := Lib.hid hex
  clear hcall hex
  go_enter Try.func25, Try.ntmps25
  go_wp2_with fail
  refine hi.mono ?_
  rintro e w' ⟨⟨r, rfl, hr⟩, hb⟩
  have h0 : 0 ≤ r := hr.2 HEX.out
  clear hr
  go_wp2_with fail
  go_ret
  exact ⟨ret_bool (by simp), hb⟩
end

set_option maxRecDepth 100000 in
set_option maxHeartbeats 1600000 in
/-- the closure of ForestLess: the same part, and no fewer packs -/
theorem lessNode_any (nd m : NodeD) (A : Option Addr) (c bn : Nat) (B : Option Addr) (d : Nat) (w : World) (hn : w.heap[bn]? = some (.cells #[.bool nd.y.t, .int .i64 nd.y.n, .int .i64 nd.i, .int .i64 nd.j, .slice B nd.packs.length d] 40 (0, 0))) :
    Calls Try.prog 31 #[nodeV m A c, .pointer (some ⟨bn, 0, none⟩)] w fun e w' => e = .returned (.bool (decide (m.y = nd.y ∧ m.i = nd.i ∧ m.j = nd.j ∧ nd.packs.length ≤ m.packs.length))) ∧ Below w.heap.size w w' := by
  have hbl := blk_lt hn
  have n0 := blk_cell hn (i := 0) rfl
  have n1 := blk_cell hn (i := 1) rfl
  have n2 := blk_cell hn (i := 2) rfl
  have n3 := blk_cell hn (i := 3) rfl
  have n4 := blk_cell hn (i := 4) rfl
  have hB : ∀ o, Below w.heap.size w (w.alloc o) := below1 w
  have fin : ∀ b : Bool, decide (m.y = nd.y ∧ m.i = nd.i ∧ m.j = nd.j ∧ nd.packs.length ≤ m.packs.length) = b → ∀ o, (Ending.returned (.bool b) = Ending.returned (.bool (decide (m.y = nd.y ∧ m.i = nd.i ∧ m.j = nd.j ∧ nd.packs.length ≤ m.packs.length)))) ∧ Below w.heap.size w (w.alloc o) := fun b h o => ⟨by rw [h], hB o⟩
  obtain ⟨⟨mt, mn⟩, mi, mj, mp⟩ := m
  obtain ⟨⟨nt, nn⟩, ni, nj, np⟩ := nd
  unfold nodeV
  simp only at n0 n1 n2 n3 n4 fin ⊢
  generalize mp.length = ml at fin ⊢
  generalize np.length = nl at fin n4 hn ⊢
  by_cases h1 : mt = nt
  · subst h1
    by_cases h2 : mn = nn
    · subst h2
      by_cases h3 : mi = ni
      · subst h3
        by_cases h4 : mj = nj
        · subst h4
          have HF := Lib.hid (fin (decide (nl ≤ ml)) (decide_eq_decide.2 ⟨fun h => h.2.2.2, fun h => ⟨rfl, rfl, rfl, h⟩⟩))
          have HB := Lib.hid hB; clear fin hB
          go_enter Try.func31, Try.ntmps31
          go_wp2_with fail
          go_ret
          first | exact ⟨rfl, HB.out _⟩ | exact HF.out _
        · have h4a : ((mj : Int) == (nj : Int)) = false := by simp; omega
          have h4b : (mj == nj) = false := by simp [h4]
          have HF := Lib.hid (fin false (decide_eq_false fun h => h4 h.2.2.1))
          have HB := Lib.hid hB; clear fin hB
          go_enter Try.func31, Try.ntmps31
          go_wp2_with fail
          go_ret
          first | exact ⟨rfl, HB.out _⟩ | exact HF.out _
      · have h3a : ((mi : Int) == (ni : Int)) = false := by simp; omega
        have h3b : (mi == ni) = false := by simp [h3]
        have HF := Lib.hid (fin false (decide_eq_false fun h => h3 h.2.1))
        have HB := Lib.hid hB; clear fin hB
        go_enter Try.func31, Try.ntmps31
        go_wp2_with fail
        go_ret
        first | exact ⟨rfl, HB.out _⟩ | exact HF.out _
    · have HF := Lib.hid (fin false (decide_eq_false fun h => h2 (by have := congrArg Sym.n h.1; exact this)))
      have HB := Lib.hid hB; clear fin hB
      go_enter Try.func31, Try.ntmps31
      go_wp2_with fail
      go_ret
      first | exact ⟨rfl, HB.out _⟩ | exact HF.out _
  · have HF := Lib.hid (fin false (decide_eq_false fun h => h1 (by have := congrArg Sym.t h.1; exact this)))
    have HB := Lib.hid hB; clear fin hB
    go_enter Try.func31, Try.ntmps31
    go_wp2_with fail
    go_ret
    first | exact ⟨rfl, HB.out _⟩ | exact HF.out _
end Go.Proofs.Ytdbkbkopcnkgcaa
