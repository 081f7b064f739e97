import Derived.Test.YtdbkbkopcnkgcaaNodeFind
import Derived.Test.YtdbkbkopcnkgcaaMirGram
open Go Go.RowKit
namespace Go.Proofs.Ytdbkbkopcnkgcaa

/-! ### parlkeep3.packs, and the closure of ForestMirrored -/
theorem made_packs {g : Gram} {x : List Int} {M : List (List Nat)} (hs : Small g) (hx : x.length ≤ 8) : ((madeF g x M).1.nodes.map fun n => n.packs.length).sum ≤ maxPacks := by
  cases h : (entry M g.start 0).testBit x.length
  · rw [made_empty h]; simp
  · obtain ⟨s, h1, h2⟩ := made_small hs hx h
    rw [h2]
    simp only [forestF, List.map_map]
    have hkey : ∀ p, p ∈ keysF s ↔ p ∈ keysR s := fun p => mem_keysF
    have e : (keysF s).map ((fun n : NodeD => n.packs.length) ∘ nodeF (keysF s) s) = (keysF s).map fun q => (waysU g x M q).length :=
      List.map_congr_left fun p hp => by
        have hr := (h1.keys p).1 (mem_keysF.1 hp)
        show (nodeF (keysF s) s p).packs.length = _
        unfold nodeF; rw [h1.look p hr]; simp
    rw [e]
    refine packs_few hs (by unfold keysF; exact (List.mergeSort_perm _ _).nodup_iff.2 h1.nodup) fun p hp => ?_
    obtain ⟨_, _, h3, h4⟩ := of_partsF (h1.ok p ((h1.keys p).1 (mem_keysF.1 hp)))
    omega

theorem sum_take_le : ∀ (l : List Nat) (k : Nat), (l.take k).sum ≤ l.sum
  | [], k => by simp
  | a :: l, 0 => by simp
  | a :: l, k + 1 => by simp [sum_take_le l k]
theorem sum_take_succ : ∀ (l : List Nat) (k : Nat) (h : k < l.length), (l.take (k + 1)).sum = (l.take k).sum + l[k]
  | [], k, h => by simp at h
  | a :: l, 0, h => by simp
  | a :: l, k + 1, h => by
    rw [List.take_succ_cons, List.take_succ_cons, List.sum_cons, List.sum_cons, sum_take_succ l k (by simpa using h), List.getElem_cons_succ, Nat.add_assoc]

set_option maxRecDepth 100000 in
set_option maxHeartbeats 800000 in
theorem packs_any (F : Nat → Prop) (ns : List NodeD) (root : Int) (A : Option Addr) (c : Nat) (w : World) (hn : IsSl Elt.node F w (.slice A ns.length c) ns) (hs : (ns.map fun n => n.packs.length).sum ≤ 1000000) :
    Calls Try.prog 24 #[.agg #[.slice A ns.length c, .int .i64 root]] w fun e w' => e = .returned (.int .i64 ((ns.map fun n => n.packs.length).sum : Nat)) ∧ Below w.heap.size w w' := by
  have hl := hn.len.2
  have hb0 := below1 w (.cells #[.slice A ns.length c, .int .i64 root] 30)
  have g0 := heap_alloc_new w (.cells #[.slice A ns.length c, .int .i64 root] 30)
  have k0 := blk_cell g0 (i := 0) rfl
  have HN := Lib.hid (hn.below hb0)
  obtain ⟨f, hf⟩ : ∃ f : List Nat, f = ns.map fun n => n.packs.length := ⟨_, rfl⟩
  rw [← hf] at hs ⊢
  have hfl : f.length = ns.length := by rw [hf]; simp
  have HF := Lib.hid hf
  clear hf hn
  go_enter Try.func24, Try.ntmps24
  go_wp2_with fail
  clear k0 g0
  generalize w.alloc (.cells #[.slice A ns.length c, .int .i64 root] 30) = w0 at hb0 HN ⊢
  go_loopg [3, 9] ns.length (fun gk sv iv wr => ∃ k : Nat, k ≤ ns.length ∧ gk = ns.length - k ∧ sv = .int .i64 ((f.take k).sum : Nat) ∧ iv = .int .i64 k ∧ Below w0.heap.size w0 wr)
  case atStart => exact ⟨0, by omega, by omega, by simp, rfl, Below.refl _ _⟩
  case round =>
    obtain ⟨k, hk, rfl, rfl, rfl, hb⟩ := hrel
    by_cases hlt : k < ns.length
    · obtain ⟨b5, o5, rfl, _, _, c0, c1, c2, c3, A5, c5, c4, _⟩ := (HN.out.below hb).nodeAt k hlt
      have hkz : (k : Int) < (ns.length : Int) := by omega
      have hsu := sum_take_succ f k (by omega)
      have hfk : f[k]'(by omega) = ns[k].packs.length := by have := HF.out; subst this; simp
      rw [hfk] at hsu
      have hle := sum_take_le f (k + 1)
      rw [hsu] at hle
      generalize ns[k] = nd at c0 c1 c2 c3 c4 hsu hle hfk
      have hbB := below1 wr (.cells #[.bool nd.y.t, .int .i64 nd.y.n, .int .i64 nd.i, .int .i64 nd.j, .slice A5 nd.packs.length c5] 40)
      have hadd : IntKind.i64.wrap (((f.take k).sum : Int) + (nd.packs.length : Int)) = ((f.take k).sum : Int) + (nd.packs.length : Int) := IntWalk.i64_in _ (by omega)
      have HS := Lib.hid hsu
      have hb2 := hb.trans (hbB.mono hb.size)
      clear hsu hfk
      generalize (f.take k).sum = sm at hadd HS hle
      go_wp2_with fail
      go_roundg (ns.length - (k + 1))
      case measure => omega
      case rel => exact ⟨k + 1, by omega, rfl, by rw [HS.out]; simp, by go_num, hb2⟩
    · obtain rfl : k = ns.length := by omega
      have hfin : (f.take ns.length).sum = f.sum := by rw [← hfl, List.take_length]
      rw [hfin]
      have HFIN := Lib.hid hfin
      clear hfin
      go_wp2_with fail
      go_ret
      exact ⟨rfl, hb0.trans (hb.mono hb0.size)⟩

set_option maxRecDepth 100000 in
set_option maxHeartbeats 3200000 in
/-- the closure: the mirrored part, and as many packs -/
theorem mirNode_any (nd m : NodeD) (A : Option Addr) (c bn bw : Nat) (B : Option Addr) (d : Nat) (C : Option Addr) (ln cc : Nat) (w : World) (hn : w.heap[bn]? = some (.cells #[.bool nd.y.t, .int .i64 nd.y.n, .int .i64 nd.i, .int .i64 nd.j, .slice B nd.packs.length d] 40 (0, 0))) (hw : w.heap[bw]? = some (.cells #[.slice C ln cc] 22 (0, 0))) (h12 : ln ≤ 12) (hi : nd.i ≤ ln) (hj : nd.j ≤ ln) :
    Calls Try.prog 26 #[nodeV m A c, .pointer (some ⟨bn, 0, none⟩), .pointer (some ⟨bw, 0, none⟩)] w fun e w' => e = .returned (.bool (decide (m.y = nd.y ∧ m.i = ln - nd.j ∧ m.j = ln - nd.i ∧ m.packs.length = nd.packs.length))) ∧ Below w.heap.size w w' := by
  have hbl := blk_lt hn
  have hbw := blk_lt hw
  have n0 := blk_cell hn (i := 0) rfl
  have n1 := blk_cell hn (i := 1) rfl
  have n2 := blk_cell hn (i := 2) rfl
  have n3 := blk_cell hn (i := 3) rfl
  have n4 := blk_cell hn (i := 4) rfl
  have w0 := blk_cell hw (i := 0) rfl
  have hB : ∀ o, Below w.heap.size w (w.alloc o) := below1 w
  have fin : ∀ b : Bool, decide (m.y = nd.y ∧ m.i = ln - nd.j ∧ m.j = ln - nd.i ∧ m.packs.length = nd.packs.length) = b → ∀ o, (Ending.returned (.bool b) = Ending.returned (.bool (decide (m.y = nd.y ∧ m.i = ln - nd.j ∧ m.j = ln - nd.i ∧ m.packs.length = nd.packs.length)))) ∧ Below w.heap.size w (w.alloc o) := fun b h o => ⟨by rw [h], hB o⟩
  obtain ⟨⟨mt, mn⟩, mi, mj, mp⟩ := m
  obtain ⟨⟨nt, nn⟩, ni, nj, np⟩ := nd
  unfold nodeV
  simp only at n0 n1 n2 n3 n4 fin hi hj ⊢
  generalize mp.length = ml at fin ⊢
  generalize np.length = nl at fin n4 hn ⊢
  have s1 : IntKind.i64.wrap ((ln : Int) - (nj : Int)) = (ln : Int) - (nj : Int) := IntWalk.i64_in _ (by omega)
  have s2 : IntKind.i64.wrap ((ln : Int) - (ni : Int)) = (ln : Int) - (ni : Int) := IntWalk.i64_in _ (by omega)
  have e1 : (ln : Int) - (nj : Int) = ((ln - nj : Nat) : Int) := by omega
  have e2 : (ln : Int) - (ni : Int) = ((ln - ni : Nat) : Int) := by omega
  rw [e1] at s1
  rw [e2] at s2
  generalize ln - nj = a at fin s1 e1 ⊢
  generalize ln - ni = b at fin s2 e2 ⊢
  have HB := Lib.hid hB
  by_cases h1 : mt = nt
  · subst h1
    by_cases h2 : mn = nn
    · subst h2
      by_cases h3 : mi = a
      · subst h3
        by_cases h4 : mj = b
        · subst h4
          by_cases h5 : ml = nl
          · subst h5
            have HF := Lib.hid (fin true (decide_eq_true ⟨rfl, rfl, rfl, rfl⟩))
            clear fin hB
            go_enter Try.func26, Try.ntmps26
            go_wp2_with fail
            go_ret
            first | exact ⟨rfl, HB.out _⟩ | exact HF.out _
          · have h5a : ((ml : Int) == (nl : Int)) = false := beq_eq_false_iff_ne.2 (by omega)
            have h5b : (ml == nl) = false := by simp [h5]
            have HF := Lib.hid (fin false (decide_eq_false fun h => h5 h.2.2.2))
            clear fin hB
            go_enter Try.func26, Try.ntmps26
            go_wp2_with fail
            go_ret
            first | exact ⟨rfl, HB.out _⟩ | exact HF.out _
        · have h4a : ((mj : Int) == (b : Int)) = false := beq_eq_false_iff_ne.2 (by omega)
          have h4b : (mj == b) = false := by simp [h4]
          have HF := Lib.hid (fin false (decide_eq_false fun h => h4 h.2.2.1))
          clear fin hB
          go_enter Try.func26, Try.ntmps26
          go_wp2_with fail
          go_ret
          first | exact ⟨rfl, HB.out _⟩ | exact HF.out _
      · have h3a : ((mi : Int) == (a : Int)) = false := beq_eq_false_iff_ne.2 (by omega)
        have h3b : (mi == a) = false := by simp [h3]
        have HF := Lib.hid (fin false (decide_eq_false fun h => h3 h.2.1))
        clear fin hB
        go_enter Try.func26, Try.ntmps26
        go_wp2_with fail
        go_ret
        first | exact ⟨rfl, HB.out _⟩ | exact HF.out _
    · have HF := Lib.hid (fin false (decide_eq_false fun h => h2 (by have := congrArg Sym.n h.1; exact this)))
      clear fin hB
      go_enter Try.func26, Try.ntmps26
      go_wp2_with fail
      go_ret
      first | exact ⟨rfl, HB.out _⟩ | exact HF.out _
  · have HF := Lib.hid (fin false (decide_eq_false fun h => h1 (by have := congrArg Sym.t h.1; exact this)))
    clear fin hB
    go_enter Try.func26, Try.ntmps26
    go_wp2_with fail
    go_ret
    first | exact ⟨rfl, HB.out _⟩ | exact HF.out _
end Go.Proofs.Ytdbkbkopcnkgcaa
