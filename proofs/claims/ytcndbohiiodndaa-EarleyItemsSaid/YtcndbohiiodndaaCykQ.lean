import Derived.Test.YtcndbohiiodndaaCykF
open Go Go.RowKit
namespace Go.Proofs.Ytcndbohiiodndaa

theorem ChartAt.isRow {F : Nat → Prop} {w : World} {bc : Nat} {g : Gram} {x : List Int} {A : Option Addr} {c : Nat} {B : Option Addr} {d : Nat} {hA : Option Addr} {hc : Nat} {iA : Option Addr} {ic : Nat} {H : List (List (List (Nat × Nat)))} {I : List (List (Nat × Nat))} {M : Nat → Nat → Nat → Nat → Bool} {K : Nat → Nat → Nat → Bool}
    (h : ChartAt F w bc g x A c B d hA hc iA ic H I M K) {i j : Nat} (hi : i ≤ x.length) (hj : j ≤ x.length) :
    ∃ b1 o1 b2 o2 c2, iA = some ⟨b1, o1, none⟩ ∧ w.cell? ⟨b1, o1 + i, none⟩ = some (.slice (some ⟨b2, o2, none⟩) (x.length + 1) c2) ∧
      w.cell? ⟨b2, o2 + j, none⟩ = some (.slice (some ⟨(at2 I i j).1, 0, none⟩) g.nons.toNat g.nons.toNat) ∧ w.heap[(at2 I i j).1]? = some (.cells (bitsOf (K i j) g.nons.toNat) 4 (0, 0)) := by
  obtain ⟨h1, h2, he1, he2⟩ := h.grid.get2 hi hj
  obtain ⟨b1, o1, rfl, _, _, A2, c2, k1, s1⟩ := h.grid.is.rowAt i h1
  obtain ⟨b2, o2, rfl, _, _, k2⟩ := s1.oneAt j h2
  refine ⟨b1, o1, b2, o2, c2, rfl, ?_, ?_, h.bits.is i j hi hj⟩
  · rw [k1, h.grid.ir _ (by simp)]
  · rw [k2, he1]
    unfold hdV
    rw [he2]

theorem Try.sizeInt (w : World) : (sizeOf 3).run Try.prog w = .ok 1 w := by kernel_rfl
theorem Try.infoIntQ : (Try.prog.info? 3).map (fun i => (i.zero, i.size, i.bytes)) = some (some (.int .i64 0), 1, 8) := by kernel_rfl

theorem own_intsQ {w : World} {base n : Nat} {v : Value} {l : List Int} (h : w.ownsRow base 3 1 v n (l.map (Value.int .i64))) : IsSl Elt.int (fun b => base ≤ b) w v l := by
  have hl := h.1
  rw [List.length_map, Nat.mul_one] at hl
  subst hl
  have hm := own_max h
  obtain ⟨A, c, rfl⟩ := own_form h
  refine ⟨A, c, rfl, hm, fun k hk => ?_⟩
  obtain ⟨b, cap, he, hb1, hb2⟩ := h.form (by omega)
  injection he with he1 he2 he3
  subst he1
  have k1 := h.cells (g := b) rfl k (.int .i64 l[k]) (by simp [hk])
  rw [add_lit0] at k1
  refine ⟨b, 0, rfl, hb1, cell_lt k1, hb1, ?_⟩
  show w.cell? ⟨b, 0 + k * 1, none⟩ = _
  rw [Nat.zero_add, Nat.mul_one]; exact k1

/-- what Parts leaves -/
def PartsEnd (w w' : World) (e : Ending) (g : Gram) (x : List Int) (i j : Nat) : Prop :=
  ∃ (l : List Int) (C : Option Addr) (c : Nat), e = .returned (.tuple #[.slice C l.length c, .int .i64 0]) ∧ PartsOf g x i j l ∧ Below w.heap.size w w' ∧ IsSl Elt.int (fun b => w.heap.size ≤ b) w' (.slice C l.length c) l

/-- the chart, empty, and the world behind -/
def NewEnd (W wx : World) (s : Value) (g : Gram) (x : List Int) (A : Option Addr) (c : Nat) (B : Option Addr) (d : Nat) : Prop :=
  ∃ (F : Nat → Prop) (bc : Nat) (hA : Option Addr) (hc : Nat) (iA : Option Addr) (ic : Nat) (H : List (List (List (Nat × Nat)))) (I : List (List (Nat × Nat))), s = .pointer (some ⟨bc, 0, none⟩) ∧ Below W.heap.size W wx ∧ (∀ b, LeafB H I b → W.heap.size ≤ b) ∧ ChartAt F wx bc g x A c B d hA hc iA ic H I (fun _ _ _ _ => false) (fun _ _ _ => false)
theorem ChartNew.newEnd {W W0 wx : World} {e : Ending} {F0 : Nat → Prop} {g : Gram} {x : List Int} {A : Option Addr} {c : Nat} {B : Option Addr} {d : Nat} (h : ChartNew W wx e F0 g x A c B d) (hb : Below W0.heap.size W0 W) : ∃ s, e = .returned s ∧ NewEnd W0 wx s g x A c B d := by
  obtain ⟨F, bc, hA, hc, iA, ic, H, I, rfl, hb2, hlo, hF, hl, hC⟩ := h
  have hs := hb.size
  refine ⟨_, rfl, F, bc, hA, hc, iA, ic, H, I, rfl, hb.trans (hb2.mono hs), ?_, hC⟩
  rintro b ⟨p, hp, rfl⟩
  have := (hl p hp).1
  omega

section
variable {g : Gram} {x : List Int} {A : Option Addr} {c : Nat} {B : Option Addr} {d : Nat}

set_option maxRecDepth 100000 in
set_option maxHeartbeats 4000000 in
theorem parts_any (F0 : Nat → Prop) (i j : Nat) (w : World) (hr : IsSl Elt.rule F0 w (.slice A g.rules.length c) g.rules) (hx : IsSl Elt.int F0 w (.slice B x.length d) x) (hv : Valid g) (hc : g.rules.length ≤ c) (ho : OkWord g x) (hm : x.length ≤ 12) (hd : x.length ≤ d) (hij : i ≤ j) (hj : j ≤ x.length) :
    Calls Try.prog 38 #[gramV g (.slice A g.rules.length c), .slice B x.length d, .int .i64 i, .int .i64 j] w fun e w' => PartsEnd w w' e g x i j := by
  obtain ⟨B2, hsl, hxp⟩ := run_part_sl (P := Try.prog) Try.underlying22 Try.sizeInt rfl hx hd i j hij hj
  have hxl : ((x.drop i).take (j - i)).length = j - i := by rw [List.length_take, List.length_drop]; omega
  obtain ⟨ii, hii, hz0, hz1, hz2⟩ := info_parts Try.infoIntQ
  unfold gramV
  go_enter Try.func38, Try.ntmps38
  go_wp2_with fail
  have hbA := below1 w (.cells #[.int .i64 g.terms, .int .i64 g.nons, .int .i64 g.start, .slice A g.rules.length c] 25)
  have hgb := heap_alloc_new w (.cells #[.int .i64 g.terms, .int .i64 g.nons, .int .i64 g.start, .slice A g.rules.length c] 25)
  have hacc := accepts_any F0 g A _ c x B _ d _ (hr.below hbA) hv hc (hx.below hbA) ho hm
  unfold gramV at hacc
  refine hacc.mono ?_
  rintro e3 w3 ⟨whole, rfl, -, hb3⟩
  have hg3 := blk_below hb3 (blk_lt hgb) hgb
  have hw3 : Below w.heap.size w w3 := hbA.trans (hb3.mono hbA.size)
  have hr3 := hr.below hw3
  have hx3 := hxp.below hw3
  have k0 := blk_cell hg3 (i := 0) rfl
  have k1 := blk_cell hg3 (i := 1) rfl
  have k2 := blk_cell hg3 (i := 2) rfl
  have k3 := blk_cell hg3 (i := 3) rfl
  have hn1 : decide ((i : Int) < 0) = false := by simp
  have hn2 : decide ((j : Int) < (i : Int)) = false := by simp; omega
  have hn3 : decide ((x.length : Int) < (j : Int)) = false := by simp; omega
  have hnc : ∀ W : World, Below w3.heap.size w3 W → Calls Try.prog 88 #[gramV g (.slice A g.rules.length c), .slice B2 (j - i) (d - i)] W fun e w' => ChartNew W w' e F0 g ((x.drop i).take (j - i)) A c B2 (d - i) := fun W hW => by
    have := newChart_any F0 g ((x.drop i).take (j - i)) A c B2 (d - i) W (hr3.below hW) (by rw [hxl]; exact hx3.below hW) hv (by omega)
    rwa [hxl] at this
  unfold gramV at hnc
  have HNC := Lib.hid hnc
  clear hacc hb3 hbA hgb hnc hr hx hxp hr3 hx3
  go_wp2_with fail
  go_cut [12] (fun s wx => NewEnd w3 wx s g ((x.drop i).take (j - i)) A c B2 (d - i))
  case first =>
    go_region_law (first | (refine step_call rfl 88 Try.f88 Try.func88 (by kernel_rfl) (by kernel_rfl) [_, _] _ rfl [.agg #[.int .i64 g.terms, .int .i64 g.nons, .int .i64 g.start, .slice A g.rules.length c], .slice B2 (j - i) (d - i)] rfl _ (HNC.out _ (Below.refl _ _).drew) ?_; intro e4 w4 hN4; obtain ⟨s4, rfl, hN⟩ := hN4.newEnd (Below.refl _ w3).drew; refine ⟨_, rfl, ?_⟩))
    all_goals
      go_wp2_with fail
      go_meet
      exact hN
  case rest =>
  obtain ⟨F, bc, hA, hc, iA, ic, H, I, rfl, hb4, hleaf, hC⟩ := hcut
  have hS := FillSt.start hC
  clear hC hsl hn1 hn2 hn3 k0 k1 k2 k3
  have hdp : ∀ n, Drv g ((x.drop i).take (j - i)) [⟨false, n⟩] 0 (j - i) ↔ Drv g x [⟨false, n⟩] i j := fun n => by
    have := drv_part (g := g) (x := x) (i := i) (m := j - i) (by omega) (l := [⟨false, n⟩])
    rwa [show i + (j - i) = j by omega] at this
  generalize (x.drop i).take (j - i) = x' at hxl hS hdp
  obtain ⟨m, hmm⟩ : ∃ m, j - i = m := ⟨_, rfl⟩
  have hjm : (j : Int) - (i : Int) = (m : Int) := by omega
  have hxm : x'.length = m := by omega
  rw [hmm] at hdp
  have HDP := Lib.hid hdp
  have HJM := Lib.hid hmm
  have HXM := Lib.hid hxm
  clear hmm hxm hxl hdp
  go_wp2_with fail
  go_loopg [13] (m + 1) (fun gk sv wr => ∃ (s : Nat) (M : Nat → Nat → Nat → Nat → Bool) (K : Nat → Nat → Nat → Bool), s ≤ m + 1 ∧ gk = m + 1 - s ∧ sv = .int .i64 s ∧ FillSt F wc wr bc g x' A c B2 (d - i) hA hc iA ic H I s 0 M K)
  case atStart => exact ⟨0, _, _, by omega, by omega, rfl, hS⟩
  case round =>
    clear hS
    obtain ⟨s, M, K, hs, rfl, rfl, hS⟩ := hrel
    by_cases hlt : s < m + 1
    · have hsz : (s : Int) ≤ (j : Int) - (i : Int) := by omega
      have hsm : s ≤ m := by omega
      go_wp2_with fail
      go_loopg [14] (m + 1 - s) (fun gk kv wr => ∃ (k : Nat) (M : Nat → Nat → Nat → Nat → Bool) (K : Nat → Nat → Nat → Bool), k + s ≤ m + 1 ∧ gk = m + 1 - s - k ∧ kv = .int .i64 k ∧ FillSt F wc wr bc g x' A c B2 (d - i) hA hc iA ic H I s k M K)
      case atStart => exact ⟨0, M, K, by omega, by omega, rfl, hS⟩
      case round =>
        clear hS
        obtain ⟨k, M, K, hk, rfl, rfl, hS⟩ := hrel
        by_cases hlt2 : k + s < m + 1
        · have hkz : (k : Int) + (s : Int) ≤ (m : Int) := by omega
          have hksm : k + s ≤ m := by omega
          go_wp2_with fail
          go_loopg [] (roomC g M K k (k + s) + 1) (fun gk wr => ∃ (M : Nat → Nat → Nat → Nat → Bool) (K : Nat → Nat → Nat → Bool), gk = roomC g M K k (k + s) + 1 ∧ FillSt F wc wr bc g x' A c B2 (d - i) hA hc iA ic H I s k M K)
          case atStart => exact ⟨M, K, rfl, hS⟩
          case round =>
            clear hS
            obtain ⟨M, K, rfl, hS⟩ := hrel
            have hst := step_any _ hS.1 hS.2.2.1 hv (show x'.length ≤ 12 by have := HXM.out; omega) (Nat.le_add_right k s) (show k + s ≤ x'.length by have := HXM.out; omega)
            simp only [Int.natCast_add] at hst
            go_wp2_with fail
            refine hst.mono ?_
            rintro e5 w5 ⟨mv, M', K', rfl, hT, hP⟩
            have hS5 := hS.more hT
            rcases hP with ⟨rfl, hP⟩ | ⟨rfl, rfl, rfl, hP⟩
            · go_wp2_with fail
              go_roundg (roomC g M' K' k (k + s) + 1)
              case measure => omega
              case rel => exact ⟨M', K', rfl, hS5⟩
            · go_wp2_with fail
              go_roundg (m + 1 - s - (k + 1))
              case measure => omega
              case rel => exact ⟨k + 1, _, _, by omega, rfl, by go_num, hS5.done hP⟩
        · have hkz : ¬ ((k : Int) + (s : Int) ≤ (m : Int)) := by omega
          go_wp2_with fail
          go_roundg (m + 1 - (s + 1))
          case measure => omega
          case rel => exact ⟨s + 1, M, K, by omega, rfl, by go_num, hS.next (by have := HXM.out; omega)⟩
    · obtain rfl : s = m + 1 := by omega
      have hsz : ¬ (((m + 1 : Nat) : Int) ≤ (j : Int) - (i : Int)) := by omega
      have hit := fun n => (hS.iff (by have := HXM.out; omega) n 0 m).trans (HDP.out n)
      obtain ⟨b1, o1, b2, o2, c2, hiA, q1, q2, q3⟩ := hS.1.isRow (i := 0) (j := m) (by omega) (by have := HXM.out; omega)
      have qb := blk_cell hS.1.blk (i := 6) rfl
      rw [hiA, HXM.out] at qb
      rw [HXM.out] at q1
      rw [Nat.add_zero] at q1
      have hpo := nonsOf_parts (g := g) (x := x) (i := i) (j := j) (f := K 0 m) hit
      have hN : g.nons.toNat ≤ 10 := by have := hv.n10; omega
      generalize g.nons.toNat = N at q2 q3 hpo hN
      have HPO := Lib.hid hpo
      have hw4 : Below w.heap.size w wc := hw3.trans (hb4.mono hw3.size)
      have hwr : Below w.heap.size w wr := hw4.trans ((hS.2.1.mono hw4.size (fun _ _ h => h)).below fun b hb hb2 => by have := hleaf b hb2; have := hw3.size; omega)
      clear hit hpo hiA hS
      obtain ⟨wo, rfl⟩ : ∃ wo : World, wo = wr := ⟨_, rfl⟩
      go_wp2_with fail
      clear q1 q2 qb
      generalize K 0 m = f at HPO q3
      generalize (at2 I 0 m).1 = lb at q3 ⊢
      go_loopg [15, 80] N (fun gk ov q wr => ∃ k : Nat, k ≤ N ∧ gk = N - k ∧ q = .int .i64 k ∧ Below wo.heap.size wo wr ∧ wr.ownsRow wo.heap.size 3 1 ov (nonsOf f k).length ((nonsOf f k).map (Value.int .i64)))
      case atStart => exact ⟨0, by omega, by omega, rfl, Below.refl _ _, World.ownsRow_nil _ _ _ _⟩
      case round =>
        obtain ⟨k, hk, rfl, rfl, hb, hO⟩ := hrel
        have hln := nonsOf_len f k
        have hsz := hb.size
        by_cases hlt : k < N
        · have qk := blk_cell (blk_below hb (blk_lt q3) q3) (bits_get f N k hlt)
          have hsucc := nonsOf_succ f k
          have hkz : (k : Int) < (N : Int) := by omega
          obtain ⟨v, hfv⟩ : ∃ v, f k = v := ⟨_, rfl⟩
          rw [hfv] at qk hsucc
          clear hfv
          cases v
          · simp only [Bool.false_eq_true, if_false, List.append_nil] at hsucc
            have HS := Lib.hid hsucc
            clear hsucc
            go_wp2_with fail
            go_roundg (N - (k + 1))
            case measure => omega
            case rel => exact ⟨k + 1, by omega, rfl, by go_num, hb, by rw [HS.out]; exact hO⟩
          · simp only [if_true] at hsucc
            have HS := Lib.hid hsucc
            clear hsucc
            go_wp2_with (first | (at_builtin; refine wpList_append_src _ rfl (.tmp 86) (.tmp 88) 22 rfl wo.heap.size 3 ii (.int .i64 0) 1 8 Try.underlying22 hii hz0 hz1 hz2 rfl (by decide) _ (nonsOf f k).length ((nonsOf f k).map (Value.int .i64)) rfl ?ho (some ⟨wr.heap.size, 0, none⟩) 1 1 [.int .i64 k] rfl rfl ?c0 ?c1 ?c2 ?c3 ?c4 ?c5 ?_))
            case ho => exact hO.alloc _
            case c0 => intro h; cases h
            case c1 => intro a ha j u hj; injection ha with ha; subst ha; exact cells_new _ _ _ _ _ hj
            case c2 => intro u hu; simp at hu; subst hu; rfl
            case c3 => unfold maxLen; omega
            case c4 => omega
            case c5 => rw [World.size_alloc]; omega
            intro v' w7 hown7 hg7 hat7
            have hb7 : Below wo.heap.size wo w7 := (hb.alloc hsz _).grown hg7 (by rw [World.size_alloc]; omega) fun j hj => own_base' hO j hj
            go_wp2_with fail
            go_roundg (N - (k + 1))
            case measure => omega
            case rel => exact ⟨k + 1, by omega, rfl, by go_num, hb7, by rw [HS.out]; simpa using hown7⟩
        · obtain rfl : k = N := by omega
          obtain ⟨C, cc, rfl⟩ := own_form hO
          have hsl := own_intsQ hO
          have hwr' := hwr.trans (hb.mono hwr.size)
          have hlo := hwr.size
          have hls := hsl.weak (G := fun b => w.heap.size ≤ b) fun b hb => by omega
          clear hO hb q3 hsl
          go_wp2_with fail
          go_ret2
          exact ⟨_, C, cc, rfl, HPO.out, hwr', hls⟩
end
end Go.Proofs.Ytcndbohiiodndaa
