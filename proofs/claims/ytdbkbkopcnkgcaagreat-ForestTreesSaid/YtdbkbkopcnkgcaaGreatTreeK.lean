import Derived.Test.YtdbkbkopcnkgcaaGreatTreeJ
import Derived.Test.YtdbkbkopcnkgcaaGreatMeanCount
open Go Go.RowKit
open Go.ChangeMaps (setBlock)
namespace Go.Proofs.YtdbkbkopcnkgcaaGreat

/-! ### mean.Trees: the plain side -/
def setP (of : MPart → List Rk) (y : MPart) (l : List Rk) : MPart → List Rk := fun z => if y = z then l else of z
def stepP (g : Gram) (x : List Int) (M : List (List Nat)) (most : Nat) (s : (MPart → List Rk) × Bool) (y : MPart) : (MPart → List Rk) × Bool := if sameP (againP g x M most s.1 y) (s.1 y) = true then s else (setP s.1 y (againP g x M most s.1 y), true)
def passP (g : Gram) (x : List Int) (M : List (List Nat)) (most : Nat) (ys : List MPart) (of : MPart → List Rk) : (MPart → List Rk) × Bool := ys.foldl (stepP g x M most) (of, false)
def loopP (g : Gram) (x : List Int) (M : List (List Nat)) (most : Nat) (ys : List MPart) : Nat → (MPart → List Rk) → Option (MPart → List Rk)
  | 0, _ => none
  | f + 1, of => if (passP g x M most ys of).2 = true then loopP g x M most ys f (passP g x M most ys of).1 else some (passP g x M most ys of).1
def rootM (g : Gram) (x : List Int) : MPart := ⟨g.start, 0, x.length⟩
def partsR (g : Gram) (x : List Int) (M : List (List Nat)) : List MPart := (rchP g x M ((partsM g x).length + 1) (rootM g x) []).reverse
def treesOf (l : List Rk) : List Tr := l.flatMap (·.row)

theorem row_one {g : Gram} {hd : List Int} {y : Sym} {a : Rk} (h : RkFit g hd [y] a) (h4 : ∀ r ∈ g.rules, r.r.length ≤ 4) : ∃ t, a.row = [t] ∧ SmallT t := by
  obtain ⟨⟨p, _, h2⟩, _, _⟩ := h
  have hl := h2.len.2
  have hs := h2.small h4
  match hr : a.row, hl with
  | [t], _ => exact ⟨t, rfl, hs t (by rw [hr]; simp)⟩
  | [], hl => simp at hl
  | _ :: _ :: _, hl => simp at hl
theorem setP_ok {g : Gram} {most : Nat} {of : MPart → List Rk} (h : OfOk g most of) {y : MPart} {l : List Rk} (hf : ∀ a ∈ l, RkFit g [] [⟨false, y.n⟩] a) (hl : l.length ≤ most) : OfOk g most (setP of y l) := by
  refine ⟨fun z => ?_, fun z => ?_⟩
  · unfold setP
    split
    · rename_i e; subst e; exact hf
    · exact h.fit z
  · unfold setP
    split
    · exact hl
    · exact h.len z
theorem stepP_ok {g : Gram} {x : List Int} {M : List (List Nat)} {most : Nat} (hv : Valid g) (hm : most ≤ 100) {s : (MPart → List Rk) × Bool} (h : OfOk g most s.1) {y : MPart} (hj : y.j ≤ 12) : OfOk g most (stepP g x M most s y).1 := by
  unfold stepP
  split
  · exact h
  · have := againP_fit (x := x) (M := M) h hm (fun r hr => (hv.ok r hr).len) hj (y := y)
    exact setP_ok h this.1 this.2
theorem OfOk.nil (g : Gram) (most : Nat) : OfOk g most fun _ => [] := ⟨fun _ => by simp, fun _ => by simp⟩
theorem root_mem {g : Gram} {x : List Int} {M : List (List Nat)} (hv : Valid g) : rootM g x ∈ rchP g x M ((partsM g x).length + 1) (rootM g x) [] := by
  unfold rchP
  rw [if_neg (by simp)]
  have hy : OkMP g x (rootM g x) := ⟨hv.s0, hv.s1, Nat.zero_le _, Nat.le_refl _⟩
  have h0 : RchOk g x [rootM g x] := ⟨by simp, fun z hz => by simp at hz; rw [hz]; exact hy⟩
  have := foldl_inv (f := rruleP (rchP g x M (partsM g x).length) x M (rootM g x)) (P := RchStep g x [rootM g x]) g.rules [rootM g x] (RchStep.refl h0) fun s1 r h1 hr => h1.trans (rruleP_ok (rchP_ok hv _) hv hr hy h1.ok)
  exact this.sub _ (List.mem_cons_self ..)
theorem parts_okR {g : Gram} {x : List Int} {M : List (List Nat)} (hv : Valid g) : RchOk g x (rchP g x M ((partsM g x).length + 1) (rootM g x) []) :=
  (rchP_ok hv _ (rootM g x) [] ⟨hv.s0, hv.s1, Nat.zero_le _, Nat.le_refl _⟩ ⟨by simp, by simp⟩).ok

/-- the state of the search, in memory -/
structure LoopAt (w0 wr : World) (g : Gram) (most bo : Nat) (ys : List MPart) (hs : List (MPart × Hd)) (of : MPart → List Rk) : Prop where
  away : Away w0.heap.size (fun b => b = bo) w0 wr
  map : IsMap mpartV hdR wr bo hs
  rows : OfAt (fun b => w0.heap.size ≤ b) wr hs of
  keys : ∀ y ∈ ys, ∃ h, alook hs y = some h
  ok : OfOk g most of
theorem LoopAt.below {w0 wr w' : World} {g : Gram} {most bo : Nat} {ys : List MPart} {hs : List (MPart × Hd)} {of : MPart → List Rk} (h : LoopAt w0 wr g most bo ys hs of) (hb : Below wr.heap.size wr w') : LoopAt w0 w' g most bo ys hs of :=
  ⟨h.away.trans ((Away.ofBelow hb).mono h.away.size fun _ _ h => h), h.map.below hb, h.rows.below hb, h.keys, h.ok⟩

/-- how Trees ends -/
def TreesEnd (g : Gram) (x : List Int) (M : List (List Nat)) (most : Nat) (w w' : World) (e : Ending) : Prop :=
  ((cntU g x M = 0 ∨ most = 0) ∧ e = .returned (.tuple #[.slice none 0 0, .int .i64 0])) ∨
  (cntU g x M ≠ 0 ∧ most ≠ 0 ∧ ∃ f of', loopP g x M most (partsR g x M) f (fun _ => []) = some of' ∧
    ((((of' (rootM g x)).length : Int) < min (if cntU g x M = -1 then (most : Int) else cntU g x M) most ∧ e = .returned (.tuple #[.slice none 0 0, .int .i64 2])) ∨
    (¬ ((of' (rootM g x)).length : Int) < min (if cntU g x M = -1 then (most : Int) else cntU g x M) most ∧ ∃ A c, e = .returned (.tuple #[.slice A (treesOf (of' (rootM g x))).length c, .int .i64 0]) ∧ (treesOf (of' (rootM g x))).length ≤ c ∧ IsSl Elt.tree (fun b => w.heap.size ≤ b ∧ Cel w' b) w' (.slice A (treesOf (of' (rootM g x))).length c) (treesOf (of' (rootM g x))))))

set_option maxRecDepth 100000 in
set_option maxHeartbeats 16000000 in
theorem trees_any (F : Nat → Prop) {g : Gram} {x : List Int} {A : Option Addr} {c : Nat} {B : Option Addr} {d : Nat} (hv : Valid g) (hx12 : x.length ≤ 12) (w : World) (hc : g.rules.length ≤ c) (ho : OkWord g x)
    (hr : IsSl Elt.rule F w (.slice A g.rules.length c) g.rules) (hx : IsSl Elt.int F w (.slice B x.length d) x) (most : Nat) (hmost : most ≤ 100)
    (hloop : ∀ M, IsM g x M → cntU g x M ≠ 0 → most ≠ 0 → ∃ f of', loopP g x M most (partsR g x M) f (fun _ => []) = some of') :
    Calls Tryz.prog 10 #[gramV g (.slice A g.rules.length c), .slice B x.length d, .int .i64 most] w fun e w' => ∃ M, IsM g x M ∧ TreesEnd g x M most w w' e ∧ Below w.heap.size w w' := by
  have hb0 := below1 w (.cells #[.int .i64 g.terms, .int .i64 g.nons, .int .i64 g.start, .slice A g.rules.length c] 25)
  have g0 := heap_alloc_new w (.cells #[.int .i64 g.terms, .int .i64 g.nons, .int .i64 g.start, .slice A g.rules.length c] 25)
  have hcn := mcount_any F hv hx12 _ hc ho (hr.below hb0) (hx.below hb0)
  have k0 := blk_cell g0 (i := 0) rfl
  have k1 := blk_cell g0 (i := 1) rfl
  have k2 := blk_cell g0 (i := 2) rfl
  have k3 := blk_cell g0 (i := 3) rfl
  have m1 : ¬ ((most : Int) < 0) := by omega
  have m2 : ¬ ((most : Int) > 100) := by omega
  obtain ⟨iT, hiT, hT0, hT2, hT3⟩ := info_parts Tryz.infoTTreeI
  have HLOOP := Lib.hid hloop
  clear hloop
  unfold gramV at hcn ⊢
  go_enter Tryz.func10, Tryz.ntmps10
  go_wp2_with fail
  refine hcn.mono ?_
  rintro e1 w1 ⟨M, hIM, rfl, hb1⟩
  have g1 := blk_below hb1 (blk_lt g0) g0
  have hw1 := hb0.trans (hb1.mono hb0.size)
  have HIM := Lib.hid hIM
  generalize hcU : cntU g x M = cu
  have HCU := Lib.hid hcU
  clear hcn k0 k1 k2 k3 hIM hcU g0 hb0 hb1
  by_cases hz : cu = 0 ∨ most = 0
  · have HZ := Lib.hid hz
    have hfin : ∀ w', TreesEnd g x M most w w' (.returned (.tuple #[.slice none 0 0, .int .i64 0])) := fun w' => .inl ⟨by rw [HCU.out]; exact HZ.out, rfl⟩
    have HF := Lib.hid hfin
    clear hfin hz
    by_cases hz1 : cu = 0
    · subst hz1
      go_wp2_with fail
      go_ret2
      exact ⟨M, HIM.out, HF.out _, hw1⟩
    · have hm0 : most = 0 := HZ.out.resolve_left hz1
      subst hm0
      have hz2 : (cu == 0) = false := by simpa using hz1
      go_wp2_with fail
      go_ret2
      exact ⟨M, HIM.out, HF.out _, hw1⟩
  · have hz1 : cu ≠ 0 := fun e => hz (.inl e)
    have hz2 : most ≠ 0 := fun e => hz (.inr e)
    obtain ⟨fuel, fin, hlp⟩ := HLOOP.out M HIM.out (by rw [HCU.out]; exact hz1) hz2
    have HLP := Lib.hid hlp
    have z1 : (cu == 0) = false := by simpa using hz1
    have z2 : ((most : Int) == 0) = false := by simpa using hz2
    have hde := derived_any F g A _ c x B _ d w1 (hr.below hw1) hv (hx.below hw1) hx12
    unfold gramV at hde
    clear HLOOP hlp hz hr hx
    have k0 := blk_cell g1 (i := 0) rfl
    have k1 := blk_cell g1 (i := 1) rfl
    have k2 := blk_cell g1 (i := 2) rfl
    have k3 := blk_cell g1 (i := 3) rfl
    go_wp2_with fail
    refine hde.mono ?_
    rintro e2 w2 ⟨be, rfl, hb2, M2, C, p, q, hE, hsh, hso, hcl⟩
    obtain rfl : M2 = M := IsM.unique ⟨hsh, hso, hcl⟩ HIM.out
    have g2 := blk_below hb2 (blk_lt g1) g1
    have hw2 := hw1.trans (hb2.mono hw1.size)
    have hlow := sound_low hso
    have hshort : Short x M2 := sound_short hso (entry_neg M2)
    have hE2 : IsEnds (fun b => b < w2.heap.size) w2 be g x M2 A g.rules.length c B x.length d C p q :=
      ⟨cell_lt hE.c0, hE.c0, hE.c1, hE.c2, hE.c3, hE.c4, hE.c5, hE.rules.old.weak fun _ h => h.2, hE.word.old.weak fun _ h => h.2, hE.mat.old.weak fun _ h => h.2⟩
    clear hde k0 k1 k2 k3 g1 hb2 hw1 hE hso hcl
    have k2 : ∀ o o', ((w2.alloc o).alloc o').cell? ⟨w.heap.size, 2, none⟩ = some (.int .i64 g.start) := fun o o' => cell_alloc_old (cell_alloc_old (blk_cell g2 (i := 2) rfl) _) _
    have hmk : ∀ W : World, (Instr.makeMap 80 none).run Tryz.prog W = .ok (.map (some W.heap.size)) (W.alloc (.map #[] 0)) := fun _ => rfl
    go_wp2_with fail
    obtain ⟨W3, hW3⟩ : ∃ W3 : World, W3 = ((w2.alloc (.map #[] 0)).alloc (.cells #[.pointer (some ⟨be, 0, none⟩), .int .i64 most, .map (some w2.heap.size), .slice none 0 0] 83)).alloc (.cells #[.int .i64 g.start, .int .i64 0, .int .i64 x.length] 78) := ⟨_, rfl⟩
    have hb3 : Below w2.heap.size w2 W3 := by rw [hW3]; exact below3 w2 _ _ _
    have gb3 : W3.heap[w2.heap.size + 1]? = some (.cells #[.pointer (some ⟨be, 0, none⟩), .int .i64 most, .map (some w2.heap.size), .slice none 0 0] 83 (0, 0)) := by rw [hW3]; exact blk_new1 (w := w2.alloc _) (by rw [World.size_alloc]) _ _
    have gr3 : W3.heap[w2.heap.size + 1 + 1]? = some (.cells #[.int .i64 g.start, .int .i64 0, .int .i64 x.length] 78 (0, 0)) := by rw [hW3]; exact blk_new' (by rw [World.size_alloc, World.size_alloc]) _
    have hm3 : IsMap mpartV hdR W3 w2.heap.size (nilAll []) := by
      rw [hW3]
      exact ((IsMap.new mpartV hdR w2).below (below1 _ _)).below (below1 _ _)
    have hE3 := ends_keep hE2 (fun b hb _ => hb3.block b hb) hb3.size
    have hl3 := blk_lt gr3
    have hrc3 : RcAt (fun b => b < w2.heap.size ∨ b = w2.heap.size + 1 + 1) w2.heap.size W3 (w2.heap.size + 1) be most w2.heap.size [] :=
      ⟨hm3, ⟨none, 0, gb3, World.ownsRow_nil _ _ _ _, fun b hb => by cases hb⟩, by omega, by omega⟩
    have hreach : Calls Tryz.prog 25 #[.pointer (some ⟨w2.heap.size + 1, 0, none⟩), .agg #[.int .i64 g.start, .int .i64 0, .int .i64 x.length]] W3 fun e w' => e = .returned (.tuple #[]) ∧ RcAt (fun b => b < w2.heap.size ∨ b = w2.heap.size + 1 + 1) w2.heap.size w' (w2.heap.size + 1) be most w2.heap.size (rchP g x M2 ((partsM g x).length + 1) (rootM g x) []) ∧ Away W3.heap.size (fun b => ¬ (b < w2.heap.size ∨ b = w2.heap.size + 1 + 1)) W3 w' :=
      bestReach_any (Fe := fun b => b < w2.heap.size) hv hx12 hsh hshort hlow rfl ((partsM g x).length + 1) (fun b => b < w2.heap.size ∨ b = w2.heap.size + 1 + 1) (rootM g x) [] W3 ⟨hv.s0, hv.s1, Nat.zero_le _, Nat.le_refl _⟩ ⟨by simp, by simp⟩ (by simp) (fun b hb => .inl hb) (fun b hb => by rcases hb with hb | hb <;> omega) hb3.size hE3 hrc3
    rw [← hW3]
    have v0 := blk_cell gr3 (i := 0) rfl
    have v1 := blk_cell gr3 (i := 1) rfl
    have v2 := blk_cell gr3 (i := 2) rfl
    have HRC := Lib.hid hreach
    have HIE := Lib.hid hE2
    clear hreach hrc3 hE3 hE2 hm3 hmk hW3
    clear k2
    refine HRC.out.mono ?_
    rintro e4 w4 ⟨rfl, hrc, ha4⟩
    have hpok := parts_okR (x := x) (M := M2) hv
    have hpm := root_mem (x := x) (M := M2) hv
    have HYS0 := Lib.hid (show partsR g x M2 = (rchP g x M2 ((partsM g x).length + 1) (rootM g x) []).reverse from rfl)
    generalize rchP g x M2 ((partsM g x).length + 1) (rootM g x) [] = ps at hrc hpok hpm HYS0
    obtain ⟨Ap, cp, hblk4, hown4, hnk4⟩ := hrc.row
    have hpos : 0 < ps.length := List.length_pos_of_mem hpm
    obtain ⟨gp, cap, hpe, -, -⟩ := hown4.form hpos
    injection hpe with hpe1 hpe2 hpe3
    subst hpe1
    subst hpe3
    clear hpe2
    have hmp4 := mpAt_own hown4
    have hkgp : ¬ (gp < w2.heap.size ∨ gp = w2.heap.size + 1 + 1) := hnk4 gp rfl
    have hgb : w2.heap.size + 1 ≠ gp := fun e => by
      obtain ⟨cs, h1, _⟩ := hmp4
      rw [← e, hblk4] at h1
      injection h1 with h1
      injection h1 with _ h1
      exact absurd h1 (by decide)
    have hgo : w2.heap.size ≠ gp := fun e => by
      obtain ⟨cs, h1, _⟩ := hmp4
      exact map_ne hrc.map h1 e.symm
    have hpl : ps.length ≤ 1690 := Nat.le_trans hpok.few (parts_few hv hx12)
    have hrev := reverse_part ps gp cp w4 hmp4 (by omega)
    have hz3 := hb3.size
    have hz4 := ha4.size
    have gr4 := (ha4.block _ hl3 fun e => e (.inr rfl)).trans gr3
    have g24 : ∀ b, b < w2.heap.size → w4.heap[b]? = w2.heap[b]? := fun b hb => (ha4.block b (by omega) fun e => e (.inl hb)).trans (hb3.block b hb)
    have hm4 := hrc.map
    have r3 := blk_cell hblk4 (i := 3) rfl
    have hos : w4.os = w2.os ∧ w4.tape = w2.tape ∧ w4.output = w2.output := ⟨ha4.os.trans hb3.os, ha4.tape.trans hb3.tape, ha4.output.trans hb3.output⟩
    have HREV := Lib.hid hrev
    clear hrev hrc hown4 hnk4 v0 v1 v2 HRC
    go_wp2_with fail
    clear r3
    with_reducible refine HREV.out.mono ?_
    rintro e5 w5 ⟨rfl, hmp5, ha5⟩
    have hz5 := ha5.size
    have hgl := hmp4.lt
    have hblk5 := (ha5.block _ (blk_lt hblk4) hgb).trans hblk4
    have hm5 := hm4.same (ha5.block _ hm4.lt hgo)
    have gr5 := (ha5.block _ (blk_lt gr4) fun e => hkgp (.inr e.symm)).trans gr4
    have g25 : ∀ b, b < w2.heap.size → w5.heap[b]? = w2.heap[b]? := fun b hb => (ha5.block b (by omega) fun e => hkgp (.inl (by have e : b = gp := e; omega))).trans (g24 b hb)
    have hB25 : Below w2.heap.size w2 w5 := ⟨ha5.os.trans hos.1, ha5.tape.trans hos.2.1, ha5.output.trans hos.2.2, by omega, g25⟩
    have hbo5 : w2.heap.size < w5.heap.size := by omega
    have hgp5 := hmp5.lt
    obtain ⟨ys, hys⟩ : ∃ ys, ys = ps.reverse := ⟨_, rfl⟩
    rw [← hys] at hmp5
    have hyl : ys.length = ps.length := by rw [hys, List.length_reverse]
    have hyok : ∀ y ∈ ys, OkMP g x y := fun y hy => hpok.sub y (by rw [hys] at hy; exact List.mem_reverse.1 hy)
    have hyk : ∀ y ∈ ys, ∃ h, alook (nilAll ps) y = some h := fun y hy => ⟨⟨none, 0, 0⟩, by rw [nilAll_look, if_pos (by rw [hys] at hy; exact List.mem_reverse.1 hy)]⟩
    have hyroot : rootM g x ∈ ys := by rw [hys]; exact List.mem_reverse.2 hpm
    have hpr : partsR g x M2 = ys := by rw [HYS0.out, hys]
    have hlp2 := HLP.out
    rw [hpr] at hlp2
    have hL0 : LoopAt w5 w5 g most w2.heap.size ys (nilAll ps) (fun _ => []) := ⟨Away.refl _ _ _, hm5, fun y => ⟨none, 0, by rw [nilAll_look]; split <;> rfl, Nat.le_refl _, sl_nilT _ _ _⟩, hyk, OfOk.nil g most⟩
    have hE5 := ends_keep HIE.out (fun b hb _ => g25 b hb) (by omega : w2.heap.size ≤ w5.heap.size)
    have hw5 := hw2.trans (hB25.mono hw2.size)
    obtain ⟨n, hn⟩ : ∃ n, n = ps.length := ⟨_, rfl⟩
    rw [← hn] at hblk5 hyl hpl
    have HL0 := Lib.hid hL0
    have HLP2 := Lib.hid hlp2
    have HYOK := Lib.hid hyok
    have HYL := Lib.hid hyl
    have HE5 := Lib.hid hE5
    have HYS := Lib.hid hys
    have hmn : most ≤ 9223372036854775807 := by omega
    obtain ⟨bo, hbo⟩ : ∃ b, b = w2.heap.size := ⟨_, rfl⟩
    obtain ⟨bb, hbb⟩ : ∃ b, b = w2.heap.size + 1 := ⟨_, rfl⟩
    obtain ⟨rt, hrt⟩ : ∃ b, b = w2.heap.size + 1 + 1 := ⟨_, rfl⟩
    rw [← hrt] at gr5
    rw [← hbb, ← hbo] at hblk5
    rw [← hbo] at HL0 hgo
    have hwz : w.heap.size ≤ w2.heap.size := hw2.size
    clear hmp4 hblk4 hm4 gr4 g24 ha4 ha5 hL0 hlp2 hyok hyl hE5 hys hm5 hyk gb3 gr3 hb3 hl3 HREV hpok hpm hpr hos g25 hgl hpos
    go_wp2_with fail
    rw [← hrt, ← hbb]
    have hne1 : bb ≠ bo := by omega
    have hne2 : rt ≠ bo := by omega
    have hbo2 : w2.heap.size ≤ bo := by omega
    have hbo5b : bo < w5.heap.size := by omega
    clear hrt hbb hbo
    go_loopg [12] fuel (fun gk mv wr => ∃ (hs : List (MPart × Hd)) (of : MPart → List Rk), LoopAt w5 wr g most bo ys hs of ∧ ((mv = .bool true ∧ loopP g x M2 most ys gk of = some fin) ∨ (mv = .bool false ∧ gk = 0 ∧ of = fin)))
    case atStart => exact ⟨_, _, HL0.out, .inl ⟨rfl, HLP2.out⟩⟩
    case round =>
      obtain ⟨hs, of, hL, hcase⟩ := hrel
      obtain ⟨wo, rfl⟩ : ∃ wo : World, wo = wr := ⟨_, rfl⟩
      have hbl5 := blk_lt hblk5
      have hblko : wo.heap[bb]? = _ := (hL.away.block bb hbl5 (by omega)).trans hblk5
      have hgro : wo.heap[rt]? = _ := (hL.away.block rt (blk_lt gr5) (by omega)).trans gr5
      clear HL0 HLP2
      rcases hcase with ⟨rfl, hlp⟩ | ⟨rfl, rfl, rfl⟩
      · obtain ⟨f, rfl⟩ : ∃ f, gk = f + 1 := by
          cases gk with
          | zero => cases hlp
          | succ f => exact ⟨f, rfl⟩
        unfold loopP at hlp
        have hps0 : (ys.drop 0).foldl (stepP g x M2 most) (of, false) = passP g x M2 most ys of := by rw [List.drop_zero]; rfl
        generalize passP g x M2 most ys of = tot at hlp hps0
        have HPS := Lib.hid hps0
        have HLQ := Lib.hid hlp
        have HLI := Lib.hid hL
        have r3 := blk_cell hblko (i := 3) rfl
        clear hlp hps0 hL hblko hgro
        go_wp2_with fail
        clear r3
        go_loopg [66, 12] n (fun gk i mv wr => ∃ (k : Nat) (hs : List (MPart × Hd)) (of : MPart → List Rk) (mb : Bool), k ≤ n ∧ gk = n - k ∧ i = .int .i64 k ∧ mv = .bool mb ∧ LoopAt w5 wr g most bo ys hs of ∧ (ys.drop k).foldl (stepP g x M2 most) (of, mb) = tot)
        case atStart => exact ⟨0, _, _, _, Nat.zero_le _, rfl, rfl, rfl, HLI.out, HPS.out⟩
        case round =>
          clear HLI HPS
          obtain ⟨k, hs, of, mb, hk, rfl, rfl, rfl, hL, hfo⟩ := hrel
          obtain ⟨wo, rfl⟩ : ∃ wo : World, wo = wr := ⟨_, rfl⟩
          have hzo := hL.away.size
          by_cases hlt : k < n
          · have hky : k < ys.length := by rw [HYL.out]; exact hlt
            have hmpo := hmp5.same (hL.away.block gp hgp5 fun e => hgo (by have e : gp = bo := e; exact e.symm))
            obtain ⟨p0, p1, p2⟩ := hmpo.cell hky
            rw [List.drop_eq_getElem_cons hky, List.foldl_cons] at hfo
            have hyo := HYOK.out ys[k] (List.getElem_mem hky)
            have hkey := hL.keys ys[k] (List.getElem_mem hky)
            generalize ys[k] = y at p0 p1 p2 hfo hyo hkey
            obtain ⟨h0, hlk0⟩ := hkey
            have hkz : (k : Int) < (n : Int) := by omega
            obtain ⟨W1, hW1⟩ : ∃ W1 : World, W1 = wo.alloc (.cells #[.int .i64 y.n, .int .i64 y.i, .int .i64 y.j] 78) := ⟨_, rfl⟩
            have hbA : Below wo.heap.size wo W1 := by rw [hW1]; exact below1 wo _
            obtain ⟨bx, hbx⟩ : ∃ b, b = wo.heap.size := ⟨_, rfl⟩
            have gx : W1.heap[bx]? = some (.cells #[.int .i64 y.n, .int .i64 y.i, .int .i64 y.j] 78 (0, 0)) := by rw [hbx, hW1]; exact heap_alloc_new wo _
            have hL1 := hL.below hbA
            have hblk1 : W1.heap[bb]? = _ := (hL1.away.block bb hbl5 (by omega)).trans hblk5
            have hBA : BestAt (fun b => w5.heap.size ≤ b ∧ b < W1.heap.size) W1 bb be most bo (.slice (some ⟨gp, 0, none⟩) n cp) hs of := ⟨hblk1, hL1.map, fun z => by
              obtain ⟨A', c', q1, q2, q3⟩ := hL1.rows z
              exact ⟨A', c', q1, q2, q3.old⟩⟩
            have hE1 : IsEnds (fun b => b < w2.heap.size) W1 be g x M2 A g.rules.length c B x.length d C p q := ends_keep HE5.out (fun b hb hl => hL1.away.block b (by omega) (by omega)) hL1.away.size
            have hz1 := hL1.away.size
            have hag := again_any hBA hL1.ok hmost (fun b hb => hb.2) (fun b (hb : b < w2.heap.size) => by omega) hv hx12 hsh hshort hlow rfl hyo hE1
            have hfit := againP_fit (x := x) (M := M2) hL1.ok hmost (fun r hr => (hv.ok r hr).len) (y := y) (by have := hyo.2.2.2; omega)
            rw [show stepP g x M2 most (of, mb) y = if sameP (againP g x M2 most of y) (of y) = true then (of, mb) else (setP of y (againP g x M2 most of y), true) from rfl] at hfo
            unfold mpartV at hag
            generalize againP g x M2 most of y = al at hag hfo hfit
            obtain ⟨n6, hn6⟩ : ∃ n, n = al.length := ⟨_, rfl⟩
            rw [← hn6] at hag
            have HN6 := Lib.hid hn6
            have HAG := Lib.hid hag
            have HFO := Lib.hid hfo
            have HFIT := Lib.hid hfit
            have HL1 := Lib.hid hL1
            have s0 := blk_cell gx (i := 0) rfl
            have s1 := blk_cell gx (i := 1) rfl
            have s2 := blk_cell gx (i := 2) rfl
            have t0 := s0
            have t1 := s1
            have t2 := s2
            rw [hW1, hbx] at t0 t1 t2
            clear hag hn6 hfo hfit hL hL1 hBA hE1 hyo hmpo s0 s1 s2
            go_wp2_with fail
            rw [← hW1, ← hbx]
            clear hW1 hbx t0 t1 t2 p0 p1 p2
            refine HAG.out.mono ?_
            rintro e6 w6 ⟨A6, c6, rfl, hc6, hs6, hb6⟩
            have hL6 := HL1.out.below hb6
            have gx6 := blk_below hb6 (blk_lt gx) gx
            have hblk6 := blk_below hb6 (blk_lt hblk1) hblk1
            obtain ⟨Aq, cq, hq1, hq2, hq3⟩ := hL6.rows y
            have hlk : ∀ P : Behind w6, (Instr.lookup 80 (.map (some bo)) (mpartV y) false).run Tryz.prog P.w' = .ok (.slice Aq (of y).length cq) P.w' := fun P => by
              have := run_look (P := Tryz.prog) Tryz.mpartKey Tryz.underlying80 Tryz.zeroRankeds (hL6.map.below P.h) y
              rw [hq1] at this
              exact this
            have hcall := fun P : Behind w6 => Calls.behind (msame_any _ _ al (of y) A6 c6 Aq cq P.w' (by rw [← HN6.out]; exact hs6.below P.h) (hq3.below P.h))
            rw [← HN6.out] at hcall
            obtain ⟨nq, hnq⟩ : ∃ n, n = (of y).length := ⟨_, rfl⟩
            rw [← hnq] at hcall hlk
            unfold mpartV at hlk
            have q0 := cell_behind (blk_cell gx6 (i := 0) rfl)
            have q4 := cell_behind (blk_cell gx6 (i := 1) rfl)
            have q2 := cell_behind (blk_cell gx6 (i := 2) rfl)
            have q3 := cell_behind (blk_cell hblk6 (i := 2) rfl)
            have HL6 := Lib.hid hL6
            have HS6 := Lib.hid hs6
            clear hL6 hs6 hq1 hq2 hq3 hnq gx hblk1 hb6 hbA
            cases hsm : sameP al (of y)
            · rw [hsm] at hcall
              have hfo2 := HFO.out
              rw [if_neg (by rw [hsm]; decide)] at hfo2
              have HFO2 := Lib.hid hfo2
              have HCALL := Lib.hid hcall
              clear hcall hfo2 hsm HFO
              go_wp2_with fail
              refine wp_region_behind (by kernel_rfl) (by kernel_rfl) ?_
              repeat (go_big_quiet_step ((with_reducible exact HCALL.out _)))
              refine wpQuiet_nil ?_
              intro _ hw'
              obtain ⟨P2, hw''⟩ := hw'
              subst hw''
              have hbP := P2.h
              have hL7 := HL6.out.below hbP
              have gx7 := blk_below hbP (blk_lt gx6) gx6
              have hblk7 := blk_below hbP (blk_lt hblk6) hblk6
              have hs7 := HS6.out.below hbP
              clear hlk q0 q4 q2 q3 gx6 hblk6 HCALL
              generalize P2.w' = W7 at hbP hL7 gx7 hblk7 hs7 ⊢
              clear P2 hbP
              go_wp2_with fail
              have r0 := blk_cell gx7 (i := 0) rfl
              have r1 := blk_cell gx7 (i := 1) rfl
              have r2 := blk_cell gx7 (i := 2) rfl
              have r5 := blk_cell hblk7 (i := 2) rfl
              obtain ⟨o1, st, hme, hm2, hes⟩ := (hL7.map.same (w' := W7.drew) rfl).entry Tryz.mpartKey Tryz.underlying80 y h0 hlk0
              obtain ⟨o2, hes1, hm7⟩ := hes (setBlock W7.drew bo o1) (⟨A6, n6, c6⟩ : Hd) (setBlock_same _ _ _ hL7.map.lt)
              unfold mpartV hdR at hme
              unfold hdR goInt at hes1
              clear hes hm2
              have hkq : ∀ b, b ≠ bo → (setBlock (setBlock W7.drew bo o1) bo o2).heap[b]? = W7.heap[b]? := fun b hb => (setBlock_other _ _ _ hb).trans (setBlock_other _ _ _ hb)
              have hsq : (setBlock (setBlock W7.drew bo o1) bo o2).heap.size = W7.heap.size := by rw [setBlock_size, setBlock_size]; rfl
              have hLq : LoopAt w5 (setBlock (setBlock W7.drew bo o1) bo o2) g most bo ys (aput hs y ⟨A6, n6, c6⟩) (setP of y al) := by
                refine ⟨hL7.away.trans ⟨rfl, rfl, rfl, by rw [hsq]; exact Nat.le_refl _, fun b _ hb => hkq b hb⟩, hm7, fun z => ?_, fun z hz => ?_, setP_ok hL7.ok HFIT.out.1 HFIT.out.2⟩
                · by_cases e : y = z
                  · subst e
                    refine ⟨A6, c6, ?_, by unfold setP; rw [if_pos rfl, ← HN6.out]; exact hc6, ?_⟩
                    · rw [alook_put, if_pos rfl]
                      unfold setP
                      rw [if_pos rfl, ← HN6.out]; rfl
                    · unfold setP
                      rw [if_pos rfl, ← HN6.out]
                      refine (hs7.weak (G := fun b => w5.heap.size ≤ b) fun b hb => ?_).old.keep (fun b hb => hkq b (by omega)) (by rw [hsq]; exact Nat.le_refl _) |>.weak fun b hb => hb.1
                      rcases hb with hb | hb
                      · exact hb.1
                      · exact Nat.le_trans hz1 hb
                  · obtain ⟨A', c', q1, q2, q3⟩ := hL7.rows z
                    refine ⟨A', c', ?_, by unfold setP; rw [if_neg e]; exact q2, ?_⟩
                    · rw [alook_put, if_neg e]
                      unfold setP
                      rw [if_neg e]; exact q1
                    · unfold setP
                      rw [if_neg e]
                      exact (q3.old.keep (fun b hb => hkq b (by have := hb.1; omega)) (by rw [hsq]; exact Nat.le_refl _)).weak fun b hb => hb.1
                · rw [alook_put]
                  split
                  · exact ⟨_, rfl⟩
                  · exact hL7.keys z hz
              have HLQ7 := Lib.hid hLq
              clear hLq hkq hsq hm7 hL7 gx7 hblk7 hs7
              go_region
              go_wp2_with fail
              go_roundg (n - (k + 1))
              case measure => omega
              case rel => exact ⟨k + 1, _, _, true, by omega, rfl, by go_num, rfl, HLQ7.out, HFO2.out⟩
            · rw [hsm] at hcall
              have hfo2 := HFO.out
              rw [if_pos hsm] at hfo2
              have HFO2 := Lib.hid hfo2
              have HCALL := Lib.hid hcall
              clear hcall hfo2 hsm HFO
              go_wp2_with fail
              refine wp_region_behind (by kernel_rfl) (by kernel_rfl) ?_
              repeat (go_big_quiet_step ((with_reducible exact HCALL.out _)))
              refine wpQuiet_nil ?_
              intro _ hw'
              obtain ⟨P2, hw''⟩ := hw'
              subst hw''
              have hL7 := HL6.out.below P2.h
              clear hlk q0 q4 q2 q3 gx6 hblk6 HCALL
              generalize P2.w' = W7 at hL7 ⊢
              clear P2
              have HL7 := Lib.hid hL7
              clear hL7
              go_wp2_with fail
              go_roundg (n - (k + 1))
              case measure => omega
              case rel => exact ⟨k + 1, hs, of, mb, by omega, rfl, by go_num, rfl, HL7.out, HFO2.out⟩
          · obtain rfl : k = n := by omega
            rw [List.drop_eq_nil_of_le (by rw [HYL.out]; exact Nat.le_refl _)] at hfo
            simp only [List.foldl_nil] at hfo
            subst hfo
            have HL2 := Lib.hid hL
            have hlq := HLQ.out
            simp only at hlq
            clear hL HLQ
            cases mb
            · rw [if_neg (by decide)] at hlq
              injection hlq with hlq
              go_wp2_with fail
              go_roundg 0
              case measure => omega
              case rel => exact ⟨hs, of, HL2.out, .inr ⟨rfl, rfl, hlq⟩⟩
            · rw [if_pos rfl] at hlq
              have HLR := Lib.hid hlq
              clear hlq
              go_wp2_with fail
              go_roundg f
              case measure => omega
              case rel => exact ⟨hs, of, HL2.out, .inl ⟨rfl, HLR.out⟩⟩
      · have hrok := hL.ok.fit (rootM g x)
        have hrlen := hL.ok.len (rootM g x)
        obtain ⟨Aq, cq, hq1, hq2, hq3⟩ := hL.rows (rootM g x)
        have hlk : ∀ P : Behind wo, (Instr.lookup 80 (.map (some bo)) (.agg #[.int .i64 g.start, .int .i64 0, .int .i64 x.length]) false).run Tryz.prog P.w' = .ok (.slice Aq (of (rootM g x)).length cq) P.w' := fun P => by
          have := run_look (P := Tryz.prog) Tryz.mpartKey Tryz.underlying80 Tryz.zeroRankeds (hL.map.below P.h) (rootM g x)
          rw [hq1] at this
          exact this
        have hend : ∀ nn : Int, (if cu = -1 then (most : Int) else cu) = nn → ∀ w' e, (((of (rootM g x)).length : Int) < min nn most ∧ e = .returned (.tuple #[.slice none 0 0, .int .i64 2])) ∨ (¬ ((of (rootM g x)).length : Int) < min nn most ∧ ∃ A c, e = .returned (.tuple #[.slice A (treesOf (of (rootM g x))).length c, .int .i64 0]) ∧ (treesOf (of (rootM g x))).length ≤ c ∧ IsSl Elt.tree (fun b => w.heap.size ≤ b ∧ Cel w' b) w' (.slice A (treesOf (of (rootM g x))).length c) (treesOf (of (rootM g x)))) → TreesEnd g x M2 most w w' e := fun nn hnn w' e he => by
          refine .inr ⟨by rw [HCU.out]; exact hz1, hz2, fuel, of, HLP.out, ?_⟩
          rw [HCU.out, hnn]
          exact he
        generalize of (rootM g x) = rows at hrok hrlen hq1 hq2 hq3 hlk hend
        obtain ⟨nq, hnq⟩ : ∃ n, n = rows.length := ⟨_, rfl⟩
        rw [← hnq] at hq3 hlk hend
        have hwo5 : Below w.heap.size w wo := hw5.trans ((hL.away.mono hw5.size fun _ _ h => h).below fun j hj e => by have e : j = bo := e; omega)
        have hqm : nq ≤ most := by rw [hnq]; exact hrlen
        have HEND := Lib.hid hend
        have HNQ := Lib.hid hnq
        have HROK := Lib.hid hrok
        have q0 := cell_behind (blk_cell hgro (i := 0) rfl)
        have q4 := cell_behind (blk_cell hgro (i := 1) rfl)
        have q2 := cell_behind (blk_cell hgro (i := 2) rfl)
        have q3 := cell_behind (blk_cell hblko (i := 2) rfl)
        clear hend hnq hq1 hq2 hrok hL hrlen
        by_cases hcm : cu = -1
        · have HNN := Lib.hid (show (if cu = -1 then (most : Int) else cu) = (most : Int) by rw [if_pos hcm])
          subst hcm
          by_cases hlt : (nq : Int) < min (most : Int) (most : Int)
          · go_wp2_with fail
            refine wp_region_behind (by kernel_rfl) (by kernel_rfl) ?_
            repeat (go_big_quiet_step (fail))
            refine wpQuiet_nil ?_
            intro _ hw'
            obtain ⟨P2, hw''⟩ := hw'
            subst hw''
            have hb8 := hwo5.trans (P2.h.mono hwo5.size)
            clear hlk q0 q4 q2 q3
            generalize P2.w' = W8 at hb8 ⊢
            clear P2
            have HLT := Lib.hid hlt
            go_wp2_with fail
            go_ret2
            exact ⟨M2, HIM.out, HEND.out _ HNN.out _ _ (.inl ⟨HLT.out, rfl⟩), hb8⟩
          · have hlt2 := hlt
            try rw [Int.min_self] at hlt2
            have hlt3 : decide ((nq : Int) < min (most : Int) (most : Int)) = false := by simpa using hlt
            go_wp2_with fail
            refine wp_region_behind (by kernel_rfl) (by kernel_rfl) ?_
            repeat (go_big_quiet_step (fail))
            refine wpQuiet_nil ?_
            intro _ hw'
            obtain ⟨P2, hw''⟩ := hw'
            subst hw''
            have hb8 := hwo5.trans (P2.h.mono hwo5.size)
            have hr8 := hq3.below P2.h
            have hlk8 : ∀ P : Behind P2.w', (Instr.lookup 80 (.map (some bo)) (.agg #[.int .i64 g.start, .int .i64 0, .int .i64 x.length]) false).run Tryz.prog P.w' = .ok (.slice Aq nq cq) P.w' := fun P => hlk ⟨P.w', P2.h.trans (P.h.mono P2.h.size)⟩
            have v0 := cell_behind (q0 P2)
            have v4 := cell_behind (q4 P2)
            have v2 := cell_behind (q2 P2)
            have v3 := cell_behind (q3 P2)
            clear hlk q0 q4 q2 q3
            generalize P2.w' = W8 at hb8 hr8 hlk8 v0 v4 v2 v3 ⊢
            clear P2
            try rw [show decide (nq < most) = false by rw [decide_eq_false_iff_not]; omega]
            go_wp2_with fail
            refine wp_region_behind (by kernel_rfl) (by kernel_rfl) ?_
            repeat (go_big_quiet_step (fail))
            refine wpQuiet_nil ?_
            intro _ hw'
            obtain ⟨P3, hw''⟩ := hw'
            subst hw''
            have hb9 := hb8.trans (P3.h.mono hb8.size)
            have hr9 := hr8.below P3.h
            clear hlk8 v0 v4 v2 v3
            generalize P3.w' = W9 at hb9 hr9 ⊢
            clear P3
            have HLT := Lib.hid hlt
            clear hlt hlt2 hlt3

            have hw9 := hb9.size
            have hq100 : nq ≤ 100 := by have := hqm; omega
            go_wp2_with fail
            go_loopg [112, 16] nq (fun gk i ov wr => ∃ (k : Nat) (Av : Option Addr) (cv : Nat) (news : List Value), k ≤ nq ∧ gk = nq - k ∧ i = .int .i64 k ∧ ov = .slice Av k cv ∧ Below W9.heap.size W9 wr ∧ wr.ownsRow W9.heap.size 45 3 (.slice Av k cv) k news ∧ RowV Elt.tree (fun b => W9.heap.size ≤ b ∧ (Value.slice Av k cv).ownBlock ≠ some b ∧ Cel wr b) wr news (treesOf (rows.take k)) ∧ (treesOf (rows.take k)).length = k)
            case atStart => exact ⟨0, none, 0, [], Nat.zero_le _, rfl, rfl, rfl, Below.refl _ _, World.ownsRow_nil _ _ _ _, RowV.nil _ _ _, rfl⟩
            case round =>
              obtain ⟨k, Av, cv, news, hk, rfl, rfl, rfl, hB, hown, hrow, htl⟩ := hrel
              obtain ⟨wi, rfl⟩ : ∃ wi : World, wi = wr := ⟨_, rfl⟩
              have hwi := hB.size
              by_cases hltk : k < nq
              · have hkr : k < rows.length := by rw [← HNQ.out]; exact hltk
                obtain ⟨b3, o3, rfl, hF3, hb3, s0, P3, cp3, R3, cr3, s1, hcp3, hpre3, s2, hcr3, hrow3⟩ := (hr9.below hB).rankedAt k hkr
                obtain ⟨z, hz1r, hzs⟩ := row_one (HROK.out rows[k] (List.getElem_mem hkr)) (fun r hr => (hv.ok r hr).len)
                have htk : treesOf (rows.take (k + 1)) = treesOf (rows.take k) ++ [z] := by
                  unfold treesOf
                  rw [List.take_succ_eq_append_getElem hkr, List.flatMap_append, List.flatMap_singleton, hz1r]
                generalize rows[k] = a at s0 s1 hcp3 hpre3 s2 hcr3 hrow3 hz1r
                rw [hz1r] at s2 hcr3 hrow3
                obtain ⟨b6, o6, hR3, hF6, hl6, d0, d1, Az, cz, d2, hcz, hzk⟩ := hrow3.treeK 0 (by simp)
                subst hR3
                simp only [List.getElem_cons_zero, Nat.zero_mul, Nat.add_zero] at d0 d1 d2 hcz hzk
                simp only [List.length_cons, List.length_nil, Nat.zero_add] at s2
                obtain ⟨np, hnp⟩ : ∃ n, n = a.pre.length := ⟨_, rfl⟩
                rw [← hnp] at s1
                generalize a.size = az at s0
                obtain ⟨nz, hnz⟩ : ∃ n, n = z.kids.length := ⟨_, rfl⟩
                rw [← hnz] at d2 hcz
                have hkz : (k : Int) < (nq : Int) := by omega
                obtain ⟨W1, hW1⟩ : ∃ W1 : World, W1 = wi.alloc (.cells #[.int .i64 az, .slice P3 np cp3, .slice (some ⟨b6, o6, none⟩) 1 cr3] 90) := ⟨_, rfl⟩
                have hbA : Below wi.heap.size wi W1 := by rw [hW1]; exact below1 wi _
                have hcp := copied_any hzs _ W1 Az cz (hzk.below hbA)
                unfold CopyEnd at hcp
                rw [← hnz] at hcp
                have HCP := Lib.hid hcp
                have HTK := Lib.hid htk
                have HTL := Lib.hid htl
                have HNZ := Lib.hid hnz
                have e0 := cell_lift hbA d0
                have e1 := cell_lift hbA d1
                have e2 := cell_lift hbA d2
                rw [hW1] at e0 e1 e2
                clear hcp htk htl hnz hpre3 hrow3 hzk hzs hz1r hnp
                go_wp2_with fail
                rw [← hW1]
                clear hW1 e0 e1 e2 d0 d1 d2 s0 s1 s2
                refine HCP.out.mono ?_
                rintro e5 w5 ⟨A5, c5, rfl, hc5, hk5, hb5⟩
                have hown5 := own_belowV (own_belowV hown hbA) hb5
                have hbA5 := hbA.trans (hb5.mono hbA.size)
                have hz5 := hb5.size
                have hzA := hbA.size
                have hrow5 : RowV Elt.tree (fun b => W9.heap.size ≤ b ∧ (Value.slice Av k cv).ownBlock ≠ some b ∧ Cel w5 b) w5 (news ++ [.int .i64 z.rule, .int .i64 z.term, .slice A5 nz c5]) (treesOf (rows.take (k + 1))) := by
                  rw [HTK.out]
                  refine (hrow.keep hbA5.size fun b h1 h2 => ⟨⟨h1.1, h1.2.1, h1.2.2.of (hbA5.block b h2)⟩, hbA5.block b h2⟩).append (RowV.one ?_)
                  rw [HNZ.out]
                  rw [HNZ.out] at hc5 hk5
                  refine tree_V hc5 (hk5.weak fun b hb => ⟨by have := hb.1; omega, fun e => ?_, hb.2⟩)
                  have := (hown.lt b e).2
                  have := hb.1
                  omega
                have HROW5 := Lib.hid hrow5
                clear hk5 hrow hrow5
                go_wp2_with (first | (at_builtin; refine wpList_append_src _ rfl (.tmp 116) (.tmp 122) 38 rfl W9.heap.size 45 iT (.agg #[.int .i64 0, .int .i64 0, .slice none 0 0]) 3 40 Tryz.underlying38 hiT hT0 hT2 hT3 rfl (by decide) _ k news rfl ?ho (some ⟨w5.heap.size, 0, none⟩) 1 1 [.int .i64 z.rule, .int .i64 z.term, .slice A5 nz c5] rfl rfl ?c0 ?c1 ?c2 ?c3 ?c4 ?c5 ?_))
                case ho => exact hown5.alloc _
                case c0 => intro h; cases h
                case c1 => intro a ha j u hj; injection ha with ha; subst ha; exact cells_new _ _ _ _ _ hj
                case c2 => intro u hu; simp at hu; rcases hu with rfl | rfl | rfl <;> rfl
                case c3 => unfold maxLen; omega
                case c4 => omega
                case c5 => rw [World.size_alloc]; omega
                intro v7 w7 hown7 hg7 hat7
                obtain ⟨A7, c7, rfl⟩ := own_form hown7
                have hb6 := below1 w5 (.cells #[.int .i64 z.rule, .int .i64 z.term, .slice A5 nz c5] 45)
                have hB7 : Below W9.heap.size W9 w7 := ((hB.trans (hbA5.mono hwi)).trans (hb6.mono (by omega))).grown hg7 (by rw [World.size_alloc]; omega) fun j hj => own_base' hown5 j hj
                have hrow7 : RowV Elt.tree (fun b => W9.heap.size ≤ b ∧ (Value.slice A7 (k + 1) c7).ownBlock ≠ some b ∧ Cel w7 b) w7 (news ++ [.int .i64 z.rule, .int .i64 z.term, .slice A5 nz c5]) (treesOf (rows.take (k + 1))) :=
                  HROW5.out.keep (Nat.le_trans hb6.size hg7.size) fun b h1 h2 => ⟨⟨h1.1, fun e => by
                    rcases hat7 with h3 | h3
                    · rw [h3] at e; exact h1.2.1 e
                    · rw [h3] at e; injection e with e; omega, h1.2.2.of ((hg7.block b (by rw [World.size_alloc]; omega) fun e => h1.2.1 e.symm).trans (hb6.block b h2))⟩, (hg7.block b (by rw [World.size_alloc]; omega) fun e => h1.2.1 e.symm).trans (hb6.block b h2)⟩
                have HROW7 := Lib.hid hrow7
                clear hrow7 HROW5 hg7 hat7 hb6 hown5 hbA5 hb5
                go_wp2
                go_roundg (nq - (k + 1))
                case measure => omega
                case rel => exact ⟨k + 1, A7, c7, _, by omega, rfl, by go_num, rfl, hB7, hown7, HROW7.out, by rw [HTK.out, List.length_append, HTL.out]; rfl⟩
              · obtain rfl : k = nq := by omega
                rw [List.take_of_length_le (by rw [← HNQ.out]; exact Nat.le_refl _)] at hrow htl
                have hsl := hrow.isSl htl.symm hown
                have hcap := own_cap hown
                have hfin : IsSl Elt.tree (fun b => w.heap.size ≤ b ∧ Cel wi b) wi (.slice Av (treesOf rows).length cv) (treesOf rows) := by
                  rw [htl]
                  refine hsl.weak fun b hb => ?_
                  rcases hb with hb | hb
                  · exact ⟨Nat.le_trans hw9 hb.1, hb.2.2⟩
                  · exact ⟨Nat.le_trans hw9 (own_base' hown b hb), Cel.own hown hb⟩
                have HF := Lib.hid hfin
                have HTL := Lib.hid htl
                have hbf := hb9.trans (hB.mono hw9)
                clear hfin hsl hrow hown htl
                go_wp2_with fail
                go_ret2
                exact ⟨M2, HIM.out, HEND.out _ HNN.out _ _ (.inr ⟨HLT.out, Av, cv, congrArg (fun n => Ending.returned (Value.tuple #[.slice Av n cv, .int .i64 0])) HTL.out.symm, by rw [HTL.out]; exact hcap, HF.out⟩), hbf⟩
        · have HNN := Lib.hid (show (if cu = -1 then (most : Int) else cu) = cu by rw [if_neg hcm])
          have hcz : (cu == -1) = false := by simpa using hcm
          clear hcm
          by_cases hlt : (nq : Int) < min cu (most : Int)
          · go_wp2_with fail
            refine wp_region_behind (by kernel_rfl) (by kernel_rfl) ?_
            repeat (go_big_quiet_step (fail))
            refine wpQuiet_nil ?_
            intro _ hw'
            obtain ⟨P2, hw''⟩ := hw'
            subst hw''
            have hb8 := hwo5.trans (P2.h.mono hwo5.size)
            clear hlk q0 q4 q2 q3
            generalize P2.w' = W8 at hb8 ⊢
            clear P2
            have HLT := Lib.hid hlt
            go_wp2_with fail
            go_ret2
            exact ⟨M2, HIM.out, HEND.out _ HNN.out _ _ (.inl ⟨HLT.out, rfl⟩), hb8⟩
          · have hlt2 := hlt
            try rw [Int.min_self] at hlt2
            have hlt3 : decide ((nq : Int) < min cu (most : Int)) = false := by simpa using hlt
            go_wp2_with fail
            refine wp_region_behind (by kernel_rfl) (by kernel_rfl) ?_
            repeat (go_big_quiet_step (fail))
            refine wpQuiet_nil ?_
            intro _ hw'
            obtain ⟨P2, hw''⟩ := hw'
            subst hw''
            have hb8 := hwo5.trans (P2.h.mono hwo5.size)
            have hr8 := hq3.below P2.h
            have hlk8 : ∀ P : Behind P2.w', (Instr.lookup 80 (.map (some bo)) (.agg #[.int .i64 g.start, .int .i64 0, .int .i64 x.length]) false).run Tryz.prog P.w' = .ok (.slice Aq nq cq) P.w' := fun P => hlk ⟨P.w', P2.h.trans (P.h.mono P2.h.size)⟩
            have v0 := cell_behind (q0 P2)
            have v4 := cell_behind (q4 P2)
            have v2 := cell_behind (q2 P2)
            have v3 := cell_behind (q3 P2)
            clear hlk q0 q4 q2 q3
            generalize P2.w' = W8 at hb8 hr8 hlk8 v0 v4 v2 v3 ⊢
            clear P2
            try rw [show decide (nq < most) = false by rw [decide_eq_false_iff_not]; omega]
            go_wp2_with fail
            refine wp_region_behind (by kernel_rfl) (by kernel_rfl) ?_
            repeat (go_big_quiet_step (fail))
            refine wpQuiet_nil ?_
            intro _ hw'
            obtain ⟨P3, hw''⟩ := hw'
            subst hw''
            have hb9 := hb8.trans (P3.h.mono hb8.size)
            have hr9 := hr8.below P3.h
            clear hlk8 v0 v4 v2 v3
            generalize P3.w' = W9 at hb9 hr9 ⊢
            clear P3
            have HLT := Lib.hid hlt
            clear hlt hlt2 hlt3

            have hw9 := hb9.size
            have hq100 : nq ≤ 100 := by have := hqm; omega
            go_wp2_with fail
            go_loopg [112, 16] nq (fun gk i ov wr => ∃ (k : Nat) (Av : Option Addr) (cv : Nat) (news : List Value), k ≤ nq ∧ gk = nq - k ∧ i = .int .i64 k ∧ ov = .slice Av k cv ∧ Below W9.heap.size W9 wr ∧ wr.ownsRow W9.heap.size 45 3 (.slice Av k cv) k news ∧ RowV Elt.tree (fun b => W9.heap.size ≤ b ∧ (Value.slice Av k cv).ownBlock ≠ some b ∧ Cel wr b) wr news (treesOf (rows.take k)) ∧ (treesOf (rows.take k)).length = k)
            case atStart => exact ⟨0, none, 0, [], Nat.zero_le _, rfl, rfl, rfl, Below.refl _ _, World.ownsRow_nil _ _ _ _, RowV.nil _ _ _, rfl⟩
            case round =>
              obtain ⟨k, Av, cv, news, hk, rfl, rfl, rfl, hB, hown, hrow, htl⟩ := hrel
              obtain ⟨wi, rfl⟩ : ∃ wi : World, wi = wr := ⟨_, rfl⟩
              have hwi := hB.size
              by_cases hltk : k < nq
              · have hkr : k < rows.length := by rw [← HNQ.out]; exact hltk
                obtain ⟨b3, o3, rfl, hF3, hb3, s0, P3, cp3, R3, cr3, s1, hcp3, hpre3, s2, hcr3, hrow3⟩ := (hr9.below hB).rankedAt k hkr
                obtain ⟨z, hz1r, hzs⟩ := row_one (HROK.out rows[k] (List.getElem_mem hkr)) (fun r hr => (hv.ok r hr).len)
                have htk : treesOf (rows.take (k + 1)) = treesOf (rows.take k) ++ [z] := by
                  unfold treesOf
                  rw [List.take_succ_eq_append_getElem hkr, List.flatMap_append, List.flatMap_singleton, hz1r]
                generalize rows[k] = a at s0 s1 hcp3 hpre3 s2 hcr3 hrow3 hz1r
                rw [hz1r] at s2 hcr3 hrow3
                obtain ⟨b6, o6, hR3, hF6, hl6, d0, d1, Az, cz, d2, hcz, hzk⟩ := hrow3.treeK 0 (by simp)
                subst hR3
                simp only [List.getElem_cons_zero, Nat.zero_mul, Nat.add_zero] at d0 d1 d2 hcz hzk
                simp only [List.length_cons, List.length_nil, Nat.zero_add] at s2
                obtain ⟨np, hnp⟩ : ∃ n, n = a.pre.length := ⟨_, rfl⟩
                rw [← hnp] at s1
                generalize a.size = az at s0
                obtain ⟨nz, hnz⟩ : ∃ n, n = z.kids.length := ⟨_, rfl⟩
                rw [← hnz] at d2 hcz
                have hkz : (k : Int) < (nq : Int) := by omega
                obtain ⟨W1, hW1⟩ : ∃ W1 : World, W1 = wi.alloc (.cells #[.int .i64 az, .slice P3 np cp3, .slice (some ⟨b6, o6, none⟩) 1 cr3] 90) := ⟨_, rfl⟩
                have hbA : Below wi.heap.size wi W1 := by rw [hW1]; exact below1 wi _
                have hcp := copied_any hzs _ W1 Az cz (hzk.below hbA)
                unfold CopyEnd at hcp
                rw [← hnz] at hcp
                have HCP := Lib.hid hcp
                have HTK := Lib.hid htk
                have HTL := Lib.hid htl
                have HNZ := Lib.hid hnz
                have e0 := cell_lift hbA d0
                have e1 := cell_lift hbA d1
                have e2 := cell_lift hbA d2
                rw [hW1] at e0 e1 e2
                clear hcp htk htl hnz hpre3 hrow3 hzk hzs hz1r hnp
                go_wp2_with fail
                rw [← hW1]
                clear hW1 e0 e1 e2 d0 d1 d2 s0 s1 s2
                refine HCP.out.mono ?_
                rintro e5 w5 ⟨A5, c5, rfl, hc5, hk5, hb5⟩
                have hown5 := own_belowV (own_belowV hown hbA) hb5
                have hbA5 := hbA.trans (hb5.mono hbA.size)
                have hz5 := hb5.size
                have hzA := hbA.size
                have hrow5 : RowV Elt.tree (fun b => W9.heap.size ≤ b ∧ (Value.slice Av k cv).ownBlock ≠ some b ∧ Cel w5 b) w5 (news ++ [.int .i64 z.rule, .int .i64 z.term, .slice A5 nz c5]) (treesOf (rows.take (k + 1))) := by
                  rw [HTK.out]
                  refine (hrow.keep hbA5.size fun b h1 h2 => ⟨⟨h1.1, h1.2.1, h1.2.2.of (hbA5.block b h2)⟩, hbA5.block b h2⟩).append (RowV.one ?_)
                  rw [HNZ.out]
                  rw [HNZ.out] at hc5 hk5
                  refine tree_V hc5 (hk5.weak fun b hb => ⟨by have := hb.1; omega, fun e => ?_, hb.2⟩)
                  have := (hown.lt b e).2
                  have := hb.1
                  omega
                have HROW5 := Lib.hid hrow5
                clear hk5 hrow hrow5
                go_wp2_with (first | (at_builtin; refine wpList_append_src _ rfl (.tmp 116) (.tmp 122) 38 rfl W9.heap.size 45 iT (.agg #[.int .i64 0, .int .i64 0, .slice none 0 0]) 3 40 Tryz.underlying38 hiT hT0 hT2 hT3 rfl (by decide) _ k news rfl ?ho (some ⟨w5.heap.size, 0, none⟩) 1 1 [.int .i64 z.rule, .int .i64 z.term, .slice A5 nz c5] rfl rfl ?c0 ?c1 ?c2 ?c3 ?c4 ?c5 ?_))
                case ho => exact hown5.alloc _
                case c0 => intro h; cases h
                case c1 => intro a ha j u hj; injection ha with ha; subst ha; exact cells_new _ _ _ _ _ hj
                case c2 => intro u hu; simp at hu; rcases hu with rfl | rfl | rfl <;> rfl
                case c3 => unfold maxLen; omega
                case c4 => omega
                case c5 => rw [World.size_alloc]; omega
                intro v7 w7 hown7 hg7 hat7
                obtain ⟨A7, c7, rfl⟩ := own_form hown7
                have hb6 := below1 w5 (.cells #[.int .i64 z.rule, .int .i64 z.term, .slice A5 nz c5] 45)
                have hB7 : Below W9.heap.size W9 w7 := ((hB.trans (hbA5.mono hwi)).trans (hb6.mono (by omega))).grown hg7 (by rw [World.size_alloc]; omega) fun j hj => own_base' hown5 j hj
                have hrow7 : RowV Elt.tree (fun b => W9.heap.size ≤ b ∧ (Value.slice A7 (k + 1) c7).ownBlock ≠ some b ∧ Cel w7 b) w7 (news ++ [.int .i64 z.rule, .int .i64 z.term, .slice A5 nz c5]) (treesOf (rows.take (k + 1))) :=
                  HROW5.out.keep (Nat.le_trans hb6.size hg7.size) fun b h1 h2 => ⟨⟨h1.1, fun e => by
                    rcases hat7 with h3 | h3
                    · rw [h3] at e; exact h1.2.1 e
                    · rw [h3] at e; injection e with e; omega, h1.2.2.of ((hg7.block b (by rw [World.size_alloc]; omega) fun e => h1.2.1 e.symm).trans (hb6.block b h2))⟩, (hg7.block b (by rw [World.size_alloc]; omega) fun e => h1.2.1 e.symm).trans (hb6.block b h2)⟩
                have HROW7 := Lib.hid hrow7
                clear hrow7 HROW5 hg7 hat7 hb6 hown5 hbA5 hb5
                go_wp2
                go_roundg (nq - (k + 1))
                case measure => omega
                case rel => exact ⟨k + 1, A7, c7, _, by omega, rfl, by go_num, rfl, hB7, hown7, HROW7.out, by rw [HTK.out, List.length_append, HTL.out]; rfl⟩
              · obtain rfl : k = nq := by omega
                rw [List.take_of_length_le (by rw [← HNQ.out]; exact Nat.le_refl _)] at hrow htl
                have hsl := hrow.isSl htl.symm hown
                have hcap := own_cap hown
                have hfin : IsSl Elt.tree (fun b => w.heap.size ≤ b ∧ Cel wi b) wi (.slice Av (treesOf rows).length cv) (treesOf rows) := by
                  rw [htl]
                  refine hsl.weak fun b hb => ?_
                  rcases hb with hb | hb
                  · exact ⟨Nat.le_trans hw9 hb.1, hb.2.2⟩
                  · exact ⟨Nat.le_trans hw9 (own_base' hown b hb), Cel.own hown hb⟩
                have HF := Lib.hid hfin
                have HTL := Lib.hid htl
                have hbf := hb9.trans (hB.mono hw9)
                clear hfin hsl hrow hown htl
                go_wp2_with fail
                go_ret2
                exact ⟨M2, HIM.out, HEND.out _ HNN.out _ _ (.inr ⟨HLT.out, Av, cv, congrArg (fun n => Ending.returned (Value.tuple #[.slice Av n cv, .int .i64 0])) HTL.out.symm, by rw [HTL.out]; exact hcap, HF.out⟩), hbf⟩
end Go.Proofs.YtdbkbkopcnkgcaaGreat
