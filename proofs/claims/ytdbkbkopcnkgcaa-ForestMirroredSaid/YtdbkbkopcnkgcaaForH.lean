import Derived.Test.YtdbkbkopcnkgcaaForG
import Derived.Test.YtdbkbkopcnkgcaaSortRow
open Go Go.RowKit
open Go.Sort (HoldsK flatK grow putRowK SWO PermIn SortedIn)
namespace Go.Proofs.Ytdbkbkopcnkgcaa

/-! ### parts in order -/
def tk (p : Part) : Nat := if p.y.t then 0 else 1
def cmpPart (a b : Part) : Int :=
  if a.i ≠ b.i then (a.i : Int) - b.i else if a.j ≠ b.j then (a.j : Int) - b.j else if a.y.t ≠ b.y.t then (if a.y.t then -1 else 1) else a.y.n - b.y.n
theorem cmpPart_lt (a b : Part) : cmpPart a b < 0 ↔ a.i < b.i ∨ (a.i = b.i ∧ (a.j < b.j ∨ (a.j = b.j ∧ (tk a < tk b ∨ (tk a = tk b ∧ a.y.n < b.y.n))))) := by
  obtain ⟨⟨at_, an⟩, ai, aj⟩ := a
  obtain ⟨⟨bt, bn⟩, bi, bj⟩ := b
  unfold cmpPart tk
  by_cases h1 : ai = bi
  · by_cases h2 : aj = bj
    · cases at_ <;> cases bt <;> simp [h1, h2] <;> omega
    · simp [h1, h2]; omega
  · simp [h1]; omega
structure OkB (p : Part) : Prop where
  n0 : 0 ≤ p.y.n
  n1 : p.y.n ≤ 1000
  i1 : p.i ≤ 1000
  j1 : p.j ≤ 1000
abbrev PB := {p : Part // OkB p}
instance : Inhabited PB := ⟨⟨⟨⟨true, 0⟩, 0, 0⟩, ⟨by simp, by simp, by simp, by simp⟩⟩⟩
def cfP (a b : PB) : Int := cmpPart a.1 b.1
theorem ltP (a b : PB) : Go.Proofs.ltOf cfP a b = decide (cmpPart a.1 b.1 < 0) := rfl
theorem swoP : SWO (Go.Proofs.ltOf cfP) where
  irrefl x := by rw [ltP, decide_eq_false_iff_not, cmpPart_lt]; omega
  trans x y z h1 h2 := by rw [ltP, decide_eq_true_eq, cmpPart_lt] at *; omega
  ntrans x y z h1 h2 := by rw [ltP, decide_eq_false_iff_not, cmpPart_lt] at *; omega
theorem totP (x y : PB) (h1 : Go.Proofs.ltOf cfP x y = false) (h2 : Go.Proofs.ltOf cfP y x = false) : x = y := by
  rw [ltP, decide_eq_false_iff_not, cmpPart_lt] at h1 h2
  obtain ⟨⟨⟨xt, xn⟩, xi, xj⟩, hx⟩ := x
  obtain ⟨⟨⟨yt, yn⟩, yi, yj⟩, hy⟩ := y
  simp only [Subtype.mk.injEq, Part.mk.injEq, Sym.mk.injEq]
  unfold tk at h1 h2
  cases xt <;> cases yt <;> simp at h1 h2 ⊢ <;> omega

set_option maxHeartbeats 1000000 in
theorem compare_any (a b : Part) (ha : OkB a) (hb : OkB b) (W : World) : Calls Try.prog 125 #[partV a, partV b] W fun e w' => e = .returned (.int .i64 (cmpPart a b)) ∧ ∃ q os', w' = grow (W.drewN q) os' := by
  obtain ⟨a0, a1, a2, a3⟩ := ha
  obtain ⟨b0, b1, b2, b3⟩ := hb
  obtain ⟨⟨at_, an⟩, ai, aj⟩ := a
  obtain ⟨⟨bt, bn⟩, bi, bj⟩ := b
  simp only at a0 a1 a2 a3 b0 b1 b2 b3
  unfold partV
  have hfin : ∀ o1 o2 : Obj, ∃ q os', (W.alloc o1).alloc o2 = grow (W.drewN q) os' := fun o1 o2 => ⟨0, _, by rw [Go.Sort.alloc_eq_grow, Go.Sort.alloc_eq_grow, Go.Sort.grow_grow]; rfl⟩
  by_cases h1 : ai = bi
  · have z1 : ((ai : Int) != (bi : Int)) = false := by simp [h1]
    by_cases h2 : aj = bj
    · have z2 : ((aj : Int) != (bj : Int)) = false := by simp [h2]
      have e3 : cmpPart ⟨⟨at_, an⟩, ai, aj⟩ ⟨⟨bt, bn⟩, bi, bj⟩ = if at_ ≠ bt then (if at_ then -1 else 1) else an - bn := by simp [cmpPart, h1, h2]
      have E := Lib.hid e3
      clear h1 h2 e3
      cases at_ <;> cases bt
      all_goals
        go_enter Try.func125, Try.ntmps125
        go_wp2
        go_ret
        exact ⟨ret_int (by rw [E.out]; simp), hfin _ _⟩
    · have z2 : ((aj : Int) != (bj : Int)) = true := by simp; omega
      have e3 : cmpPart ⟨⟨at_, an⟩, ai, aj⟩ ⟨⟨bt, bn⟩, bi, bj⟩ = (aj : Int) - bj := by simp [cmpPart, h1, h2]
      have E := Lib.hid e3
      clear h1 h2 e3
      go_enter Try.func125, Try.ntmps125
      go_wp2
      go_ret
      exact ⟨ret_int (by rw [E.out]), hfin _ _⟩
  · have z1 : ((ai : Int) != (bi : Int)) = true := by simp; omega
    have e3 : cmpPart ⟨⟨at_, an⟩, ai, aj⟩ ⟨⟨bt, bn⟩, bi, bj⟩ = (ai : Int) - bi := by simp [cmpPart, h1]
    have E := Lib.hid e3
    clear h1 e3
    go_enter Try.func125, Try.ntmps125
    go_wp2
    go_ret
    exact ⟨ret_int (by rw [E.out]), hfin _ _⟩

def partLe (a b : Part) : Bool := !decide (cmpPart b a < 0)
def encP (p : PB) : List Value := partC p.1

theorem sort_parts (w : World) (base blk cap : Nat) (l : List Part) (hok : ∀ p ∈ l, OkB p) (hlen : l.length ≤ 1000000) (hown : w.ownsRow base 177 4 (.slice (some ⟨blk, 0, none⟩) l.length cap) l.length (partCells l)) :
    Calls Try.prog 124 #[.slice (some ⟨blk, 0, none⟩) l.length cap, .func (.func 125) #[] #[]] w fun e w' => e = .returned (.tuple #[]) ∧ Away w.heap.size (fun b => b = blk) w w' ∧ IsSl Elt.fpart (fun b => b = blk) w' (.slice (some ⟨blk, 0, none⟩) (l.mergeSort partLe).length cap) (l.mergeSort partLe) := by
  obtain ⟨d, hd⟩ : ∃ d : List PB, d.map (·.1) = l := ⟨l.attachWith OkB hok, by simp⟩
  have hdl : d.length = l.length := by rw [← hd, List.length_map]
  have hfl : d.flatMap encP = partCells l := by rw [← hd, partCells, List.flatMap_map]; rfl
  have hblk : blk < w.heap.size := (hown.lt blk rfl).2
  have hown2 : w.ownsRow base 177 4 (.slice (some ⟨blk, 0, none⟩) d.length cap) d.length (d.flatMap encP) := by rw [hfl, hdl]; exact hown
  have hH := holds_own encP (fun _ => rfl) d hown2
  have eg : ∀ args w, (callFunc 125 args).run Try.prog w = .ok (.enter 125 args) w := enters_of Try.func125 (by kernel_rfl) rfl
  have hcmp : CmpLays Try.prog 125 #[] encP 4 cfP blk 0 d.toArray.size w := fun _ _ _ _ x y => compare_any x.1 y.1 x.2 y.2 _
  have hcon := AnyQ.slices_SortFunc_total Try.sortpart 4 Try.isAgg177 Try.sizeOf177 encP (fun _ => rfl) (fun x => partC_one x.1) cfP swoP 125 #[] blk 0 cap d.toArray w eg hcmp hH hblk (by simp; omega) totP
  change Calls Try.prog 124 _ _ _ at hcon
  have hsz : d.toArray.size = l.length := by simpa using hdl
  rw [hsz] at hcon
  refine hcon.mono ?_
  rintro e w' ⟨rfl, n, os, rfl⟩
  refine ⟨rfl, sort_away _ _ _ _ _ _ _ _, ?_⟩
  have hms : ((d.mergeSort fun x y => !Go.Proofs.ltOf cfP y x).map (·.1)) = l.mergeSort partLe := by
    rw [← hd]
    exact List.map_mergeSort (r := fun x y => !Go.Proofs.ltOf cfP y x) (s := partLe) (f := fun x : PB => x.1) (fun a _ b _ => rfl)
  have hlm : (d.mergeSort fun x y => !Go.Proofs.ltOf cfP y x).length = d.length := List.length_mergeSort _
  have hH2 := holdsK_sortWorldK_c encP 4 w blk 0 d.toArray (d.toArray.toList.mergeSort fun x y => !Go.Proofs.ltOf cfP y x).toArray n os hH hblk (by simp)
  refine ⟨_, cap, rfl, by rw [List.length_mergeSort]; omega, fun k hk => ?_⟩
  have hk2 : k < (d.mergeSort fun x y => !Go.Proofs.ltOf cfP y x).length := by rw [hlm, hdl]; rwa [List.length_mergeSort] at hk
  have hel : (l.mergeSort partLe)[k] = ((d.mergeSort fun x y => !Go.Proofs.ltOf cfP y x)[k]).1 := by
    have : (l.mergeSort partLe)[k]? = ((d.mergeSort fun x y => !Go.Proofs.ltOf cfP y x).map (·.1))[k]? := by rw [hms]
    rw [List.getElem?_eq_getElem hk, List.getElem?_map, List.getElem?_eq_getElem hk2] at this
    simpa using this
  have hget : ∀ c, c < 4 → _ := fun c hc => (hH2.cell (i := k) (c := c) (by simpa using hk2) hc).1
  rw [hel]
  have hb2 : blk < (sortWorldK encP 4 w blk 0 n (d.toArray.toList.mergeSort fun x y => !Go.Proofs.ltOf cfP y x).toArray os).heap.size := Nat.lt_of_lt_of_le hblk (sort_away _ _ _ _ _ _ _ _).size
  have e0 := hget 0 (by omega)
  have e1 := hget 1 (by omega)
  have e2 := hget 2 (by omega)
  have e3 := hget 3 (by omega)
  have hg : (d.toArray.toList.mergeSort fun x y => !Go.Proofs.ltOf cfP y x).toArray[k]! = (d.mergeSort fun x y => !Go.Proofs.ltOf cfP y x)[k] := by rw [getElem!_pos _ k (by simpa using hk2)]; simp
  rw [hg] at e0 e1 e2 e3
  refine ⟨blk, 0, rfl, rfl, hb2, ⟨⟨rfl, e0⟩, ⟨rfl, e1⟩⟩, ⟨rfl, e2⟩, ⟨rfl, e3⟩⟩
end Go.Proofs.Ytdbkbkopcnkgcaa
