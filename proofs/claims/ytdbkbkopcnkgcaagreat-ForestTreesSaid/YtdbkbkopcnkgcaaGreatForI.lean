import Derived.Test.YtdbkbkopcnkgcaaGreatOwn
import Derived.Test.YtdbkbkopcnkgcaaGreatSortLay
import Derived.Shelf.SlSortCmp.NoneTotal
import Derived.Test.YtdbkbkopcnkgcaaGreatGramC
import Derived.Test.YtdbkbkopcnkgcaaGreatForG
open Go Go.RowKit
open Go.Sort (HoldsK flatK grow putRowK putRow mapBlock SWO PermIn SortedIn)
namespace Go.Proofs.YtdbkbkopcnkgcaaGreat

theorem flatMap_get {α : Type} (enc : α → List Value) (k : Nat) (hk : ∀ x, (enc x).length = k) : ∀ (d : List α) (q r : Nat) (hq : q < d.length), r < k → (d.flatMap enc)[q * k + r]? = (enc d[q])[r]?
  | [], q, r, hq, _ => by simp at hq
  | a :: d, 0, r, _, hr => by
    rw [List.flatMap_cons, Nat.zero_mul, Nat.zero_add, List.getElem?_append_left (by rw [hk]; exact hr)]; rfl
  | a :: d, q + 1, r, hq, hr => by
    rw [List.flatMap_cons, List.getElem?_append_right (by rw [hk, Nat.add_mul, Nat.one_mul]; omega), hk, show (q + 1) * k + r - k = q * k + r by rw [Nat.add_mul, Nat.one_mul]; omega]
    simpa using flatMap_get enc k hk d q r (by simpa using hq) hr

/-- a row of the call's own, as the kit's sort wants it -/
theorem holds_own {α : Type} [Inhabited α] {w : World} {base k g cap : Nat} {e : TypeId} (enc : α → List Value) (hk : ∀ x, (enc x).length = k) (d : List α) (h : w.ownsRow base e k (.slice (some ⟨g, 0, none⟩) d.length cap) d.length (d.flatMap enc)) : HoldsK enc k w g 0 d.toArray := by
  intro t ht
  simp only [Go.Sort.size_flatK, List.size_toArray] at ht
  have hk0 : 0 < k := by
    rcases Nat.eq_zero_or_pos k with h0 | h0
    · subst h0; simp at ht
    · exact h0
  have hq : t / k < d.length := by rw [Nat.div_lt_iff_lt_mul hk0]; exact ht
  have hg : (flatK enc k d.toArray)[t]! = (enc d[t / k])[t % k]! := by
    rw [Go.Sort.get_flatK _ _ _ _ (by simpa using ht)]
    simp [hq]
  have hr : t % k < (enc d[t / k]).length := by rw [hk]; exact Nat.mod_lt _ hk0
  have h1 := flatMap_get enc k hk d (t / k) (t % k) hq (Nat.mod_lt _ hk0)
  rw [Nat.mul_comm, Nat.div_add_mod, List.getElem?_eq_getElem hr] at h1
  have h2 := h.cells (g := g) rfl t _ h1
  rw [add_lit0] at h2
  rw [Nat.zero_add]
  refine ⟨?_, ?_⟩
  · rw [h2, hg]; simp [hr]
  · rcases h.2 with ⟨he, _⟩ | ⟨g', cap', cur, he, _, hgg, _⟩
    · cases he
    · injection he with e1 e2 e3
      injection e1 with e1
      have e4 : g' = g := by have := congrArg Addr.block e1; exact this.symm
      subst e4
      exact blk_free hgg

theorem grow_blk {w : World} {os : Array Obj} {b : Nat} (h : b < w.heap.size) : (grow w os).heap[b]? = w.heap[b]? := by
  simp only [grow]
  rw [Array.getElem?_append_left h]

/-- what a sort leaves: nothing but its row has turned -/
theorem sort_away {α : Type} [Inhabited α] (enc : α → List Value) (k : Nat) (w : World) (blk off m : Nat) (dk : Array α) (os : Array Obj) : Away w.heap.size (fun b => b = blk) w (sortWorldK enc k w blk off m dk os) := by
  have hs : (putRowK enc k (Go.Sort.ahead w m) blk off dk).heap.size = w.heap.size := by rw [Go.Sort.size_putRowK]; rfl
  refine ⟨rfl, rfl, rfl, ?_, fun j hj hne => ?_⟩
  · unfold sortWorldK
    rw [Go.Sort.size_grow, hs]; omega
  · unfold sortWorldK
    rw [grow_blk (by rw [hs]; exact hj)]
    show ((w.heap.modify blk _)[j]? : Option Obj) = _
    rw [Array.getElem?_modify, if_neg (fun e => hne e.symm)]

theorem cmpI_vals (a b : Int) : (cmpI a b = -1 ∧ a < b) ∨ (cmpI a b = 0 ∧ a = b) ∨ (cmpI a b = 1 ∧ b < a) := by
  unfold cmpI
  by_cases h : a < b
  · simp [h]
  · by_cases h2 : b < a
    · simp [h, h2]
    · simp [h, h2]; omega

def cmpInts : List Int → List Int → Int
  | [], [] => 0
  | [], _ :: _ => -1
  | _ :: _, [] => 1
  | a :: x, b :: y => if cmpI a b ≠ 0 then cmpI a b else cmpInts x y

theorem cmpInts_refl : ∀ x, cmpInts x x = 0
  | [] => rfl
  | a :: x => by
    unfold cmpInts
    rcases cmpI_vals a a with ⟨_, h⟩ | ⟨h, _⟩ | ⟨_, h⟩
    · omega
    · rw [if_neg (by simpa using h), cmpInts_refl x]
    · omega
theorem cmpInts_anti : ∀ x y, cmpInts y x = - cmpInts x y
  | [], [] => rfl
  | [], _ :: _ => rfl
  | _ :: _, [] => rfl
  | a :: x, b :: y => by
    have ih := cmpInts_anti x y
    unfold cmpInts
    rcases cmpI_vals a b with ⟨h1, h2⟩ | ⟨h1, h2⟩ | ⟨h1, h2⟩ <;> rcases cmpI_vals b a with ⟨h3, h4⟩ | ⟨h3, h4⟩ | ⟨h3, h4⟩ <;> simp [h1, h3, ih] <;> omega
theorem cmpInts_zero : ∀ x y, cmpInts x y = 0 → x = y
  | [], [], _ => rfl
  | [], _ :: _, h => by simp [cmpInts] at h
  | _ :: _, [], h => by simp [cmpInts] at h
  | a :: x, b :: y, h => by
    unfold cmpInts at h
    rcases cmpI_vals a b with ⟨h1, h2⟩ | ⟨h1, h2⟩ | ⟨h1, h2⟩
    · rw [h1] at h; simp at h
    · rw [if_neg (by simpa using h1)] at h; rw [h2, cmpInts_zero x y h]
    · rw [h1] at h; simp at h
theorem cmpInts_trans : ∀ x y z, cmpInts x y < 0 → cmpInts y z < 0 → cmpInts x z < 0
  | [], [], _, h, _ => by simp [cmpInts] at h
  | [], _ :: _, [], _, h => by simp [cmpInts] at h
  | [], _ :: _, _ :: _, _, _ => by simp [cmpInts]
  | _ :: _, [], _, h, _ => by simp [cmpInts] at h
  | _ :: _, _ :: _, [], _, h => by simp [cmpInts] at h
  | a :: x, b :: y, c :: z, h, h' => by
    have ih := cmpInts_trans x y z
    unfold cmpInts at h h' ⊢
    rcases cmpI_vals a b with ⟨h1, h2⟩ | ⟨h1, h2⟩ | ⟨h1, h2⟩ <;> rcases cmpI_vals b c with ⟨h3, h4⟩ | ⟨h3, h4⟩ | ⟨h3, h4⟩ <;> rcases cmpI_vals a c with ⟨h5, h6⟩ | ⟨h5, h6⟩ | ⟨h5, h6⟩ <;> simp [h1, h3, h5] at h h' ⊢ <;> first | omega | exact ih h h'

set_option maxHeartbeats 400000 in
theorem compareInts_any (F F2 : Nat → Prop) (x y : List Int) (A B : Option Addr) (nx ny cx cy : Nat) (w : World) (hx : IsSl Elt.int F w (.slice A nx cx) x) (hy : IsSl Elt.int F2 w (.slice B ny cy) y) :
    Calls Tryz.prog 60 #[.slice A nx cx, .slice B ny cy] w fun e w' => e = .returned (.int .i64 (cmpInts x y)) ∧ w = w' := by
  obtain ⟨rfl, hnx⟩ := hx.len
  obtain ⟨rfl, hny⟩ := hy.len
  go_enter Tryz.func60, Tryz.ntmps60
  go_wp2
  go_loop [11] (fun i => ∃ k : Nat, k ≤ x.length ∧ k ≤ y.length ∧ i = .int .i64 k ∧ cmpInts x y = cmpInts (x.drop k) (y.drop k)) (fun i => x.length - (intOf i).toNat)
  case atStart => exact ⟨0, by omega, by omega, rfl, rfl⟩
  case round =>
    obtain ⟨k, hk, hk', rfl, hd⟩ := hrel
    have HD := Lib.hid hd
    clear hd
    by_cases hlt : k < x.length
    · obtain ⟨b1, o1, rfl, hF1, hl1, hc1⟩ := hx.oneAt k hlt
      by_cases hlt' : k < y.length
      · obtain ⟨b2, o2, rfl, hF2, hl2, hc3⟩ := hy.oneAt k hlt'
        have hst : cmpInts (x.drop k) (y.drop k) = if cmpI x[k] y[k] ≠ 0 then cmpI x[k] y[k] else cmpInts (x.drop (k+1)) (y.drop (k+1)) := by
          rw [List.drop_eq_getElem_cons hlt, List.drop_eq_getElem_cons hlt']; rfl
        generalize x[k] = a at hc1 hst
        generalize y[k] = b at hc3 hst
        by_cases h0 : cmpI a b = 0
        · rw [if_neg (by simpa using h0)] at hst
          have h0' : (cmpI a b != 0) = false := by simp [h0]
          have HS := Lib.hid hst
          clear hst h0
          go_wp2_with (go_at_call 76; refine (cmp_any _ _ _).mono ?_; rintro e w' ⟨rfl, rfl⟩)
          go_round
          case rel => exact ⟨k + 1, by omega, by omega, by go_num, HD.out.trans HS.out⟩
          case measure => simp [intOf]; omega
        · rw [if_pos (by simpa using h0)] at hst
          have h0' : (cmpI a b != 0) = true := by simp [h0]
          have HS := Lib.hid hst
          clear hst h0
          go_wp2_with (go_at_call 76; refine (cmp_any _ _ _).mono ?_; rintro e w' ⟨rfl, rfl⟩)
          go_ret
          exact ⟨ret_int (by rw [HD.out, HS.out]), rfl⟩
      · have hst : cmpInts (x.drop k) (y.drop k) = 1 := by
          rw [List.drop_eq_getElem_cons hlt, show y.drop k = [] from List.drop_eq_nil_of_le (by omega)]; rfl
        have HS := Lib.hid hst
        clear hst
        go_wp2
        go_ret
        exact ⟨ret_int (by rw [HD.out, HS.out]), rfl⟩
    · have hst : cmpInts (x.drop k) (y.drop k) = if k < y.length then -1 else 0 := by
        rw [List.drop_eq_nil_of_le (by omega)]
        split
        · rename_i h'; rw [List.drop_eq_getElem_cons h']; rfl
        · rw [List.drop_eq_nil_of_le (by omega)]; rfl
      have HS := Lib.hid hst
      clear hst
      by_cases hlt' : x.length < y.length
      · go_wp2
        go_ret
        exact ⟨ret_int (by rw [HD.out, HS.out, if_pos (by omega)]), rfl⟩
      · go_wp2
        go_ret
        exact ⟨ret_int (by rw [HD.out, HS.out, if_neg (by omega)]), rfl⟩
end Go.Proofs.YtdbkbkopcnkgcaaGreat

open Go Go.RowKit
open Go.Sort (HoldsK flatK grow putRowK SWO PermIn SortedIn)
namespace Go.Proofs.YtdbkbkopcnkgcaaGreat

/-! ### parts in order -/
def tk (p : Part) : Nat := if p.y.t then 0 else 1
def cmpPart (a b : Part) : Int :=
  if a.i ≠ b.i then (a.i : Int) - b.i else if a.j ≠ b.j then (a.j : Int) - b.j else if a.y.t ≠ b.y.t then (if a.y.t then -1 else 1) else a.y.n - b.y.n
theorem cmpPart_lt (a b : Part) : cmpPart a b < 0 ↔ a.i < b.i ∨ (a.i = b.i ∧ (a.j < b.j ∨ (a.j = b.j ∧ (tk a < tk b ∨ (tk a = tk b ∧ a.y.n < b.y.n))))) := by
  obtain ⟨⟨at_, an⟩, ai, aj⟩ := a
  obtain ⟨⟨bt, bn⟩, bi, bj⟩ := b
  unfold cmpPart tk
  by_cases h1 : ai = bi
  · by_cases h2 : aj = bj
    · cases at_ <;> cases bt <;> simp [h1, h2] <;> omega
    · simp [h1, h2]; omega
  · simp [h1]; omega
structure OkB (p : Part) : Prop where
  n0 : 0 ≤ p.y.n
  n1 : p.y.n ≤ 1000
  i1 : p.i ≤ 1000
  j1 : p.j ≤ 1000
abbrev PB := {p : Part // OkB p}
instance : Inhabited PB := ⟨⟨⟨⟨true, 0⟩, 0, 0⟩, ⟨by simp, by simp, by simp, by simp⟩⟩⟩
def cfP (a b : PB) : Int := cmpPart a.1 b.1
theorem ltP (a b : PB) : Go.Proofs.ltOf cfP a b = decide (cmpPart a.1 b.1 < 0) := rfl
theorem swoP : SWO (Go.Proofs.ltOf cfP) where
  irrefl x := by rw [ltP, decide_eq_false_iff_not, cmpPart_lt]; omega
  trans x y z h1 h2 := by rw [ltP, decide_eq_true_eq, cmpPart_lt] at *; omega
  ntrans x y z h1 h2 := by rw [ltP, decide_eq_false_iff_not, cmpPart_lt] at *; omega
theorem totP (x y : PB) (h1 : Go.Proofs.ltOf cfP x y = false) (h2 : Go.Proofs.ltOf cfP y x = false) : x = y := by
  rw [ltP, decide_eq_false_iff_not, cmpPart_lt] at h1 h2
  obtain ⟨⟨⟨xt, xn⟩, xi, xj⟩, hx⟩ := x
  obtain ⟨⟨⟨yt, yn⟩, yi, yj⟩, hy⟩ := y
  simp only [Subtype.mk.injEq, Part.mk.injEq, Sym.mk.injEq]
  unfold tk at h1 h2
  cases xt <;> cases yt <;> simp at h1 h2 ⊢ <;> omega

set_option maxHeartbeats 1000000 in
theorem compare_any (a b : Part) (ha : OkB a) (hb : OkB b) (W : World) : Calls Tryz.prog 57 #[partV a, partV b] W fun e w' => e = .returned (.int .i64 (cmpPart a b)) ∧ ∃ q os', w' = grow (W.drewN q) os' := by
  obtain ⟨a0, a1, a2, a3⟩ := ha
  obtain ⟨b0, b1, b2, b3⟩ := hb
  obtain ⟨⟨at_, an⟩, ai, aj⟩ := a
  obtain ⟨⟨bt, bn⟩, bi, bj⟩ := b
  simp only at a0 a1 a2 a3 b0 b1 b2 b3
  unfold partV
  have hfin : ∀ o1 o2 : Obj, ∃ q os', (W.alloc o1).alloc o2 = grow (W.drewN q) os' := fun o1 o2 => ⟨0, _, by rw [Go.Sort.alloc_eq_grow, Go.Sort.alloc_eq_grow, Go.Sort.grow_grow]; rfl⟩
  by_cases h1 : ai = bi
  · have z1 : ((ai : Int) != (bi : Int)) = false := by simp [h1]
    by_cases h2 : aj = bj
    · have z2 : ((aj : Int) != (bj : Int)) = false := by simp [h2]
      have e3 : cmpPart ⟨⟨at_, an⟩, ai, aj⟩ ⟨⟨bt, bn⟩, bi, bj⟩ = if at_ ≠ bt then (if at_ then -1 else 1) else an - bn := by simp [cmpPart, h1, h2]
      have E := Lib.hid e3
      clear h1 h2 e3
      cases at_ <;> cases bt
      all_goals
        go_enter Tryz.func57, Tryz.ntmps57
        go_wp2
        go_ret
        exact ⟨ret_int (by rw [E.out]; simp), hfin _ _⟩
    · have z2 : ((aj : Int) != (bj : Int)) = true := by simp; omega
      have e3 : cmpPart ⟨⟨at_, an⟩, ai, aj⟩ ⟨⟨bt, bn⟩, bi, bj⟩ = (aj : Int) - bj := by simp [cmpPart, h1, h2]
      have E := Lib.hid e3
      clear h1 h2 e3
      go_enter Tryz.func57, Tryz.ntmps57
      go_wp2
      go_ret
      exact ⟨ret_int (by rw [E.out]), hfin _ _⟩
  · have z1 : ((ai : Int) != (bi : Int)) = true := by simp; omega
    have e3 : cmpPart ⟨⟨at_, an⟩, ai, aj⟩ ⟨⟨bt, bn⟩, bi, bj⟩ = (ai : Int) - bi := by simp [cmpPart, h1]
    have E := Lib.hid e3
    clear h1 e3
    go_enter Tryz.func57, Tryz.ntmps57
    go_wp2
    go_ret
    exact ⟨ret_int (by rw [E.out]), hfin _ _⟩

def partLe (a b : Part) : Bool := !decide (cmpPart b a < 0)
def encP (p : PB) : List Value := partC p.1

theorem sort_parts (w : World) (base blk cap : Nat) (l : List Part) (hok : ∀ p ∈ l, OkB p) (hlen : l.length ≤ 1000000) (hown : w.ownsRow base 106 4 (.slice (some ⟨blk, 0, none⟩) l.length cap) l.length (partCells l)) :
    Calls Tryz.prog 56 #[.slice (some ⟨blk, 0, none⟩) l.length cap, .func (.func 57) #[] #[]] w fun e w' => e = .returned (.tuple #[]) ∧ Away w.heap.size (fun b => b = blk) w w' ∧ IsSl Elt.fpart (fun b => b = blk) w' (.slice (some ⟨blk, 0, none⟩) (l.mergeSort partLe).length cap) (l.mergeSort partLe) := by
  obtain ⟨d, hd⟩ : ∃ d : List PB, d.map (·.1) = l := ⟨l.attachWith OkB hok, by simp⟩
  have hdl : d.length = l.length := by rw [← hd, List.length_map]
  have hfl : d.flatMap encP = partCells l := by rw [← hd, partCells, List.flatMap_map]; rfl
  have hblk : blk < w.heap.size := (hown.lt blk rfl).2
  have hown2 : w.ownsRow base 106 4 (.slice (some ⟨blk, 0, none⟩) d.length cap) d.length (d.flatMap encP) := by rw [hfl, hdl]; exact hown
  have hH := holds_own encP (fun _ => rfl) d hown2
  have eg : ∀ args w, (callFunc 57 args).run Tryz.prog w = .ok (.enter 57 args) w := enters_of Tryz.func57 (by kernel_rfl) rfl
  have hcmp : CmpLays Tryz.prog 57 #[] encP 4 cfP blk 0 d.toArray.size w := fun _ _ _ _ x y => compare_any x.1 y.1 x.2 y.2 _
  have hcon := AnyQ.slices_SortFunc_total Tryz.sortpart 4 Tryz.isAgg106 Tryz.sizeOf106 encP (fun _ => rfl) (fun x => partC_one x.1) cfP swoP 57 #[] blk 0 cap d.toArray w eg hcmp hH hblk (by simp; omega) totP
  change Calls Tryz.prog 56 _ _ _ at hcon
  have hsz : d.toArray.size = l.length := by simpa using hdl
  rw [hsz] at hcon
  refine hcon.mono ?_
  rintro e w' ⟨rfl, n, os, rfl⟩
  refine ⟨rfl, sort_away _ _ _ _ _ _ _ _, ?_⟩
  have hms : ((d.mergeSort fun x y => !Go.Proofs.ltOf cfP y x).map (·.1)) = l.mergeSort partLe := by
    rw [← hd]
    exact List.map_mergeSort (r := fun x y => !Go.Proofs.ltOf cfP y x) (s := partLe) (f := fun x : PB => x.1) (fun a _ b _ => rfl)
  have hlm : (d.mergeSort fun x y => !Go.Proofs.ltOf cfP y x).length = d.length := List.length_mergeSort _
  have hH2 := holdsK_sortWorldK_c encP 4 w blk 0 d.toArray (d.toArray.toList.mergeSort fun x y => !Go.Proofs.ltOf cfP y x).toArray n os hH hblk (by simp)
  refine ⟨_, cap, rfl, by rw [List.length_mergeSort]; omega, fun k hk => ?_⟩
  have hk2 : k < (d.mergeSort fun x y => !Go.Proofs.ltOf cfP y x).length := by rw [hlm, hdl]; rwa [List.length_mergeSort] at hk
  have hel : (l.mergeSort partLe)[k] = ((d.mergeSort fun x y => !Go.Proofs.ltOf cfP y x)[k]).1 := by
    have : (l.mergeSort partLe)[k]? = ((d.mergeSort fun x y => !Go.Proofs.ltOf cfP y x).map (·.1))[k]? := by rw [hms]
    rw [List.getElem?_eq_getElem hk, List.getElem?_map, List.getElem?_eq_getElem hk2] at this
    simpa using this
  have hget : ∀ c, c < 4 → _ := fun c hc => (hH2.cell (i := k) (c := c) (by simpa using hk2) hc).1
  rw [hel]
  have hb2 : blk < (sortWorldK encP 4 w blk 0 n (d.toArray.toList.mergeSort fun x y => !Go.Proofs.ltOf cfP y x).toArray os).heap.size := Nat.lt_of_lt_of_le hblk (sort_away _ _ _ _ _ _ _ _).size
  have e0 := hget 0 (by omega)
  have e1 := hget 1 (by omega)
  have e2 := hget 2 (by omega)
  have e3 := hget 3 (by omega)
  have hg : (d.toArray.toList.mergeSort fun x y => !Go.Proofs.ltOf cfP y x).toArray[k]! = (d.mergeSort fun x y => !Go.Proofs.ltOf cfP y x)[k] := by rw [getElem!_pos _ k (by simpa using hk2)]; simp
  rw [hg] at e0 e1 e2 e3
  refine ⟨blk, 0, rfl, rfl, hb2, ⟨⟨rfl, e0⟩, ⟨rfl, e1⟩⟩, ⟨rfl, e2⟩, ⟨rfl, e3⟩⟩
end Go.Proofs.YtdbkbkopcnkgcaaGreat

open Go Go.RowKit
open Go.Sort (HoldsK flatK grow putRowK SWO PermIn SortedIn)
namespace Go.Proofs.YtdbkbkopcnkgcaaGreat

structure PackD where
  rule : Nat
  kids : List Int
deriving DecidableEq, Repr, Inhabited
def Elt.pack : Elt PackD := (Elt.int.pair Elt.int.sl).map fun v => ((v.rule : Int), v.kids)
def cmpPack (a b : PackD) : Int := if a.rule ≠ b.rule then (a.rule : Int) - b.rule else cmpInts a.kids b.kids
theorem cmpPack_lt (a b : PackD) : cmpPack a b < 0 ↔ a.rule < b.rule ∨ (a.rule = b.rule ∧ cmpInts a.kids b.kids < 0) := by
  unfold cmpPack
  by_cases h : a.rule = b.rule
  · simp [h]
  · simp [h]; omega
def packLe (a b : PackD) : Bool := !decide (cmpPack b a < 0)
theorem cmpPack_irrefl (x : PackD) : ¬ cmpPack x x < 0 := by
  rw [cmpPack_lt, cmpInts_refl]; omega
theorem cmpPack_trans {x y z : PackD} (h1 : cmpPack x y < 0) (h2 : cmpPack y z < 0) : cmpPack x z < 0 := by
  rw [cmpPack_lt] at *
  have h := cmpInts_trans x.kids y.kids z.kids
  rcases h1 with h1 | ⟨h1, h3⟩ <;> rcases h2 with h2 | ⟨h2, h4⟩
  · left; omega
  · left; omega
  · left; omega
  · right; exact ⟨by omega, h h3 h4⟩
theorem cmpPack_tot {x y : PackD} (h1 : ¬ cmpPack x y < 0) (h2 : ¬ cmpPack y x < 0) : x = y := by
  rw [cmpPack_lt] at h1 h2
  have ha := cmpInts_anti x.kids y.kids
  obtain ⟨xr, xk⟩ := x
  obtain ⟨yr, yk⟩ := y
  simp only at *
  have e1 : xr = yr := by omega
  have e2 : cmpInts xk yk = 0 := by
    simp only [e1, true_and, Nat.lt_irrefl, false_or] at h1 h2; omega
  rw [e1, cmpInts_zero _ _ e2]
theorem cmpPack_ntrans {x y z : PackD} (h1 : ¬ cmpPack x y < 0) (h2 : ¬ cmpPack y z < 0) : ¬ cmpPack x z < 0 := by
  intro h3
  by_cases a : cmpPack y x < 0
  · exact h2 (cmpPack_trans a h3)
  · have := cmpPack_tot h1 a; subst this; exact h2 h3

/-- what a sorted permutation of such data is -/
theorem pack_sorted {l m : List PackD} (hp : m.Perm l) (hs : m.Pairwise fun a b => ¬ cmpPack b a < 0) : m = l.mergeSort packLe := by
  refine List.Perm.eq_of_pairwise (le := fun x y => ¬ cmpPack y x < 0) ?_ hs ?_ (hp.trans (List.mergeSort_perm _ _).symm)
  · intro a b _ _ h1 h2; exact cmpPack_tot h2 h1
  · have := List.pairwise_mergeSort (le := packLe) (fun a b c h1 h2 => by
      simp only [packLe, Bool.not_eq_true', decide_eq_false_iff_not] at *
      exact cmpPack_ntrans h2 h1) (fun a b => by
      simp only [packLe, Bool.or_eq_true, Bool.not_eq_true', decide_eq_false_iff_not]
      by_cases h : cmpPack b a < 0
      · right; intro h2; exact cmpPack_irrefl _ (cmpPack_trans h h2)
      · left; exact h) l
    exact this.imp fun {a b} h => by simpa [packLe] using h

/-- a pack in memory, in front of a sort of the row in block blk -/
def GoodPk (G : Nat → Prop) (w : World) (e : PackD × Hdr) : Prop := e.1.rule ≤ 1000 ∧ (∃ A c, e.2 = (A, e.1.kids.length, c) ∧ e.1.kids.length ≤ c) ∧ IsSl Elt.int G w (hdrV e.2) e.1.kids
abbrev PK (G : Nat → Prop) (w : World) := {e : PackD × Hdr // GoodPk G w e}
instance (G : Nat → Prop) (w : World) : Inhabited (PK G w) := ⟨⟨(⟨0, []⟩, (none, 0, 0)), ⟨by simp, ⟨none, 0, rfl, Nat.le_refl _⟩, none, 0, rfl, by simp, fun k hk => absurd hk (by simp)⟩⟩⟩
def encK (e : PackD × Hdr) : List Value := [.int .i64 e.1.rule, hdrV e.2]
def cfK (G : Nat → Prop) (w : World) (a b : PK G w) : Int := cmpPack a.1.1 b.1.1
theorem swoK (G : Nat → Prop) (w : World) : SWO (Go.Proofs.ltOf (cfK G w)) where
  irrefl x := by show decide (cmpPack _ _ < 0) = false; rw [decide_eq_false_iff_not]; exact cmpPack_irrefl _
  trans x y z h1 h2 := by
    change decide (cmpPack _ _ < 0) = true at h1 h2
    show decide (cmpPack _ _ < 0) = true
    rw [decide_eq_true_eq] at *
    exact cmpPack_trans h1 h2
  ntrans x y z h1 h2 := by
    change decide (cmpPack _ _ < 0) = false at h1 h2
    show decide (cmpPack _ _ < 0) = false
    rw [decide_eq_false_iff_not] at *
    exact cmpPack_ntrans h1 h2

set_option maxHeartbeats 1000000 in
theorem packs_closure (F F2 : Nat → Prop) (a b : PackD) (A : Option Addr) (n c : Nat) (B : Option Addr) (m d : Nat) (W : World) (ha : IsSl Elt.int F W (.slice A n c) a.kids) (hb : IsSl Elt.int F2 W (.slice B m d) b.kids) (ha1 : a.rule ≤ 1000) (hb1 : b.rule ≤ 1000) :
    Calls Tryz.prog 59 #[.agg #[.int .i64 a.rule, .slice A n c], .agg #[.int .i64 b.rule, .slice B m d]] W fun e w' => e = .returned (.int .i64 (cmpPack a b)) ∧ ∃ q os', w' = grow (W.drewN q) os' := by
  have hfin : ∀ o1 o2 : Obj, ∃ q os', (W.alloc o1).alloc o2 = grow (W.drewN q) os' := fun o1 o2 => ⟨0, _, by rw [Go.Sort.alloc_eq_grow, Go.Sort.alloc_eq_grow, Go.Sort.grow_grow]; rfl⟩
  have hbW : ∀ o1 o2 : Obj, Below W.heap.size W ((W.alloc o1).alloc o2) := fun o1 o2 => ((Below.refl _ _).alloc (Nat.le_refl _) _).alloc (by simp) _
  by_cases h1 : a.rule = b.rule
  · have z1 : ((a.rule : Int) != (b.rule : Int)) = false := by simp [h1]
    have E := Lib.hid (show cmpPack a b = cmpInts a.kids b.kids by simp [cmpPack, h1])
    clear h1
    have hcon := fun W' hx hy => compareInts_any F F2 a.kids b.kids A B n m c d W' hx hy
    go_enter Tryz.func59, Tryz.ntmps59
    go_wp2_with fail
    refine (hcon _ (ha.below (hbW _ _)) (hb.below (hbW _ _))).mono ?_
    rintro e w' ⟨rfl, rfl⟩
    go_wp2_with fail
    go_ret
    exact ⟨ret_int (by rw [E.out]), hfin _ _⟩
  · have z1 : ((a.rule : Int) != (b.rule : Int)) = true := by simp; omega
    have E := Lib.hid (show cmpPack a b = (a.rule : Int) - b.rule by simp [cmpPack, h1])
    clear h1
    go_enter Tryz.func59, Tryz.ntmps59
    go_wp2_with fail
    go_ret
    exact ⟨ret_int (by rw [E.out]), hfin _ _⟩

theorem sort_packs (w : World) (base blk cap : Nat) (G : Nat → Prop) (hG : ∀ b, G b → b ≠ blk) (L : List (PackD × Hdr)) (hgood : ∀ e ∈ L, GoodPk G w e) (hlen : L.length ≤ 1000000) (hown : w.ownsRow base 116 2 (.slice (some ⟨blk, 0, none⟩) L.length cap) L.length (L.flatMap encK)) :
    Calls Tryz.prog 58 #[.slice (some ⟨blk, 0, none⟩) L.length cap, .func (.func 59) #[] #[]] w fun e w' => e = .returned (.tuple #[]) ∧ Away w.heap.size (fun b => b = blk) w w' ∧ IsSl Elt.pack (fun b => b = blk ∨ (G b ∧ b < w.heap.size)) w' (.slice (some ⟨blk, 0, none⟩) ((L.map (·.1)).mergeSort packLe).length cap) ((L.map (·.1)).mergeSort packLe) := by
  obtain ⟨d, hd⟩ : ∃ d : List (PK G w), d.map (·.1) = L := ⟨L.attachWith (GoodPk G w) hgood, by first | exact List.attachWith_map_subtype_val .. | (simp; exact List.attach_map_subtype_val L)⟩
  have hdl : d.length = L.length := by rw [← hd, List.length_map]
  have hfl : d.flatMap (fun e => encK e.1) = L.flatMap encK := by rw [← hd, List.flatMap_map]
  have hblk : blk < w.heap.size := (hown.lt blk rfl).2
  have hown2 : w.ownsRow base 116 2 (.slice (some ⟨blk, 0, none⟩) d.length cap) d.length (d.flatMap fun e => encK e.1) := by rw [hfl, hdl]; exact hown
  have hH := holds_own (fun e : PK G w => encK e.1) (fun _ => rfl) d hown2
  have eg : ∀ args w, (callFunc 59 args).run Tryz.prog w = .ok (.enter 59 args) w := enters_of Tryz.func59 (by kernel_rfl) rfl
  have hcmp : CmpLays Tryz.prog 59 #[] (fun e : PK G w => encK e.1) 2 (cfK G w) blk 0 d.toArray.size w := fun m os dk _ x y => by
    have ha := sort_away (fun e : PK G w => encK e.1) 2 w blk 0 m dk os
    have hk : ∀ (e : PK G w), IsSl Elt.int (fun b => G b ∧ b < w.heap.size) (sortWorldK (fun e : PK G w => encK e.1) 2 w blk 0 m dk os) (hdrV e.1.2) e.1.1.kids := fun e => e.2.2.2.old.keep (fun b hb => ha.block b hb.2 (hG b hb.1)) ha.size
    exact packs_closure _ _ x.1.1 y.1.1 _ _ _ _ _ _ _ (hk x) (hk y) x.2.1 y.2.1
  have hcon := AnyQ.slices_SortFunc Tryz.sortPack 2 Tryz.isAgg116 Tryz.sizeOf116 (fun e : PK G w => encK e.1) (fun _ => rfl) (fun x v hv => by simp [encK] at hv; rcases hv with rfl | rfl <;> rfl) (cfK G w) (swoK G w) 59 #[] blk 0 cap d.toArray w eg hcmp hH hblk (by simp; omega)
  change Calls Tryz.prog 58 _ _ _ at hcon
  have hsz : d.toArray.size = L.length := by simpa using hdl
  rw [hsz] at hcon
  refine hcon.mono ?_
  rintro e w' ⟨rfl, d', n, os, hperm, hsort, rfl⟩
  have ha := sort_away (fun e : PK G w => encK e.1) 2 w blk 0 n d' os
  refine ⟨rfl, ha, ?_⟩
  have hs' : d'.size = L.length := by have := hperm.1; rw [hsz] at this; exact this
  have hperm2 : d'.toList.Perm d := by
    have h1 := hperm.2.2
    have e1 : d'.extract 0 L.length = d' := by rw [← hs']; exact Array.extract_size
    have e2 : d.toArray.extract 0 L.length = d.toArray := by rw [← hsz]; exact Array.extract_size
    rw [e1, e2] at h1
    exact h1
  have hmap : d'.toList.map (·.1.1) = (L.map (·.1)).mergeSort packLe := by
    refine pack_sorted ?_ ?_
    · rw [← hd, List.map_map]; exact hperm2.map _
    · rw [List.pairwise_map, List.pairwise_iff_getElem]
      intro i j hi hj hij
      have := hsort i j (by omega) hij (by rw [hs'.symm]; simpa using hj)
      change decide (cmpPack _ _ < 0) = false at this
      rw [decide_eq_false_iff_not, getElem!_pos d' i (by simpa using hi), getElem!_pos d' j (by simpa using hj)] at this
      simpa using this
  have hH2 := holdsK_sortWorldK_c (fun e : PK G w => encK e.1) 2 w blk 0 d.toArray d' n os hH hblk (by rw [hs', hsz])
  have hml : ((L.map (·.1)).mergeSort packLe).length = L.length := by rw [List.length_mergeSort, List.length_map]
  refine ⟨_, cap, rfl, by rw [hml]; omega, fun k hk => ?_⟩
  have hk1 : k < d'.size := by omega
  have hel : ((L.map (·.1)).mergeSort packLe)[k] = (d'[k]).1.1 := by
    have h1 : ((L.map (·.1)).mergeSort packLe)[k]? = (d'.toList.map (·.1.1))[k]? := by rw [hmap]
    rw [List.getElem?_eq_getElem hk, List.getElem?_map, List.getElem?_eq_getElem (by simpa using hk1)] at h1
    simpa using h1
  have e0 := (hH2.cell (i := k) (c := 0) hk1 (by omega)).1
  have e1 := (hH2.cell (i := k) (c := 1) hk1 (by omega)).1
  rw [getElem!_pos d' k hk1] at e0 e1
  rw [hel]
  generalize d'[k] = x at e0 e1
  obtain ⟨⟨xd, xh⟩, hx1, ⟨A, c, hx2, hx3⟩, hx4⟩ := x
  simp only at hx1 hx2 hx3 hx4
  subst hx2
  have hb2 : blk < (sortWorldK (fun e : PK G w => encK e.1) 2 w blk 0 n d' os).heap.size := Nat.lt_of_lt_of_le hblk ha.size
  refine ⟨blk, 0, rfl, .inl rfl, hb2, ⟨.inl rfl, e0⟩, .inl rfl, A, c, e1, hx3, ?_⟩
  exact (hx4.old.keep (fun b hb => ha.block b hb.2 (hG b hb.1)) ha.size).weak fun b hb => .inr hb
end Go.Proofs.YtdbkbkopcnkgcaaGreat
