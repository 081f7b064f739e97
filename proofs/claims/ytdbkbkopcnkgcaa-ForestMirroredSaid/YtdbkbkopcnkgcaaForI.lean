import Derived.Test.YtdbkbkopcnkgcaaForH
open Go Go.RowKit
open Go.Sort (HoldsK flatK grow putRowK SWO PermIn SortedIn)
namespace Go.Proofs.Ytdbkbkopcnkgcaa

structure PackD where
  rule : Nat
  kids : List Int
deriving DecidableEq, Repr, Inhabited
def Elt.pack : Elt PackD := (Elt.int.pair Elt.int.sl).map fun v => ((v.rule : Int), v.kids)
def cmpPack (a b : PackD) : Int := if a.rule ≠ b.rule then (a.rule : Int) - b.rule else cmpInts a.kids b.kids
theorem cmpPack_lt (a b : PackD) : cmpPack a b < 0 ↔ a.rule < b.rule ∨ (a.rule = b.rule ∧ cmpInts a.kids b.kids < 0) := by
  unfold cmpPack
  by_cases h : a.rule = b.rule
  · simp [h]
  · simp [h]; omega
def packLe (a b : PackD) : Bool := !decide (cmpPack b a < 0)
theorem cmpPack_irrefl (x : PackD) : ¬ cmpPack x x < 0 := by
  rw [cmpPack_lt, cmpInts_refl]; omega
theorem cmpPack_trans {x y z : PackD} (h1 : cmpPack x y < 0) (h2 : cmpPack y z < 0) : cmpPack x z < 0 := by
  rw [cmpPack_lt] at *
  have h := cmpInts_trans x.kids y.kids z.kids
  rcases h1 with h1 | ⟨h1, h3⟩ <;> rcases h2 with h2 | ⟨h2, h4⟩
  · left; omega
  · left; omega
  · left; omega
  · right; exact ⟨by omega, h h3 h4⟩
theorem cmpPack_tot {x y : PackD} (h1 : ¬ cmpPack x y < 0) (h2 : ¬ cmpPack y x < 0) : x = y := by
  rw [cmpPack_lt] at h1 h2
  have ha := cmpInts_anti x.kids y.kids
  obtain ⟨xr, xk⟩ := x
  obtain ⟨yr, yk⟩ := y
  simp only at *
  have e1 : xr = yr := by omega
  have e2 : cmpInts xk yk = 0 := by
    simp only [e1, true_and, Nat.lt_irrefl, false_or] at h1 h2; omega
  rw [e1, cmpInts_zero _ _ e2]
theorem cmpPack_ntrans {x y z : PackD} (h1 : ¬ cmpPack x y < 0) (h2 : ¬ cmpPack y z < 0) : ¬ cmpPack x z < 0 := by
  intro h3
  by_cases a : cmpPack y x < 0
  · exact h2 (cmpPack_trans a h3)
  · have := cmpPack_tot h1 a; subst this; exact h2 h3

/-- what a sorted permutation of such data is -/
theorem pack_sorted {l m : List PackD} (hp : m.Perm l) (hs : m.Pairwise fun a b => ¬ cmpPack b a < 0) : m = l.mergeSort packLe := by
  refine List.Perm.eq_of_pairwise (le := fun x y => ¬ cmpPack y x < 0) ?_ hs ?_ (hp.trans (List.mergeSort_perm _ _).symm)
  · intro a b _ _ h1 h2; exact cmpPack_tot h2 h1
  · have := List.pairwise_mergeSort (le := packLe) (fun a b c h1 h2 => by
      simp only [packLe, Bool.not_eq_true', decide_eq_false_iff_not] at *
      exact cmpPack_ntrans h2 h1) (fun a b => by
      simp only [packLe, Bool.or_eq_true, Bool.not_eq_true', decide_eq_false_iff_not]
      by_cases h : cmpPack b a < 0
      · right; intro h2; exact cmpPack_irrefl _ (cmpPack_trans h h2)
      · left; exact h) l
    exact this.imp fun {a b} h => by simpa [packLe] using h

/-- a pack in memory, in front of a sort of the row in block blk -/
def GoodPk (G : Nat → Prop) (w : World) (e : PackD × Hdr) : Prop := e.1.rule ≤ 1000 ∧ (∃ A c, e.2 = (A, e.1.kids.length, c) ∧ e.1.kids.length ≤ c) ∧ IsSl Elt.int G w (hdrV e.2) e.1.kids
abbrev PK (G : Nat → Prop) (w : World) := {e : PackD × Hdr // GoodPk G w e}
instance (G : Nat → Prop) (w : World) : Inhabited (PK G w) := ⟨⟨(⟨0, []⟩, (none, 0, 0)), ⟨by simp, ⟨none, 0, rfl, Nat.le_refl _⟩, none, 0, rfl, by simp, fun k hk => absurd hk (by simp)⟩⟩⟩
def encK (e : PackD × Hdr) : List Value := [.int .i64 e.1.rule, hdrV e.2]
def cfK (G : Nat → Prop) (w : World) (a b : PK G w) : Int := cmpPack a.1.1 b.1.1
theorem swoK (G : Nat → Prop) (w : World) : SWO (Go.Proofs.ltOf (cfK G w)) where
  irrefl x := by show decide (cmpPack _ _ < 0) = false; rw [decide_eq_false_iff_not]; exact cmpPack_irrefl _
  trans x y z h1 h2 := by
    change decide (cmpPack _ _ < 0) = true at h1 h2
    show decide (cmpPack _ _ < 0) = true
    rw [decide_eq_true_eq] at *
    exact cmpPack_trans h1 h2
  ntrans x y z h1 h2 := by
    change decide (cmpPack _ _ < 0) = false at h1 h2
    show decide (cmpPack _ _ < 0) = false
    rw [decide_eq_false_iff_not] at *
    exact cmpPack_ntrans h1 h2

set_option maxHeartbeats 1000000 in
theorem packs_closure (F F2 : Nat → Prop) (a b : PackD) (A : Option Addr) (n c : Nat) (B : Option Addr) (m d : Nat) (W : World) (ha : IsSl Elt.int F W (.slice A n c) a.kids) (hb : IsSl Elt.int F2 W (.slice B m d) b.kids) (ha1 : a.rule ≤ 1000) (hb1 : b.rule ≤ 1000) :
    Calls Try.prog 127 #[.agg #[.int .i64 a.rule, .slice A n c], .agg #[.int .i64 b.rule, .slice B m d]] W fun e w' => e = .returned (.int .i64 (cmpPack a b)) ∧ ∃ q os', w' = grow (W.drewN q) os' := by
  have hfin : ∀ o1 o2 : Obj, ∃ q os', (W.alloc o1).alloc o2 = grow (W.drewN q) os' := fun o1 o2 => ⟨0, _, by rw [Go.Sort.alloc_eq_grow, Go.Sort.alloc_eq_grow, Go.Sort.grow_grow]; rfl⟩
  have hbW : ∀ o1 o2 : Obj, Below W.heap.size W ((W.alloc o1).alloc o2) := fun o1 o2 => ((Below.refl _ _).alloc (Nat.le_refl _) _).alloc (by simp) _
  by_cases h1 : a.rule = b.rule
  · have z1 : ((a.rule : Int) != (b.rule : Int)) = false := by simp [h1]
    have E := Lib.hid (show cmpPack a b = cmpInts a.kids b.kids by simp [cmpPack, h1])
    clear h1
    have hcon := fun W' hx hy => compareInts_any F F2 a.kids b.kids A B n m c d W' hx hy
    go_enter Try.func127, Try.ntmps127
    go_wp2_with fail
    refine (hcon _ (ha.below (hbW _ _)) (hb.below (hbW _ _))).mono ?_
    rintro e w' ⟨rfl, rfl⟩
    go_wp2_with fail
    go_ret
    exact ⟨ret_int (by rw [E.out]), hfin _ _⟩
  · have z1 : ((a.rule : Int) != (b.rule : Int)) = true := by simp; omega
    have E := Lib.hid (show cmpPack a b = (a.rule : Int) - b.rule by simp [cmpPack, h1])
    clear h1
    go_enter Try.func127, Try.ntmps127
    go_wp2_with fail
    go_ret
    exact ⟨ret_int (by rw [E.out]), hfin _ _⟩

theorem sort_packs (w : World) (base blk cap : Nat) (G : Nat → Prop) (hG : ∀ b, G b → b ≠ blk) (L : List (PackD × Hdr)) (hgood : ∀ e ∈ L, GoodPk G w e) (hlen : L.length ≤ 1000000) (hown : w.ownsRow base 43 2 (.slice (some ⟨blk, 0, none⟩) L.length cap) L.length (L.flatMap encK)) :
    Calls Try.prog 126 #[.slice (some ⟨blk, 0, none⟩) L.length cap, .func (.func 127) #[] #[]] w fun e w' => e = .returned (.tuple #[]) ∧ Away w.heap.size (fun b => b = blk) w w' ∧ IsSl Elt.pack (fun b => b = blk ∨ (G b ∧ b < w.heap.size)) w' (.slice (some ⟨blk, 0, none⟩) ((L.map (·.1)).mergeSort packLe).length cap) ((L.map (·.1)).mergeSort packLe) := by
  obtain ⟨d, hd⟩ : ∃ d : List (PK G w), d.map (·.1) = L := ⟨L.attachWith (GoodPk G w) hgood, by first | exact List.attachWith_map_subtype_val .. | (simp; exact List.attach_map_subtype_val L)⟩
  have hdl : d.length = L.length := by rw [← hd, List.length_map]
  have hfl : d.flatMap (fun e => encK e.1) = L.flatMap encK := by rw [← hd, List.flatMap_map]
  have hblk : blk < w.heap.size := (hown.lt blk rfl).2
  have hown2 : w.ownsRow base 43 2 (.slice (some ⟨blk, 0, none⟩) d.length cap) d.length (d.flatMap fun e => encK e.1) := by rw [hfl, hdl]; exact hown
  have hH := holds_own (fun e : PK G w => encK e.1) (fun _ => rfl) d hown2
  have eg : ∀ args w, (callFunc 127 args).run Try.prog w = .ok (.enter 127 args) w := enters_of Try.func127 (by kernel_rfl) rfl
  have hcmp : CmpLays Try.prog 127 #[] (fun e : PK G w => encK e.1) 2 (cfK G w) blk 0 d.toArray.size w := fun m os dk _ x y => by
    have ha := sort_away (fun e : PK G w => encK e.1) 2 w blk 0 m dk os
    have hk : ∀ (e : PK G w), IsSl Elt.int (fun b => G b ∧ b < w.heap.size) (sortWorldK (fun e : PK G w => encK e.1) 2 w blk 0 m dk os) (hdrV e.1.2) e.1.1.kids := fun e => e.2.2.2.old.keep (fun b hb => ha.block b hb.2 (hG b hb.1)) ha.size
    exact packs_closure _ _ x.1.1 y.1.1 _ _ _ _ _ _ _ (hk x) (hk y) x.2.1 y.2.1
  have hcon := AnyQ.slices_SortFunc Try.sortPack 2 Try.isAgg43 Try.sizeOf43 (fun e : PK G w => encK e.1) (fun _ => rfl) (fun x v hv => by simp [encK] at hv; rcases hv with rfl | rfl <;> rfl) (cfK G w) (swoK G w) 127 #[] blk 0 cap d.toArray w eg hcmp hH hblk (by simp; omega)
  change Calls Try.prog 126 _ _ _ at hcon
  have hsz : d.toArray.size = L.length := by simpa using hdl
  rw [hsz] at hcon
  refine hcon.mono ?_
  rintro e w' ⟨rfl, d', n, os, hperm, hsort, rfl⟩
  have ha := sort_away (fun e : PK G w => encK e.1) 2 w blk 0 n d' os
  refine ⟨rfl, ha, ?_⟩
  have hs' : d'.size = L.length := by have := hperm.1; rw [hsz] at this; exact this
  have hperm2 : d'.toList.Perm d := by
    have h1 := hperm.2.2
    have e1 : d'.extract 0 L.length = d' := by rw [← hs']; exact Array.extract_size
    have e2 : d.toArray.extract 0 L.length = d.toArray := by rw [← hsz]; exact Array.extract_size
    rw [e1, e2] at h1
    exact h1
  have hmap : d'.toList.map (·.1.1) = (L.map (·.1)).mergeSort packLe := by
    refine pack_sorted ?_ ?_
    · rw [← hd, List.map_map]; exact hperm2.map _
    · rw [List.pairwise_map, List.pairwise_iff_getElem]
      intro i j hi hj hij
      have := hsort i j (by omega) hij (by rw [hs'.symm]; simpa using hj)
      change decide (cmpPack _ _ < 0) = false at this
      rw [decide_eq_false_iff_not, getElem!_pos d' i (by simpa using hi), getElem!_pos d' j (by simpa using hj)] at this
      simpa using this
  have hH2 := holdsK_sortWorldK_c (fun e : PK G w => encK e.1) 2 w blk 0 d.toArray d' n os hH hblk (by rw [hs', hsz])
  have hml : ((L.map (·.1)).mergeSort packLe).length = L.length := by rw [List.length_mergeSort, List.length_map]
  refine ⟨_, cap, rfl, by rw [hml]; omega, fun k hk => ?_⟩
  have hk1 : k < d'.size := by omega
  have hel : ((L.map (·.1)).mergeSort packLe)[k] = (d'[k]).1.1 := by
    have h1 : ((L.map (·.1)).mergeSort packLe)[k]? = (d'.toList.map (·.1.1))[k]? := by rw [hmap]
    rw [List.getElem?_eq_getElem hk, List.getElem?_map, List.getElem?_eq_getElem (by simpa using hk1)] at h1
    simpa using h1
  have e0 := (hH2.cell (i := k) (c := 0) hk1 (by omega)).1
  have e1 := (hH2.cell (i := k) (c := 1) hk1 (by omega)).1
  rw [getElem!_pos d' k hk1] at e0 e1
  rw [hel]
  generalize d'[k] = x at e0 e1
  obtain ⟨⟨xd, xh⟩, hx1, ⟨A, c, hx2, hx3⟩, hx4⟩ := x
  simp only at hx1 hx2 hx3 hx4
  subst hx2
  have hb2 : blk < (sortWorldK (fun e : PK G w => encK e.1) 2 w blk 0 n d' os).heap.size := Nat.lt_of_lt_of_le hblk ha.size
  refine ⟨blk, 0, rfl, .inl rfl, hb2, ⟨.inl rfl, e0⟩, .inl rfl, A, c, e1, hx3, ?_⟩
  exact (hx4.old.keep (fun b hb => ha.block b hb.2 (hG b hb.1)) ha.size).weak fun b hb => .inr hb
end Go.Proofs.Ytdbkbkopcnkgcaa
