import Derived.Test.YtcndbohiiodndaaErlOne
import Derived.Test.YtcndbohiiodndaaForH
import Derived.Test.YtcndbohiiodndaaCykWX
import Derived.Test.YtcndbohiiodndaaDoub
import Derived.Test.YtcndbohiiodndaaLawCyk
import Derived.Test.YtcndbohiiodndaaMakeG
import Derived.Test.YtcndbohiiodndaaCopy
import Derived.Test.YtcndbohiiodndaaOwnLt
import Derived.Test.YtcndbohiiodndaaMeanD
open Go Go.RowKit
open Go.Sort (HoldsK flatK grow putRowK SWO PermIn SortedIn)
namespace Go.Proofs.Ytcndbohiiodndaa

/-! ### items in order -/
def Elt.eitem : Elt EItem := (Elt.int.pair (Elt.int.pair Elt.int)).map fun z => ((z.1 : Int), ((z.2.1 : Int), (z.2.2 : Int)))
def cmpItem (a b : EItem) : Int := if a.1 ≠ b.1 then (a.1 : Int) - b.1 else if a.2.1 ≠ b.2.1 then (a.2.1 : Int) - b.2.1 else (a.2.2 : Int) - b.2.2
theorem cmpItem_lt (a b : EItem) : cmpItem a b < 0 ↔ a.1 < b.1 ∨ (a.1 = b.1 ∧ (a.2.1 < b.2.1 ∨ (a.2.1 = b.2.1 ∧ a.2.2 < b.2.2))) := by
  obtain ⟨a1, a2, a3⟩ := a
  obtain ⟨b1, b2, b3⟩ := b
  unfold cmpItem
  by_cases h1 : a1 = b1
  · by_cases h2 : a2 = b2
    · simp [h1, h2]; omega
    · simp [h1, h2]; omega
  · simp [h1]; omega
def OkI (z : EItem) : Prop := z.1 ≤ 1000 ∧ z.2.1 ≤ 1000 ∧ z.2.2 ≤ 1000
abbrev IB := {z : EItem // OkI z}
instance : Inhabited IB := ⟨⟨(0, 0, 0), ⟨by simp, by simp, by simp⟩⟩⟩
def cfI (a b : IB) : Int := cmpItem a.1 b.1
theorem ltI (a b : IB) : Go.Proofs.ltOf cfI a b = decide (cmpItem a.1 b.1 < 0) := rfl
theorem swoI : SWO (Go.Proofs.ltOf cfI) where
  irrefl x := by rw [ltI, decide_eq_false_iff_not, cmpItem_lt]; omega
  trans x y z h1 h2 := by rw [ltI, decide_eq_true_eq, cmpItem_lt] at *; omega
  ntrans x y z h1 h2 := by rw [ltI, decide_eq_false_iff_not, cmpItem_lt] at *; omega
theorem totI (x y : IB) (h1 : Go.Proofs.ltOf cfI x y = false) (h2 : Go.Proofs.ltOf cfI y x = false) : x = y := by
  rw [ltI, decide_eq_false_iff_not, cmpItem_lt] at h1 h2
  obtain ⟨⟨x1, x2, x3⟩, hx⟩ := x
  obtain ⟨⟨y1, y2, y3⟩, hy⟩ := y
  simp only [Subtype.mk.injEq, Prod.mk.injEq] at *
  omega

set_option maxHeartbeats 1000000 in
theorem orderE_any (a b : EItem) (ha : OkI a) (hb : OkI b) (W : World) : Calls Try.prog 85 #[itemV a, itemV b] W fun e w' => e = .returned (.int .i64 (cmpItem a b)) ∧ ∃ q os', w' = grow (W.drewN q) os' := by
  obtain ⟨a1, a2, a3⟩ := a
  obtain ⟨b1, b2, b3⟩ := b
  obtain ⟨a4, a5, a6⟩ := ha
  obtain ⟨b4, b5, b6⟩ := hb
  simp only at a4 a5 a6 b4 b5 b6
  unfold itemV
  have hfin : ∀ o1 o2 : Obj, ∃ q os', (W.alloc o1).alloc o2 = grow (W.drewN q) os' := fun o1 o2 => ⟨0, _, by rw [Go.Sort.alloc_eq_grow, Go.Sort.alloc_eq_grow, Go.Sort.grow_grow]; rfl⟩
  by_cases h1 : a1 = b1
  · have z1 : ((a1 : Int) != (b1 : Int)) = false := by simp [h1]
    by_cases h2 : a2 = b2
    · have z2 : ((a2 : Int) != (b2 : Int)) = false := by simp [h2]
      have e3 : cmpItem (a1, a2, a3) (b1, b2, b3) = (a3 : Int) - b3 := by simp [cmpItem, h1, h2]
      have E := Lib.hid e3
      clear h1 h2 e3
      go_enter Try.func85, Try.ntmps85
      go_wp2
      go_ret
      exact ⟨ret_int (by rw [E.out]), hfin _ _⟩
    · have z2 : ((a2 : Int) != (b2 : Int)) = true := by simp; omega
      have e3 : cmpItem (a1, a2, a3) (b1, b2, b3) = (a2 : Int) - b2 := by simp [cmpItem, h1, h2]
      have E := Lib.hid e3
      clear h1 h2 e3
      go_enter Try.func85, Try.ntmps85
      go_wp2
      go_ret
      exact ⟨ret_int (by rw [E.out]), hfin _ _⟩
  · have z1 : ((a1 : Int) != (b1 : Int)) = true := by simp; omega
    have e3 : cmpItem (a1, a2, a3) (b1, b2, b3) = (a1 : Int) - b1 := by simp [cmpItem, h1]
    have E := Lib.hid e3
    clear h1 e3
    go_enter Try.func85, Try.ntmps85
    go_wp2
    go_ret
    exact ⟨ret_int (by rw [E.out]), hfin _ _⟩

def itemLe (a b : EItem) : Bool := !decide (cmpItem b a < 0)
def itemC (z : EItem) : List Value := [.int .i64 z.1, .int .i64 z.2.1, .int .i64 z.2.2]
theorem itemC_one (z : EItem) : ∀ v ∈ itemC z, v.oneCell' = true := fun v hv => by
  unfold itemC at hv; simp at hv; rcases hv with rfl | rfl | rfl <;> rfl
def encI (z : IB) : List Value := itemC z.1

theorem sort_items (w : World) (base blk cap : Nat) (l : List EItem) (hok : ∀ z ∈ l, OkI z) (hlen : l.length ≤ 1000000) (hown : w.ownsRow base 63 3 (.slice (some ⟨blk, 0, none⟩) l.length cap) l.length (itemCells l)) :
    Calls Try.prog 84 #[.slice (some ⟨blk, 0, none⟩) l.length cap, .func (.func 85) #[] #[]] w fun e w' => e = .returned (.tuple #[]) ∧ Away w.heap.size (fun b => b = blk) w w' ∧ IsSl Elt.eitem (fun b => b = blk) w' (.slice (some ⟨blk, 0, none⟩) (l.mergeSort itemLe).length cap) (l.mergeSort itemLe) := by
  obtain ⟨d, hd⟩ : ∃ d : List IB, d.map (·.1) = l := ⟨l.attachWith OkI hok, List.attachWith_map_subtype_val _⟩
  have hdl : d.length = l.length := by rw [← hd, List.length_map]
  have hfl : d.flatMap encI = itemCells l := by rw [← hd, itemCells, List.flatMap_map]; rfl
  have hblk : blk < w.heap.size := (hown.lt blk rfl).2
  have hown2 : w.ownsRow base 63 3 (.slice (some ⟨blk, 0, none⟩) d.length cap) d.length (d.flatMap encI) := by rw [hfl, hdl]; exact hown
  have hH := holds_own encI (fun _ => rfl) d hown2
  have eg : ∀ args w, (callFunc 85 args).run Try.prog w = .ok (.enter 85 args) w := enters_of Try.func85 (by kernel_rfl) rfl
  have hcmp : CmpLays Try.prog 85 #[] encI 3 cfI blk 0 d.toArray.size w := fun _ _ _ _ x y => orderE_any x.1 y.1 x.2 y.2 _
  have hcon := AnyQ.slices_SortFunc_total Try.sortItem 3 Try.isAgg63 Try.sizeOf63 encI (fun _ => rfl) (fun x => itemC_one x.1) cfI swoI 85 #[] blk 0 cap d.toArray w eg hcmp hH hblk (by simp; omega) totI
  change Calls Try.prog 84 _ _ _ at hcon
  have hsz : d.toArray.size = l.length := by simpa using hdl
  rw [hsz] at hcon
  refine hcon.mono ?_
  rintro e w' ⟨rfl, n, os, rfl⟩
  refine ⟨rfl, sort_away _ _ _ _ _ _ _ _, ?_⟩
  have hms : ((d.mergeSort fun x y => !Go.Proofs.ltOf cfI y x).map (·.1)) = l.mergeSort itemLe := by
    rw [← hd]
    exact List.map_mergeSort (r := fun x y => !Go.Proofs.ltOf cfI y x) (s := itemLe) (f := fun x : IB => x.1) (fun a _ b _ => rfl)
  have hlm : (d.mergeSort fun x y => !Go.Proofs.ltOf cfI y x).length = d.length := List.length_mergeSort _
  have hH2 := holdsK_sortWorldK_c encI 3 w blk 0 d.toArray (d.toArray.toList.mergeSort fun x y => !Go.Proofs.ltOf cfI y x).toArray n os hH hblk (by simp)
  refine ⟨_, cap, rfl, by rw [List.length_mergeSort]; omega, fun k hk => ?_⟩
  have hk2 : k < (d.mergeSort fun x y => !Go.Proofs.ltOf cfI y x).length := by rw [hlm, hdl]; rwa [List.length_mergeSort] at hk
  have hel : (l.mergeSort itemLe)[k] = ((d.mergeSort fun x y => !Go.Proofs.ltOf cfI y x)[k]).1 := by
    have : (l.mergeSort itemLe)[k]? = ((d.mergeSort fun x y => !Go.Proofs.ltOf cfI y x).map (·.1))[k]? := by rw [hms]
    rw [List.getElem?_eq_getElem hk, List.getElem?_map, List.getElem?_eq_getElem hk2] at this
    simpa using this
  have hget : ∀ c, c < 3 → _ := fun c hc => (hH2.cell (i := k) (c := c) (by simpa using hk2) hc).1
  rw [hel]
  have hb2 : blk < (sortWorldK encI 3 w blk 0 n (d.toArray.toList.mergeSort fun x y => !Go.Proofs.ltOf cfI y x).toArray os).heap.size := Nat.lt_of_lt_of_le hblk (sort_away _ _ _ _ _ _ _ _).size
  have e0 := hget 0 (by omega)
  have e1 := hget 1 (by omega)
  have e2 := hget 2 (by omega)
  have hg : (d.toArray.toList.mergeSort fun x y => !Go.Proofs.ltOf cfI y x).toArray[k]! = (d.mergeSort fun x y => !Go.Proofs.ltOf cfI y x)[k] := by rw [getElem!_pos _ k (by simpa using hk2)]; simp
  rw [hg] at e0 e1 e2
  exact ⟨blk, 0, rfl, rfl, hb2, ⟨rfl, e0⟩, ⟨rfl, e1⟩, ⟨rfl, e2⟩⟩
end Go.Proofs.Ytcndbohiiodndaa

open Go Go.RowKit
namespace Go.Proofs.Ytcndbohiiodndaa

theorem echeck_ok (F : Nat → Prop) (g : Gram) (A : Option Addr) (n c : Nat) (x : List Int) (B : Option Addr) (m d : Nat) (w : World) (hr : IsSl Elt.rule F w (.slice A n c) g.rules) (hv : Valid g) (hc : n ≤ c)
    (hx : IsSl Elt.int F w (.slice B m d) x) (ho : OkWord g x) (hm : x.length ≤ 12) :
    Calls Try.prog 82 #[gramV g (.slice A n c), .slice B m d] w fun e w' => e = .returned (.int .i64 0) ∧ Below w.heap.size w w' := by
  have hm2 : (x.length : Int) ≤ 12 := by omega
  go_enter Try.func82, Try.ntmps82
  unfold gramV
  go_wp2_with fail
  have hb1 : Below w.heap.size w (w.alloc (.cells #[.int .i64 g.terms, .int .i64 g.nons, .int .i64 g.start, .slice A n c] 25)) := (Below.refl _ _).alloc (Nat.le_refl _) _
  refine (check_valid F g A n c _ (hr.below hb1) hv hc).mono ?_
  rintro e w' ⟨rfl, hb2⟩
  have hb3 : Below w.heap.size w w' := hb1.trans (hb2.mono (by simp))
  have h0 := box_cell (w := w) (wr := w') (hb2.mono (by simp)) (j := 0) rfl
  have h1 := box_cell (w := w) (wr := w') (hb2.mono (by simp)) (j := 1) rfl
  have h2 := box_cell (w := w) (wr := w') (hb2.mono (by simp)) (j := 2) rfl
  have h3 := box_cell (w := w) (wr := w') (hb2.mono (by simp)) (j := 3) rfl
  go_wp2_with fail
  refine (gramWord_any F g _ x B m d 12 _ (hx.below hb3) (by omega) ho).mono ?_
  rintro e w2 ⟨rfl, hb4⟩
  go_wp2
  go_ret
  exact ⟨rfl, hb3.trans (hb4.mono hb3.size)⟩

/-- the sets as the statements see them -/
def setsOf (g : Gram) (x : List Int) : List (List EItem) := (List.range (x.length + 1)).map fun k => (fillE g x k).mergeSort itemLe

def SetsEnd (w w' : World) (e : Ending) (g : Gram) (x : List Int) : Prop :=
  ∃ A c, e = .returned (.tuple #[.slice A (x.length + 1) c, .int .i64 0]) ∧ Below w.heap.size w w' ∧ x.length + 1 ≤ c ∧ IsSl Elt.eitem.sl (fun b => w.heap.size ≤ b) w' (.slice A (x.length + 1) c) (setsOf g x)

/-- the sets up to q are in order -/
structure SSt (w4 wr : World) (lo n1 : Nat) (h : EHead) (S : ESets) (q : Nat) : Prop where
  away : Away w4.heap.size (fun b => ∃ k, k < n1 ∧ (hdE h S k).ownBlock = some b) w4 wr
  done : ∀ k, k < q → k < n1 → (S k).length ≤ (h k).2 ∧ IsSl Elt.eitem (fun b => (hdE h S k).ownBlock = some b) wr (.slice (h k).1 ((S k).mergeSort itemLe).length (h k).2) ((S k).mergeSort itemLe)
  rest : ∀ k, q ≤ k → k < n1 → wr.ownsRow lo 63 3 (hdE h S k) (S k).length (itemCells (S k))

theorem okI_of {g : Gram} {x : List Int} (hv : Valid g) (hm : x.length ≤ 12) {S : ESets} (h : EOk g x S) (k : Nat) : ∀ z ∈ S k, OkI z := fun z hz => by
  have := okz_small hv hm (h.ok k z hz)
  exact ⟨by omega, by omega, by omega⟩

/-- one set is put in order -/
theorem SSt.step {w4 wr : World} {lo n1 : Nat} {h : EHead} {S : ESets} {q : Nat} (H : SSt w4 wr lo n1 h S q) (hq : q < n1) (hap : ∀ k j, k < n1 → j < n1 → k ≠ j → ∀ b, (hdE h S k).ownBlock = some b → (hdE h S j).ownBlock ≠ some b) (hok : ∀ z ∈ S q, OkI z) (hlen : (S q).length ≤ 1000000) :
    Calls Try.prog 84 #[.slice (h q).1 (S q).length (h q).2, .func (.func 85) #[] #[]] wr fun e w' => e = .returned (.tuple #[]) ∧ SSt w4 w' lo n1 h S (q + 1) := by
  have hown := H.rest q (Nat.le_refl _) hq
  have hcap := own_cap hown
  rcases Nat.eq_zero_or_pos (S q).length with h0 | hpos
  · have hL : S q = [] := List.eq_nil_of_length_eq_zero h0
    have hcon := AnyF.slices_SortFunc_none (P := Try.prog) (ρ := Try.sortItem_ren) { Try.sortItem with } (h q).1 (h q).2 (.func (.func 85) #[] #[]) wr
    change Calls Try.prog 84 _ _ _ at hcon
    rw [h0]
    refine hcon.mono ?_
    rintro e w' ⟨rfl, rfl⟩
    refine ⟨rfl, H.away, fun k hk hk1 => ?_, fun k hk hk1 => H.rest k (by omega) hk1⟩
    by_cases e : k = q
    · subst e
      refine ⟨hcap, _, _, rfl, by rw [hL]; simp, fun j hj => absurd hj (by rw [hL]; simp)⟩
    · exact H.done k (by omega) hk1
  · unfold hdE at hown
    obtain ⟨b, cap, e8, _, _⟩ := hown.form hpos
    injection e8 with e1 _ e2
    have hown2 := hown
    rw [e1] at hown2 ⊢
    have hbq : (hdE h S q).ownBlock = some b := by unfold hdE; rw [e1]; rfl
    refine (sort_items wr lo b (h q).2 (S q) hok hlen hown2).mono ?_
    rintro e w' ⟨rfl, ha, hs⟩
    have hs4 := H.away.size
    refine ⟨rfl, H.away.trans ⟨ha.os, ha.tape, ha.output, ha.size, fun j hj hf => ha.block j (by omega) fun e => hf ⟨q, hq, by rw [e]; exact hbq⟩⟩, fun k hk hk1 => ?_, fun k hk hk1 => ?_⟩
    · by_cases e : k = q
      · subst e
        refine ⟨hcap, ?_⟩
        rw [e1]
        exact hs.weak fun j hj => by have hj : j = b := hj; rw [hj]; exact hbq
      · obtain ⟨h1, h2⟩ := H.done k (by omega) hk1
        refine ⟨h1, (h2.old.keep (fun j hj => ha.block j hj.2 fun e2 => hap k q hk1 hq e j hj.1 (by have e2 : j = b := e2; rw [e2]; exact hbq)) ha.size).weak fun j hj => hj.1⟩
    · have h2 := H.rest k (by omega) hk1
      exact own_same h2 fun j hj => ha.block j (own_lt h2 j hj) fun e2 => hap k q hk1 hq (by omega) j hj (by have e2 : j = b := e2; rw [e2]; exact hbq)

set_option maxRecDepth 100000 in
set_option maxHeartbeats 4000000 in
theorem esets_any (F : Nat → Prop) (g : Gram) (x : List Int) (A : Option Addr) (c : Nat) (B : Option Addr) (d : Nat) (w : World) (hr : IsSl Elt.rule F w (.slice A g.rules.length c) g.rules) (hx : IsSl Elt.int F w (.slice B x.length d) x) (hv : Valid g) (hcap : g.rules.length ≤ c) (hok : OkWord g x) (hm : x.length ≤ 12) :
    Calls Try.prog 32 #[gramV g (.slice A g.rules.length c), .slice B x.length d] w fun e w' => SetsEnd w w' e g x := by
  have hbA := below1 w (.cells #[.int .i64 g.terms, .int .i64 g.nons, .int .i64 g.start, .slice A g.rules.length c] 25)
  have hck := echeck_ok F g A g.rules.length c x B x.length d _ (hr.below hbA) hv hcap (hx.below hbA) hok hm
  have HCK := Lib.hid hck
  clear hck hok
  unfold gramV at HCK ⊢
  go_enter Try.func32, Try.ntmps32
  go_wp2_with fail
  refine HCK.out.mono ?_
  rintro e w2 ⟨rfl, hb2⟩
  have hgb : w2.heap[w.heap.size]? = some (.cells #[.int .i64 g.terms, .int .i64 g.nons, .int .i64 g.start, .slice A g.rules.length c] 25 (0, 0)) := (hb2.block _ (by simp)).trans (heap_alloc_new _ _)
  have hw2 : Below w.heap.size w w2 := hbA.trans (hb2.mono (by simp))
  have h0 := blk_cell hgb (i := 0) rfl
  have h1 := blk_cell hgb (i := 1) rfl
  have h2 := blk_cell hgb (i := 2) rfl
  have h3 := blk_cell hgb (i := 3) rfl
  have hr2 := hr.below hw2
  have hx2 := hx.below hw2
  clear HCK hb2 hbA hr hx
  go_wp2_with fail
  clear h0 h1 h2 h3
  obtain ⟨n1, hn1⟩ : ∃ n1, n1 = x.length + 1 := ⟨_, rfl⟩
  have hbB := below1 w2 (.cells #[.int .i64 g.terms, .int .i64 g.nons, .int .i64 g.start, .slice A g.rules.length c, .slice B x.length d, .slice none 0 0, .slice none 0 0] 146)
  have hfill := fill_any g x A c B d n1 w2.heap.size (w2.alloc (.cells #[.int .i64 g.terms, .int .i64 g.nons, .int .i64 g.start, .slice A g.rules.length c, .slice B x.length d, .slice none 0 0, .slice none 0 0] 146)) (heap_alloc_new _ _) ((hr2.old.below hbB).weak fun b hb => hb.2) ((hx2.old.below hbB).weak fun b hb => hb.2) hv hm hn1
  refine hfill.mono ?_
  rintro e w4 ⟨rfl, D, sb, sc, ib, ic, h, r, haw, H⟩
  have hsz := World.size_alloc w2 (.cells #[.int .i64 g.terms, .int .i64 g.nons, .int .i64 g.start, .slice A g.rules.length c, .slice B x.length d, .slice none 0 0, .slice none 0 0] 146)
  have hw4 : Below w.heap.size w w4 := by
    refine (hw2.trans (hbB.mono hw2.size)).trans ⟨haw.os, haw.tape, haw.output, haw.size, fun j hj => haw.block j (by have := hw2.size; omega) ?_⟩
    have := hw2.size
    show ¬ j = w2.heap.size
    omega
  clear hfill hbB haw hr2 hx2 hgb
  generalize (w2.alloc (.cells #[.int .i64 g.terms, .int .i64 g.nons, .int .i64 g.start, .slice A g.rules.length c, .slice B x.length d, .slice none 0 0, .slice none 0 0] 146)).heap.size = lo at H hsz
  have hokS : EOk g x (fillE g x) := fillTo_ok _
  have hsets : setsOf g x = (List.range n1).map fun k => (fillE g x k).mergeSort itemLe := by unfold setsOf; rw [hn1]
  have hlenS : ∀ k, (fillE g x k).length ≤ 1000000 := fun k => by have := hokS.len hv hm k; unfold maxE at this; omega
  have hokI := okI_of hv hm hokS
  generalize fillE g x = S at H hokS hsets hlenS hokI
  have HN1 := Lib.hid hn1
  have HSETS := Lib.hid hsets
  have HW4 := Lib.hid hw4
  have HW2 := Lib.hid hw2.size
  have HSZ := Lib.hid hsz
  have hn13 : n1 ≤ 13 := by omega
  have hS0 : SSt w4 w4 lo n1 h S 0 := ⟨Away.refl _ _ _, fun k hk => absurd hk (by omega), fun k _ hk => H.each k hk⟩
  have hfar : ∀ wr, Away w4.heap.size (fun b => ∃ k, k < n1 ∧ (hdE h S k).ownBlock = some b) w4 wr → wr.heap[w2.heap.size]? = w4.heap[w2.heap.size]? ∧ wr.heap[sb]? = w4.heap[sb]? := fun wr ha => by
    refine ⟨ha.block _ (blk_lt H.blk) fun ⟨k, hk, he⟩ => ?_, ha.block _ (own_lt H.sets sb rfl) fun ⟨k, hk, he⟩ => ?_⟩
    · have := own_base' (H.each k hk) _ he; omega
    · obtain ⟨cs, h1, _⟩ := own_typed (H.each k hk) _ he
      obtain ⟨cs2, h2, _⟩ := own_typed H.sets sb rfl
      rw [h1] at h2
      injection h2 with h2
      injection h2 with _ h2
      exact absurd h2 (by decide)
  have c5 := blk_cell H.blk (i := 5) rfl
  have HH := Lib.hid H
  have HFAR := Lib.hid hfar
  clear hfar H hn1 hsets hw4 hw2 hsz hv hcap
  go_wp2_with fail
  clear c5
  go_loopg [26] n1 (fun gk i wr => ∃ q, q ≤ n1 ∧ gk = n1 - q ∧ i = .int .i64 q ∧ SSt w4 wr lo n1 h S q)
  case atStart => exact ⟨0, by omega, by omega, rfl, hS0⟩
  case round =>
    clear hS0
    obtain ⟨q, hq, rfl, rfl, hS⟩ := hrel
    obtain ⟨f1, f2⟩ := HFAR.out wr hS.away
    have c5 := blk_cell (f1.trans HH.out.blk) (i := 5) rfl
    by_cases hlt : q < n1
    · have cs := (World.cell?_of_block (a := ⟨sb, q, none⟩) f2).trans (HH.out.setCell hlt)
      have hqz : (q : Int) < (n1 : Int) := by omega
      have hst := hS.step hlt HH.out.apart (hokI q) (hlenS q)
      have HST := Lib.hid hst
      clear hst hS f1 f2
      go_wp2_with fail
      refine HST.out.mono ?_
      rintro e w9 ⟨rfl, hS9⟩
      go_wp2
      go_roundg (n1 - (q + 1))
      case measure => omega
      case rel => exact ⟨q + 1, by omega, rfl, by go_num, hS9⟩
    · obtain rfl : q = n1 := by omega
      have HSS := Lib.hid hS
      have HF2 := Lib.hid f2
      clear hS f1 f2
      go_wp2
      go_ret2
      have hn := HN1.out
      have hcs := own_cap HH.out.sets
      have haw := HSS.out.away
      have hw := HW4.out
      have hwz := HW2.out
      have hlo := HSZ.out
      have hown := own_same HH.out.sets (w' := wr) fun b hb => by
        have : sb = b := by simpa [Value.ownBlock] using hb
        subst this; exact HF2.out
      have hFl : ∀ k, k < q → ∀ b, (hdE h S k).ownBlock = some b → w.heap.size ≤ b := fun k hk b hb => by
        have := own_base' (HH.out.each k hk) b hb; omega
      have hsb : w.heap.size ≤ sb := by have := own_base' HH.out.sets sb rfl; omega
      refine ⟨some ⟨sb, 0, none⟩, sc, by show Ending.returned (.tuple #[.slice (some ⟨sb, 0, none⟩) q sc, .int .i64 0]) = _; rw [hn], ⟨haw.os.trans hw.os, haw.tape.trans hw.tape, haw.output.trans hw.output, Nat.le_trans hw.size haw.size, fun j hj => (haw.block j (by have := hw.size; omega) fun ⟨k, hk, he⟩ => ?_).trans (hw.block j hj)⟩, by omega, ?_⟩
      · have := hFl k hk j he; omega
      · rw [HSETS.out]
        refine ⟨some ⟨sb, 0, none⟩, sc, by simp [hn], by simp; omega, fun k hk => ?_⟩
        have hk2 : k < q := by simpa using hk
        obtain ⟨l1, l2⟩ := HSS.out.done k hk2 hk2
        refine ⟨sb, 0, rfl, hsb, own_lt hown sb rfl, hsb, (h k).1, (h k).2, ?_, ?_, ?_⟩
        · have := (World.cell?_of_block (a := ⟨sb, k, none⟩) HF2.out).trans (HH.out.setCell hk2)
          simpa [List.length_mergeSort, Elt.sl] using this
        · simpa [List.length_mergeSort] using l1
        · simpa using l2.weak fun b hb => hFl k hk2 b hb
end Go.Proofs.Ytcndbohiiodndaa

open Go Go.RowKit
namespace Go.Proofs.Ytcndbohiiodndaa

/-! ### package earley: the ends out of the sets -/
def endPut (E : Nat → Nat → Nat) (a b v : Nat) : Nat → Nat → Nat := fun a' b' => if a' = a ∧ b' = b then v else E a' b'
def endOne (g : Gram) (k : Nat) (z : EItem) (E : Nat → Nat → Nat) : Nat → Nat → Nat :=
  match g.rules[z.1]? with
  | some r => if z.2.1 = r.r.length then endPut E r.l.toNat z.2.2 (E r.l.toNat z.2.2 ||| 2 ^ k) else E
  | none => E
def endAt (g : Gram) (k : Nat) (l : List EItem) (E : Nat → Nat → Nat) : Nat → Nat → Nat → Nat
  | 0 => E
  | m + 1 => match l[m]? with
    | some z => endOne g k z (endAt g k l E m)
    | none => endAt g k l E m
def endsTo (g : Gram) (S : ESets) : Nat → Nat → Nat → Nat
  | 0 => fun _ _ => 0
  | k + 1 => endAt g k (S k) (endsTo g S k) (S k).length

theorem endOne_bit {g : Gram} {k : Nat} {z : EItem} {E : Nat → Nat → Nat} {a b j : Nat} (h : (endOne g k z E a b).testBit j = true) :
    (E a b).testBit j = true ∨ (j = k ∧ ∃ r, g.rules[z.1]? = some r ∧ z.2.1 = r.r.length ∧ r.l.toNat = a ∧ z.2.2 = b) := by
  unfold endOne at h
  cases hr : g.rules[z.1]? with
  | none => rw [hr] at h; exact .inl h
  | some r =>
    rw [hr] at h
    simp only at h
    by_cases hd : z.2.1 = r.r.length
    · rw [if_pos hd] at h
      unfold endPut at h
      by_cases hab : a = r.l.toNat ∧ b = z.2.2
      · rw [if_pos hab, Nat.testBit_or, Bool.or_eq_true, Nat.testBit_two_pow] at h
        rcases h with h | h
        · rw [hab.1, hab.2]; exact .inl h
        · exact .inr ⟨(by simpa using h : k = j).symm, r, rfl, hd, hab.1.symm, hab.2.symm⟩
      · rw [if_neg hab] at h; exact .inl h
    · rw [if_neg hd] at h; exact .inl h
theorem endAt_bit {g : Gram} {k : Nat} {l : List EItem} {E : Nat → Nat → Nat} {a b j : Nat} : ∀ m, (endAt g k l E m a b).testBit j = true →
    (E a b).testBit j = true ∨ (j = k ∧ ∃ z ∈ l, ∃ r, g.rules[z.1]? = some r ∧ z.2.1 = r.r.length ∧ r.l.toNat = a ∧ z.2.2 = b)
  | 0, h => .inl h
  | m + 1, h => by
    unfold endAt at h
    cases hm : l[m]? with
    | none => rw [hm] at h; exact endAt_bit m h
    | some z =>
      rw [hm] at h
      rcases endOne_bit h with h | ⟨h1, h2⟩
      · exact endAt_bit m h
      · exact .inr ⟨h1, z, List.mem_of_getElem? hm, h2⟩
theorem endsTo_bit {g : Gram} {S : ESets} {a b j : Nat} : ∀ k, (endsTo g S k a b).testBit j = true →
    j < k ∧ ∃ z ∈ S j, ∃ r, g.rules[z.1]? = some r ∧ z.2.1 = r.r.length ∧ r.l.toNat = a ∧ z.2.2 = b
  | 0, h => by simp [endsTo] at h
  | k + 1, h => by
    rcases endAt_bit _ h with h | ⟨rfl, h⟩
    · obtain ⟨h1, h2⟩ := endsTo_bit k h
      exact ⟨by omega, h2⟩
    · exact ⟨by omega, h⟩
theorem lt_of_bits {v k : Nat} (h : ∀ j, v.testBit j = true → j < k) : v < 2 ^ k :=
  Nat.lt_pow_two_of_testBit v fun j hj => by
    cases hb : v.testBit j with
    | false => rfl
    | true => have := h j hb; omega
theorem endAt_lt {g : Gram} {S : ESets} {k : Nat} (m a b : Nat) : endAt g k (S k) (endsTo g S k) m a b < 2 ^ (k + 1) :=
  lt_of_bits fun j hj => by
    rcases endAt_bit _ hj with h | ⟨rfl, _⟩
    · have := (endsTo_bit k h).1; omega
    · omega

/-- the ends are sound -/
theorem ends_sound {g : Gram} {x : List Int} {S : ESets} (hv : Valid g) (ho : EOk g x S) (N : Nat) : Sound g x (matOf (endsTo g S (x.length + 1)) (x.length + 1) N) := by
  intro n i j hn hb
  rw [entry_matOf] at hb
  split at hb
  · obtain ⟨hj, z, hz, r, hr, hd, hl, hf⟩ := endsTo_bit _ hb
    obtain ⟨r', hr', _, hdv⟩ := ho.ok j z hz
    rw [hr] at hr'
    injection hr' with hr'
    subst hr'
    rw [hd, List.take_length, hf] at hdv
    have h0 := (hv.ok r (List.mem_of_getElem? hr)).l0
    have : r.l = n := by omega
    exact .non (List.mem_of_getElem? hr) this hdv (.nil _ (drv_le hdv).2)
  · simp at hb

theorem doub_sets1 : (fillE doubG [0] 1).length = 4 := by decide +kernel
theorem doub_endsM : matOf (endsTo doubG (fillE doubG [0, 0]) 3) 3 1 = doubM := by decide +kernel
end Go.Proofs.Ytcndbohiiodndaa

open Go Go.RowKit
namespace Go.Proofs.Ytcndbohiiodndaa

/-- the rows of ends, all of them made, wherever the memory has grown since -/
structure EFill (W wr : World) (L N : Nat) (E : Nat → Nat → Nat) : Prop where
  below : Below W.heap.size W wr
  of_ : wr.heap[W.heap.size]? = some (.cells ((List.range N).map (fun n => (.slice (some ⟨W.heap.size + 1 + n, 0, none⟩) L L : Value))).toArray 195 (0, 0))
  row : ∀ n, n < N → wr.heap[W.heap.size + 1 + n]? = some (.cells ((List.range L).map (fun i => Value.int .u32 (E n i : Nat))).toArray 196 (0, 0))
  size : W.heap.size + 1 + N ≤ wr.heap.size

section
variable {W wr w' : World} {L N k : Nat} {E E' : Nat → Nat → Nat}
theorem EFill.of (h : EndsSt W wr L N N E) : EFill W wr L N E := by
  refine ⟨h.below, ?_, h.row, by rw [h.size]; exact Nat.le_refl _⟩
  rw [h.of_]
  congr 3
  apply List.map_congr_left
  intro n hn
  rw [if_pos (by simpa using hn)]
theorem EFill.keep (h : EFill W wr L N E) (hb : Below wr.heap.size wr w') : EFill W w' L N E :=
  have hs := h.size
  ⟨h.below.trans (hb.mono h.below.size), blk_below hb (by omega) h.of_, fun n hn => blk_below hb (by omega) (h.row n hn), Nat.le_trans hs hb.size⟩
theorem EFill.set (h : EFill W wr L N E) {n i : Nat} (hn : n < N) (v : Nat) : EFill W (wr.setCell ⟨W.heap.size + 1 + n, i, none⟩ (.int .u32 v)) L N (endPut E n i v) := by
  have hs := h.size
  refine ⟨h.below.setCell (by show W.heap.size ≤ W.heap.size + 1 + n; omega) _, ?_, fun a ha => ?_, by rw [size_setCell]; exact hs⟩
  · rw [heap_set_ne (by omega)]; exact h.of_
  · unfold endPut
    by_cases e : a = n
    · subst e
      rw [heap_set (h.row _ ha)]
      congr 2
      apply Array.ext'
      simp only [Array.toList_setIfInBounds]
      apply List.ext_getElem?
      intro j
      rw [List.getElem?_set]
      by_cases hj : i = j
      · subst hj
        by_cases hi : i < L
        · simp [hi]
        · simp [hi]
      · simp only [hj, if_false, List.getElem?_map]
        cases hr : (List.range L)[j]? with
        | none => rfl
        | some v =>
          have hv : v = j := by
            obtain ⟨_, h2⟩ := List.getElem?_eq_some_iff.1 hr
            simp at h2; exact h2.symm
          subst hv
          simp [show ¬ v = i from fun e => hj e.symm]
    · rw [heap_set_ne (by omega), h.row a ha]
      congr 3
      apply List.map_congr_left
      intro b _
      rw [if_neg (fun hh => e hh.1)]
theorem EFill.isSl (h : EFill W wr L N E) (hN : N ≤ 10) (hL : L ≤ 13) : IsSl (Elt.sl Elt.u32) (fun b => W.heap.size ≤ b) wr (.slice (some ⟨W.heap.size, 0, none⟩) N N) (matOf E L N) := by
  have hML : (matOf E L N).length = N := by simp [matOf]
  refine ⟨_, N, by rw [hML], by omega, fun n hn => ⟨W.heap.size, 0, rfl, Nat.le_refl _, blk_lt h.of_, Nat.le_refl _, some ⟨W.heap.size + 1 + n, 0, none⟩, L, blk_cell h.of_ ?_, ?_, ?_⟩⟩
  · simp [Elt.sl, show n < N by omega, matOf]
  · simp [matOf]
  · have hrk := h.row n (by omega)
    have hrk2 : wr.heap[W.heap.size + 1 + n]? = some (.cells (((matOf E L N)[n]).map (fun n : Nat => Value.int .u32 n)).toArray 196 (0, 0)) := by rw [hrk]; simp [matOf]
    refine sl_of_blk (enc := fun n : Nat => Value.int .u32 n) _ (by omega) hrk2 rfl ?_
    simp [matOf]; omega
end

/-- what earley.Forest gives -/
def EForEnd (w w' : World) (e : Ending) (g : Gram) (x : List Int) (M : List (List Nat)) : Prop :=
  ∃ Q cn, e = .returned (.tuple #[.agg #[.slice Q (madeF g x M).1.nodes.length cn, .int .i64 (madeF g x M).1.root], .int .i64 (madeF g x M).2]) ∧ Below w.heap.size w w' ∧ IsSl Elt.node (fun b => w.heap.size ≤ b) w' (.slice Q (madeF g x M).1.nodes.length cn) (madeF g x M).1.nodes

set_option maxRecDepth 100000 in
set_option maxHeartbeats 8000000 in
theorem eforest_any (F : Nat → Prop) (g : Gram) (x : List Int) (A : Option Addr) (c : Nat) (B : Option Addr) (d : Nat) (w : World) (hr : IsSl Elt.rule F w (.slice A g.rules.length c) g.rules) (hx : IsSl Elt.int F w (.slice B x.length d) x) (hv : Valid g) (hcap : g.rules.length ≤ c) (hok : OkWord g x) (hm : x.length ≤ 12) :
    Calls Try.prog 86 #[gramV g (.slice A g.rules.length c), .slice B x.length d] w fun e w' => EForEnd w w' e g x (matOf (endsTo g (fillE g x) (x.length + 1)) (x.length + 1) g.nons.toNat) := by
  obtain ⟨N, hN⟩ : ∃ N : Nat, g.nons = N := ⟨g.nons.toNat, by have := hv.n1; omega⟩
  have hN10 : N ≤ 10 := by have := hv.n10; omega
  have hmkN : ∀ w : World, (Instr.makeSlice 186 (.int .i64 g.nons) (.int .i64 g.nons)).run Try.prog w = .ok (.slice (some ⟨w.heap.size, 0, none⟩) N N) (w.alloc (.cells (madeCells #[.slice none 0 0] N) 195)) := by
    rw [hN]
    exact run_make_row' (P := Try.prog) 186 195 (.slice none 0 0) 24 Try.underlying186 Try.infoU32s rfl .i64 .i64 N (by omega) (by omega)
  have hmkL := run_make_row' (P := Try.prog) 195 196 (.int .u32 0) 4 Try.underlying195 Try.infoU32 rfl .i64 .i64 (x.length + 1) (by omega) (by omega)
  simp only [Int.natCast_add, Int.natCast_one] at hmkL
  have hNt : g.nons.toNat = N := by omega
  rw [hNt]
  have HN := Lib.hid hN
  clear hN hNt
  unfold gramV
  have hb2 := below2 w (.cells #[.int .i64 g.terms, .int .i64 g.nons, .int .i64 g.start, .slice A g.rules.length c] 25) (.cells #[.slice none 0 0, .int .i64 0] 101)
  have hck := echeck_ok F g A g.rules.length c x B x.length d _ (hr.below hb2) hv hcap (hx.below hb2) hok hm
  unfold gramV at hck
  have HCK := Lib.hid hck
  clear hck
  go_enter Try.func86, Try.ntmps86
  go_wp2_with fail
  have hw2 := blk_new1 (w := w) rfl (.cells #[.int .i64 g.terms, .int .i64 g.nons, .int .i64 g.start, .slice A g.rules.length c] 25) (.cells #[.slice none 0 0, .int .i64 0] 101)
  have hf2 := blk_new' (w := w.alloc (.cells #[.int .i64 g.terms, .int .i64 g.nons, .int .i64 g.start, .slice A g.rules.length c] 25)) (World.size_alloc _ _) (.cells #[.slice none 0 0, .int .i64 0] 101)
  refine HCK.out.mono ?_
  rintro e w2 ⟨rfl, hb3⟩
  have hg2 := blk_below hb3 (blk_lt hw2) hw2
  have hf3 := blk_below hb3 (blk_lt hf2) hf2
  have hw3 : Below w.heap.size w w2 := hb2.trans (hb3.mono hb2.size)
  have hr2 := hr.below hw3
  have hx2 := hx.below hw3
  have h0 := blk_cell hg2 (i := 0) rfl
  have h1 := blk_cell hg2 (i := 1) rfl
  have h2 := blk_cell hg2 (i := 2) rfl
  have h3 := blk_cell hg2 (i := 3) rfl
  clear HCK hb3 hb2 hr hx hw2 hf2
  go_wp2_with fail
  clear h0 h1 h2 h3
  obtain ⟨n1, hn1⟩ : ∃ n1, n1 = x.length + 1 := ⟨_, rfl⟩
  have hbB := below1 w2 (.cells #[.int .i64 g.terms, .int .i64 g.nons, .int .i64 g.start, .slice A g.rules.length c, .slice B x.length d, .slice none 0 0, .slice none 0 0] 146)
  have hfill := fill_any g x A c B d n1 w2.heap.size (w2.alloc (.cells #[.int .i64 g.terms, .int .i64 g.nons, .int .i64 g.start, .slice A g.rules.length c, .slice B x.length d, .slice none 0 0, .slice none 0 0] 146)) (heap_alloc_new _ _) ((hr2.old.below hbB).weak fun b hb => hb.2) ((hx2.old.below hbB).weak fun b hb => hb.2) hv hm hn1
  refine hfill.mono ?_
  rintro e w4 ⟨rfl, D, sb, sc, ib, ic, h, r, haw, H⟩
  have hsz := World.size_alloc w2 (.cells #[.int .i64 g.terms, .int .i64 g.nons, .int .i64 g.start, .slice A g.rules.length c, .slice B x.length d, .slice none 0 0, .slice none 0 0] 146)
  have hk4 : ∀ b o, w2.heap[b]? = some o → w4.heap[b]? = some o := fun b o ho => by
    have hl := blk_lt ho
    refine (haw.block b (by omega) (show ¬ b = w2.heap.size by omega)).trans ?_
    rw [Below.heap_alloc _ _ _ hl]; exact ho
  have hw4 : Below w.heap.size w w4 := by
    refine (hw3.trans (hbB.mono hw3.size)).trans ⟨haw.os, haw.tape, haw.output, haw.size, fun j hj => haw.block j (by have := hw3.size; omega) ?_⟩
    have := hw3.size
    show ¬ j = w2.heap.size
    omega
  have hg4 := hk4 _ _ hg2
  have hf4 := hk4 _ _ hf3
  clear hfill hbB haw hr2 hx2 hg2 hf3 hk4 hw3
  generalize (w2.alloc (.cells #[.int .i64 g.terms, .int .i64 g.nons, .int .i64 g.start, .slice A g.rules.length c, .slice B x.length d, .slice none 0 0, .slice none 0 0] 146)).heap.size = lo at H hsz
  have hokS : EOk g x (fillE g x) := fillTo_ok _
  have hlenS : ∀ k, (fillE g x k).length ≤ 5000 := fun k => by have := hokS.len hv hm k; unfold maxE at this; omega
  obtain ⟨S, hS⟩ : ∃ S, fillE g x = S := ⟨_, rfl⟩
  rw [hS] at H hokS
  simp only [hS] at hlenS
  have HS := Lib.hid hS
  clear hS
  have kn := blk_cell hg4 (i := 1) rfl
  have HN1 := Lib.hid hn1
  clear hn1 hsz
  have HH := Lib.hid H
  clear H
  go_wp2_with fail
  clear kn hmkN
  have hE0 := EndsSt.start w4 (x.length + 1) N (fun _ _ => 0)
  go_loopg [33] N (fun gk v wr => ∃ n : Nat, n ≤ N ∧ gk = N - n ∧ v = .int .i64 n ∧ EndsSt w4 wr (x.length + 1) N n (fun _ _ => 0))
  case atStart => exact ⟨0, by omega, by omega, rfl, hE0⟩
  case round =>
    clear hE0
    obtain ⟨n, hn, rfl, rfl, hE⟩ := hrel
    by_cases hlt : n < N
    · have hnz : (n : Int) < (N : Int) := by omega
      have hsz := hE.size
      have hst1 : ∀ o, (wr.alloc o).cell? ⟨w4.heap.size, n, none⟩ = some (.slice none 0 0) := fun o => by
        rw [World.cell?_alloc_old _ _ _ (by show w4.heap.size ≠ wr.heap.size; omega)]
        exact blk_cell hE.of_ (by simp [hlt])
      have hst2 : ∀ o, (wr.alloc o).frozen? ⟨w4.heap.size, n, none⟩ = false := fun o => by
        rw [World.frozen?_of_block (w := wr) (Below.heap_alloc wr o _ (by show w4.heap.size < wr.heap.size; omega))]
        exact blk_free hE.of_
      have hE1 := hE.more hlt (fun i _ => rfl)
      have HSZ := Lib.hid hsz
      clear hsz hE
      go_wp2
      go_roundg (N - (n + 1))
      case measure => omega
      case rel => exact ⟨n + 1, by omega, rfl, by go_num, hE1⟩
    · obtain rfl : n = N := by omega
      have hF0 : EFill w4 wr (x.length + 1) n (endsTo g S 0) := EFill.of hE
      have c5 := blk_cell (HH.out.below hE.below).blk (i := 5) rfl
      clear hE hmkL hlt
      go_wp2_with fail
      clear c5
      go_loopg [49] n1 (fun gk v wr => ∃ k, k ≤ n1 ∧ gk = n1 - k ∧ v = .int .i64 k ∧ EFill w4 wr (x.length + 1) n (endsTo g S k))
      case atStart => exact ⟨0, by omega, by omega, rfl, hF0⟩
      case round =>
        clear hF0
        obtain ⟨k, hk, rfl, rfl, hE⟩ := hrel
        by_cases hlt : k < n1
        · have hkz : (k : Int) < (n1 : Int) := by omega
          have hk12 : k ≤ 12 := by have := HN1.out; omega
          have cs := (HH.out.below hE.below).setCell hlt
          obtain ⟨A8, hA8⟩ : ∃ A8, (h k).1 = A8 := ⟨_, rfl⟩
          rw [hA8] at cs
          have HA8 := Lib.hid hA8
          have hE' : EFill w4 wr (x.length + 1) n (endAt g k (S k) (endsTo g S k) 0) := hE
          clear hA8 hE
          go_wp2_with fail
          clear cs
          go_loopg [56] (S k).length (fun gk v wr => ∃ m, m ≤ (S k).length ∧ gk = (S k).length - m ∧ v = .int .i64 m ∧ EFill w4 wr (x.length + 1) n (endAt g k (S k) (endsTo g S k) m))
          case atStart => exact ⟨0, by omega, by omega, rfl, hE'⟩
          case round =>
            clear hE'
            obtain ⟨m, hm2, rfl, rfl, hE⟩ := hrel
            by_cases hlt2 : m < (S k).length
            · have hm64 : m ≤ 5000 := by have := hlenS k; omega
              have hmz : (m : Int) < ((S k).length : Int) := by omega
              have H4 := HH.out.below hE.below
              obtain ⟨b8, e8, d0, d1, d2⟩ := H4.itemAt hlt hlt2
              rw [HA8.out] at e8
              subst e8
              have hza : (S k)[m]? = some (S k)[m] := List.getElem?_eq_getElem hlt2
              have hnext : endAt g k (S k) (endsTo g S k) (m + 1) = endOne g k (S k)[m] (endAt g k (S k) (endsTo g S k) m) := by
                show (match (S k)[m]? with | some z => _ | none => _) = _
                rw [hza]
              obtain ⟨r0, hr0, hdl, hdv⟩ := hokS.ok k _ (List.getElem_mem hlt2)
              have hlt13 := fun a b => endAt_lt (g := g) (S := S) (k := k) m a b
              generalize (S k)[m] = z at d0 d1 d2 hnext hr0 hdl hdv
              generalize endAt g k (S k) (endsTo g S k) m = E at hE hnext hlt13
              obtain ⟨z1, z2, z3⟩ := z
              simp only at d0 d1 d2 hr0 hdl hdv
              have hz3 := (drv_le hdv).1
              have hkx := (drv_le hdv).2
              obtain ⟨hz1, hz2⟩ := List.getElem?_eq_some_iff.1 hr0
              obtain ⟨b, o, e5, hF5, hl5, hc11, A5, c5', hc12, hsy5⟩ := H4.rules.ruleAt z1 hz1
              subst e5
              rw [hz2] at hc11 hc12 hsy5
              have hokr := hv.ok r0 (List.mem_of_getElem? hr0)
              obtain ⟨a, ha⟩ : ∃ a : Nat, r0.l = a := ⟨r0.l.toNat, by have := hokr.l0; omega⟩
              have haN : a < n := by have := hokr.l1; have := HN.out; omega
              have hlr := hokr.len
              rw [ha] at hc11
              have hone : endOne g k (z1, z2, z3) E = if z2 = r0.r.length then endPut E a z3 (E a z3 ||| 2 ^ k) else E := by
                unfold endOne
                rw [hr0]
                simp only [ha, Int.toNat_natCast]
              rw [hone] at hnext
              have hgr := blk_below hE.below (blk_lt hg4) hg4
              have kr := blk_cell hgr (i := 3) rfl
              have hgl := blk_lt hgr
              have hz1z : (z1 : Int) < (g.rules.length : Int) := by omega
              have hEk : ∀ o o', EFill w4 ((wr.alloc o).alloc o') (x.length + 1) n E := fun o o' => hE.keep (below2 wr o o')
              have HE := Lib.hid hE
              clear hone hr0 hz2 hza hdv H4 hE hF5 hsy5 hgr
              by_cases hd : z2 = r0.r.length
              · rw [if_pos hd] at hnext
                have hq2 : ((z2 : Int) == (r0.r.length : Int)) = true := by simp [hd]
                have hh1 : ∀ o o', ((wr.alloc o).alloc o').cell? ⟨w4.heap.size, a, none⟩ = some (.slice (some ⟨w4.heap.size + 1 + a, 0, none⟩) (x.length + 1) (x.length + 1)) := fun o o' => blk_cell (hEk o o').of_ (by simp [haN])
                have hh2 : ∀ o o', ((wr.alloc o).alloc o').cell? ⟨w4.heap.size + 1 + a, z3, none⟩ = some (.int .u32 (E a z3 : Nat)) := fun o o' => blk_cell ((hEk o o').row a haN) (by simp [show z3 < x.length + 1 by omega])
                have hh3 : ∀ o o', ((wr.alloc o).alloc o').frozen? ⟨w4.heap.size + 1 + a, z3, none⟩ = false := fun o o' => blk_free ((hEk o o').row a haN)
                have hcl : E a z3 < 2 ^ 32 := Nat.lt_of_lt_of_le (hlt13 a z3) (Nat.pow_le_pow_right (by omega) (by omega))
                have hpl : 2 ^ k < 2 ^ 32 := pow_lt13 (by omega)
                have hpw := pow_mod13 (k := k) (by omega)
                have hor := u32_or_nat (E a z3) (2 ^ k) hcl hpl
                have haz : (a : Int) < (n : Int) := by omega
                have hz3z : (z3 : Int) < (x.length : Int) + 1 := by omega
                have HEK := Lib.hid hEk
                have HNX := Lib.hid hnext
                generalize E a z3 ||| 2 ^ k = vv at hor HNX
                generalize E a z3 = cc at hor hh2 hcl
                generalize 2 ^ k = pp at hor hpl hpw
                clear hEk hnext hlt13 hd hdl ha
                go_wp2_with fail
                go_region
                go_wp2_with fail
                go_roundg ((S k).length - (m + 1))
                case measure => omega
                case rel => exact ⟨m + 1, by omega, rfl, by go_num, by rw [HNX.out]; exact EFill.keep (EFill.set (EFill.keep HE.out (below2 _ _ _)) haN vv) (Below.refl _ _).drew⟩
              · rw [if_neg hd] at hnext
                have hq2 : ((z2 : Int) == (r0.r.length : Int)) = false := by simp; omega
                have HNX := Lib.hid hnext
                clear hEk hnext hlt13 ha
                go_wp2_with fail
                go_roundg ((S k).length - (m + 1))
                case measure => omega
                case rel => exact ⟨m + 1, by omega, rfl, by go_num, by rw [HNX.out]; refine EFill.keep HE.out ?_; first | exact below2 _ _ _ | exact (below2 _ _ _).drew | exact below_drewN (below2 _ _ _) _⟩
            · obtain rfl : m = (S k).length := by omega
              go_wp2_with fail
              go_roundg (n1 - (k + 1))
              case measure => omega
              case rel => exact ⟨k + 1, by omega, rfl, by go_num, hE⟩
        · obtain rfl : k = n1 := by omega
          have hbw := hE.below
          have hsl := hE.isSl hN10 (show x.length + 1 ≤ 13 by omega)
          have hlo := hw4.size
          have hg6 := blk_below hbw (blk_lt hg4) hg4
          have hf6 := blk_below hbw (blk_lt hf4) hf4
          have hw6 : Below w.heap.size w wr := hw4.trans (hbw.mono hw4.size)
          have hkx := HN1.out
          rw [hkx] at hsl
          have hso := ends_sound hv hokS n
          have hML : (matOf (endsTo g S (x.length + 1)) (x.length + 1) n).length = n := by simp [matOf]
          have hsh : MShape g x (matOf (endsTo g S (x.length + 1)) (x.length + 1) n) := by
            refine ⟨by simp [matOf, HN.out], fun r hr => ?_, fun r hr v hv => ?_⟩
            · unfold matOf at hr
              obtain ⟨i, _, rfl⟩ := List.mem_map.1 hr
              simp
            · unfold matOf at hr
              obtain ⟨i, _, rfl⟩ := List.mem_map.1 hr
              obtain ⟨j, _, rfl⟩ := List.mem_map.1 hv
              exact Nat.lt_of_lt_of_le (lt_of_bits (k := x.length + 1) fun q hq => (endsTo_bit _ hq).1) (Nat.pow_le_pow_right (by omega) (by omega))
          have hbd := build_any (C := some ⟨w4.heap.size, 0, none⟩) (q := n) (fun _ => True) hv hm wr hcap hok ((HH.out.rules.below hbw).weak fun _ _ => trivial) ((HH.out.word.below hbw).weak fun _ _ => trivial) (by rw [hML]; exact hsl.weak fun _ _ => trivial) hsh (sound_low hso) (sound_short hso (entry_neg _))
          rw [hML] at hbd
          unfold gramV at hbd
          have k0 := blk_cell hg6 (i := 0) rfl
          have k1 := blk_cell hg6 (i := 1) rfl
          have k2 := blk_cell hg6 (i := 2) rfl
          have k3 := blk_cell hg6 (i := 3) rfl
          obtain ⟨M2, hM2⟩ : ∃ M2, matOf (endsTo g S (x.length + 1)) (x.length + 1) n = M2 := ⟨_, rfl⟩
          rw [hM2] at hbd
          have HM2 := Lib.hid hM2
          clear hM2
          have HW6 := Lib.hid hw6
          clear hE hsl hML hsh hso hbw hw4 hw6 hkx hk hlt
          go_wp2_with fail
          with_reducible refine hbd.mono ?_
          rintro e7 w7 ⟨Q, cn, rfl, hb7, hsl7⟩
          have hw6 := HW6.out
          have hf7 := blk_below hb7 (blk_lt hf6) hf6
          have hw7 := hw6.trans (hb7.mono hw6.size)
          have hg0 : w7.frozen? ⟨w.heap.size + 1, 0, none⟩ = false := blk_free hf7
          have hg1 : w7.frozen? ⟨w.heap.size + 1, 1, none⟩ = false := blk_free hf7
          have hd0 := blk_cell hf7 (i := 0) rfl
          have hd1 := blk_cell hf7 (i := 1) rfl
          have HFF := Lib.hid (show madeF g x M2 = madeF g x M2 from rfl)
          have hfin : ∀ u v, ((w7.setCell ⟨w.heap.size + 1, 0, none⟩ u).setCell ⟨w.heap.size + 1, 1, none⟩ v).heap[w.heap.size + 1]? = some (.cells #[u, v] 101 (0, 0)) := fun u v => by
            rw [heap_set (heap_set hf7 _ _)]; rfl
          have hlf := blk_lt hf6
          have hkp : ∀ u v b, b ≠ w.heap.size + 1 → ((w7.setCell ⟨w.heap.size + 1, 0, none⟩ u).setCell ⟨w.heap.size + 1, 1, none⟩ v).heap[b]? = w7.heap[b]? := fun u v b hb => by rw [heap_set_ne hb, heap_set_ne hb]
          have hsl8 := fun u v => hsl7.keep (w' := (w7.setCell ⟨w.heap.size + 1, 0, none⟩ u).setCell ⟨w.heap.size + 1, 1, none⟩ v) (fun b hb => hkp u v b (by have hb : wr.heap.size ≤ b := hb; omega)) (by rw [size_setCell, size_setCell]; exact Nat.le_refl _)
          clear hbd hf6 k0 k1 k2 k3 hf7 hg6 hw6 HW6 hf4 hg4
          go_wp2_with fail
          refine bodyPost_ret (results_cell_tmp rfl rfl (run_loadVar_row _ (w.heap.size + 1) 101 101 #[.slice Q (madeF g x M2).1.nodes.length cn, .int .i64 (madeF g x M2).1.root] (0, 0) _ (hfin _ _) Try.underlying101 rfl (by kernel_rfl))) rfl ?_
          rw [HS.out, HM2.out]
          refine ⟨Q, cn, by kernel_rfl, ?_, ?_⟩
          · exact (hw7.setCell (p := ⟨w.heap.size + 1, 0, none⟩) (by show w.heap.size ≤ w.heap.size + 1; omega) _).setCell (p := ⟨w.heap.size + 1, 1, none⟩) (by show w.heap.size ≤ w.heap.size + 1; omega) _
          · exact IsSl.weak (F := fun b => wr.heap.size ≤ b) (fun b hb => by have hb : wr.heap.size ≤ b := hb; have := hw7.size; omega) (hsl8 _ _)
end Go.Proofs.Ytcndbohiiodndaa

open Go Go.RowKit
namespace Go.Proofs.Ytcndbohiiodndaa

theorem IsSl.setAt {F : Nat → Prop} {w : World} {A : Option Addr} {n c : Nat} {xs : List (List EItem)} (h : IsSl Elt.eitem.sl F w (.slice A n c) xs) (k : Nat) (hk : k < xs.length) :
    ∃ b o A' c', A = some ⟨b, o, none⟩ ∧ F b ∧ b < w.heap.size ∧ w.cell? ⟨b, o + k, none⟩ = some (.slice A' xs[k].length c') ∧ IsSl Elt.eitem F w (.slice A' xs[k].length c') xs[k] := by
  obtain ⟨A0, c0, he, hl, h⟩ := h
  injection he with h1 h2 h3
  subst h1
  obtain ⟨b, o, rfl, hb, hlt, _, A', c', h4, _, h5⟩ := h k hk
  refine ⟨b, o, A', c', rfl, hb, hlt, ?_, h5⟩
  simpa [Elt.sl] using h4

set_option maxRecDepth 100000 in
set_option maxHeartbeats 1600000 in
theorem sets_any (w : World) : Calls Try.prog 33 #[] w fun e w' => e = .returned (.bool true) ∧ Below w.heap.size w w' := by
  have hok1 : OkWord doubG [0] := by
    intro t ht
    simp at ht
    subst ht
    exact ⟨by decide, by decide⟩
  have hok2 : OkWord doubG [0, 0] := by
    intro t ht
    simp at ht
    subst ht
    exact ⟨by decide, by decide⟩
  go_enter Try.func33, Try.ntmps33
  go_wp2_with fail
  refine (doubling_any w).mono ?_
  rintro e1 w1 ⟨A, rfl, hb1, hr1⟩
  have hxA := zeros_sl (w := w1) (l := [0]) 3 rfl (by decide)
  have hbA := below1 w1 (.cells (([0] : List Int).map (Value.int .i64)).toArray 3)
  have hse := esets_any (fun _ => True) doubG [0] A 2 (some ⟨w1.heap.size, 0, none⟩) 1 _ ((hr1.below hbA).weak fun _ _ => trivial) (hxA.weak fun _ _ => trivial) doub_valid (by decide) hok1 (by decide)
  have hwA := hb1.trans (hbA.mono hb1.size)
  unfold gramV at hse ⊢
  clear hxA hr1
  go_wp2_with fail
  refine hse.mono ?_
  rintro e2 w2 ⟨Q, cq, rfl, hb2, hcq, hs2⟩
  have hw2 := hwA.trans (hb2.mono hwA.size)
  have hl1 : 1 < (setsOf doubG [0]).length := by simp [setsOf]
  have hl4 : ((setsOf doubG [0])[1]).length = 4 := by
    simp only [setsOf, List.getElem_map, List.getElem_range, List.length_mergeSort]
    exact doub_sets1
  obtain ⟨qb, qo, A', c', rfl, _, hql, hq1, hqq⟩ := hs2.setAt 1 hl1
  rw [hl4] at hq1
  clear hqq hl4 hse hs2 hwA hbA hb1 hb2 hl1
  go_wp2_with fail
  refine (doubling_any _).mono ?_
  rintro e3 w3 ⟨A3, rfl, hb3, hr3⟩
  have hq3 := (hb3.cell (p := ⟨qb, qo + 1, none⟩) hql).trans hq1
  have hql3 : qb < w3.heap.size := Nat.lt_of_lt_of_le hql hb3.size
  have hw3 := hw2.trans (hb3.mono hw2.size)
  have hxB := zeros_sl (w := w3) (l := [0, 0]) 3 rfl (by decide)
  have hbC := below1 w3 (.cells (([0, 0] : List Int).map (Value.int .i64)).toArray 3)
  have hq4 := (hbC.cell (p := ⟨qb, qo + 1, none⟩) hql3).trans hq3
  have hw4 := hw3.trans (hbC.mono hw3.size)
  have hfo := eforest_any (fun _ => True) doubG [0, 0] A3 2 (some ⟨w3.heap.size, 0, none⟩) 2 _ ((hr3.below hbC).weak fun _ _ => trivial) (hxB.weak fun _ _ => trivial) doub_valid (by decide) hok2 (by decide)
  rw [show matOf (endsTo doubG (fillE doubG [0, 0]) (([0, 0] : List Int).length + 1)) (([0, 0] : List Int).length + 1) doubG.nons.toNat = doubM from doub_endsM] at hfo
  unfold gramV at hfo ⊢
  have hql4 : qb < (w3.alloc (.cells (([0, 0] : List Int).map (Value.int .i64)).toArray 3)).heap.size := by rw [World.size_alloc]; omega
  clear hxB hbC hb3 hr3 hq3 hw3 hw2 hq1
  go_wp2_with fail
  refine hfo.mono ?_
  rintro e5 w5 ⟨P, cp, rfl, hb5, hs5⟩
  have hq5 := (hb5.cell (p := ⟨qb, qo + 1, none⟩) hql4).trans hq4
  have hql5 : qb < w5.heap.size := Nat.lt_of_lt_of_le hql4 hb5.size
  have hw5 := hw4.trans (hb5.mono hw4.size)
  clear hfo hs5 hq4 hw4
  obtain ⟨hl0, hl5⟩ := doub_made
  generalize (madeF doubG [0, 0] doubM).1.nodes.length = ln at *
  generalize (madeF doubG [0, 0] doubM).1.root = rt at *
  generalize (madeF doubG [0, 0] doubM).2 = er at *
  subst hl0
  subst hl5
  have hbD := below1 w5 (.cells #[.slice P 5 cp, .int .i64 rt] 101)
  clear hb5
  go_wp2_with fail
  go_ret
  exact ⟨rfl, hw5.trans (hbD.mono hw5.size)⟩
end Go.Proofs.Ytcndbohiiodndaa

open Go Go.RowKit
namespace Go.Proofs.Ytcndbohiiodndaa

theorem IsSl.eitemAt {F : Nat → Prop} {w : World} {A : Option Addr} {n c : Nat} {xs : List EItem} (h : IsSl Elt.eitem F w (.slice A n c) xs) (k : Nat) (hk : k < xs.length) :
    ∃ b o, A = some ⟨b, o, none⟩ ∧ F b ∧ b < w.heap.size ∧ w.cell? ⟨b, o + k * 3, none⟩ = some (.int .i64 xs[k].1) ∧ w.cell? ⟨b, o + k * 3 + 1, none⟩ = some (.int .i64 xs[k].2.1) ∧ w.cell? ⟨b, o + k * 3 + 2, none⟩ = some (.int .i64 xs[k].2.2) := by
  obtain ⟨A', c', he, hl, h⟩ := h
  injection he with h1 h2 h3
  subst h1
  obtain ⟨b, o, rfl, hb, hlt, he⟩ := h k hk
  exact ⟨b, o, rfl, hb, hlt, he.1.2, he.2.1.2, he.2.2.2⟩

set_option maxRecDepth 100000 in
set_option maxHeartbeats 1600000 in
/-- slices.Equal of two readings of the same items -/
theorem equal_items (F F2 : Nat → Prop) (xs : List EItem) (A : Option Addr) (n c : Nat) (A2 : Option Addr) (n2 c2 : Nat) (w : World) (hx : IsSl Elt.eitem F w (.slice A n c) xs) (hy : IsSl Elt.eitem F2 w (.slice A2 n2 c2) xs) :
    Calls Try.prog 55 #[.slice A n c, .slice A2 n2 c2] w fun e w' => e = .returned (.bool true) ∧ Below w.heap.size w w' := by
  obtain ⟨rfl, hn⟩ := hx.len
  obtain ⟨rfl, hn2⟩ := hy.len
  go_enter Try.func55, Try.ntmps55
  go_wp2_with fail
  go_loopg [13] xs.length (fun gk i wr => ∃ q : Nat, q ≤ xs.length ∧ gk = xs.length - q ∧ i = .int .i64 q ∧ Below w.heap.size w wr)
  case atStart => exact ⟨0, by omega, by omega, rfl, Below.refl _ _⟩
  case round =>
    obtain ⟨q, hq, rfl, rfl, hb⟩ := hrel
    by_cases hlt : q < xs.length
    · obtain ⟨b, o, rfl, hF, hbl, c0, c1, c2'⟩ := (hx.below hb).eitemAt q hlt
      obtain ⟨b2, o2, rfl, hF2, hbl2, e0, e1, e2⟩ := (hy.below hb).eitemAt q hlt
      have hqz : (q : Int) < (xs.length : Int) := by omega
      generalize xs[q] = z at c0 c1 c2' e0 e1 e2
      obtain ⟨z1, z2, z3⟩ := z
      simp only at c0 c1 c2' e0 e1 e2
      have hsame : ∀ w : World, (Op.equal 63 (.agg #[.int .i64 z1, .int .i64 z2, .int .i64 z3]) (.agg #[.int .i64 z1, .int .i64 z2, .int .i64 z3])).run Try.prog w = .ok true w := fun w => by rw [Try.eqE]; simp
      go_wp2_with fail
      go_quiet (fail)
      go_wp2_with fail
      go_roundg (xs.length - (q + 1))
      case measure => omega
      case rel => exact ⟨q + 1, by omega, rfl, by go_num, below_drewN hb _⟩
    · obtain rfl : q = xs.length := by omega
      go_wp2_with fail
      go_ret
      exact ⟨rfl, hb⟩

theorem begins_same (F F2 : Nat → Prop) (xs : List EItem) (A : Option Addr) (n c : Nat) (A2 : Option Addr) (n2 c2 : Nat) (w : World) (hx : IsSl Elt.eitem F w (.slice A n c) xs) (hy : IsSl Elt.eitem F2 w (.slice A2 n2 c2) xs) :
    Calls Try.prog 54 #[.slice A n c, .slice A2 n2 c2] w fun e w' => e = .returned (.bool true) ∧ Below w.heap.size w w' := by
  have he := equal_items F F2 xs A n c A2 n2 c2 w hx hy
  go_enter Try.func54, Try.ntmps54
  go_wp2_with fail
  refine he.mono ?_
  rintro e w' ⟨rfl, hb⟩
  go_wp2_with fail
  go_ret
  exact ⟨rfl, hb⟩

set_option maxRecDepth 100000 in
set_option maxHeartbeats 1600000 in
/-- slices.EqualFunc of two readings of the same sets -/
theorem equal_sets (F F2 : Nat → Prop) (l : List (List EItem)) (A : Option Addr) (n c : Nat) (A2 : Option Addr) (n2 c2 : Nat) (w : World) (hx : IsSl Elt.eitem.sl F w (.slice A n c) l) (hy : IsSl Elt.eitem.sl F2 w (.slice A2 n2 c2) l) :
    Calls Try.prog 53 #[.slice A n c, .slice A2 n2 c2, .func (.func 54) #[] #[]] w fun e w' => e = .returned (.bool true) ∧ Below w.heap.size w w' := by
  obtain ⟨rfl, hn⟩ := hx.len
  obtain ⟨rfl, hn2⟩ := hy.len
  go_enter Try.func53, Try.ntmps53
  go_wp2_with fail
  go_loopg [17] l.length (fun gk i wr => ∃ q : Nat, q ≤ l.length ∧ gk = l.length - q ∧ i = .int .i64 q ∧ Below w.heap.size w wr)
  case atStart => exact ⟨0, by omega, by omega, rfl, Below.refl _ _⟩
  case round =>
    obtain ⟨q, hq, rfl, rfl, hb⟩ := hrel
    by_cases hlt : q < l.length
    · obtain ⟨b, o, A', c', rfl, hF, hbl, c0, hs1⟩ := (hx.below hb).setAt q hlt
      obtain ⟨b2, o2, A2', c2', rfl, hF2, hbl2, e0, hs2⟩ := (hy.below hb).setAt q hlt
      have hqz : (q : Int) < (l.length : Int) := by omega
      have he := begins_same _ _ _ _ _ _ _ _ _ wr hs1 hs2
      have HE := Lib.hid he
      clear he hs1 hs2
      generalize l[q].length = m at c0 e0 HE
      go_wp2_with fail
      refine HE.out.mono ?_
      rintro e w' ⟨rfl, hb2⟩
      go_wp2_with fail
      go_roundg (l.length - (q + 1))
      case measure => omega
      case rel => exact ⟨q + 1, by omega, rfl, by go_num, hb.trans (hb2.mono hb.size)⟩
    · obtain rfl : q = l.length := by omega
      go_wp2_with fail
      go_ret
      exact ⟨rfl, hb⟩
end Go.Proofs.Ytcndbohiiodndaa

open Go Go.RowKit
namespace Go.Proofs.Ytcndbohiiodndaa

/-- the beginning of a slice -/
theorem run_pre_sl {P : Program} {t E : TypeId} (ht : P.underlying t = some (.slice E)) {size : Nat} (hz : ∀ w, (sizeOf E).run P w = .ok size w) {α : Type} {d : Elt α} (hd : d.sz = size) {F : Nat → Prop} {w0 : World} {A : Option Addr} {n c : Nat} {xs : List α} (h : IsSl d F w0 (.slice A n c) xs) (hc : n ≤ c) (j : Nat) (hj : j ≤ n) :
    ∃ A', (∀ w : World, (Instr.slice t (.slice A n c) none (some (.int .i64 j)) none).run P w = .ok (.slice A' j c) w) ∧ IsSl d F w0 (.slice A' j c) (xs.take j) := by
  obtain ⟨A', h1, h2⟩ := run_part_sl ht hz hd h hc 0 j (Nat.zero_le _) hj
  refine ⟨A', fun w => ?_, by simpa using h2⟩
  have h3 := h1 w
  have hjc : j ≤ c := by omega
  simp [Instr.slice, run_underlying ht, hz, Instr.sliceBounds, Instr.sliceBound, asIntOf, hjc] at h3 ⊢
  exact h3

/-- the sets of the beginning -/
theorem setsOf_begin {g : Gram} {x : List Int} {k : Nat} (hk : k ≤ x.length) : (setsOf g x).take (k + 1) = setsOf g (x.take k) := by
  unfold setsOf
  rw [← List.map_take, List.take_range, List.length_take, Nat.min_eq_left hk, Nat.min_eq_left (by omega)]
  apply List.map_congr_left
  intro j hj
  rw [fill_begin hk j (by simp at hj; omega)]

set_option maxRecDepth 100000 in
set_option maxHeartbeats 4000000 in
theorem earleyBegins_any (F F2 : Nat → Prop) (l l2 : List Int) (A : Option Addr) (n c : Nat) (A2 : Option Addr) (n2 c2 : Nat) (kk : Int) (w : World) (hl : IsSl Elt.int F w (.slice A n c) l) (hl2 : IsSl Elt.int F2 w (.slice A2 n2 c2) l2) (hnc : n ≤ c) :
    Calls Try.prog 13 #[.slice A n c, .slice A2 n2 c2, .int .i64 kk] w fun e w' => e = .returned (.bool true) ∧ Below w.heap.size w w' := by
  go_enter Try.func13, Try.ntmps13
  go_wp2_with fail
  refine (made_any F F2 l l2 A n c A2 n2 c2 8 w hl hl2 hnc (by decide)).mono ?_
  rintro e1 w1 ⟨g, A', c', x, C, cx, rfl, hM⟩
  have hv := hM.small.valid
  have hx8 := hM.most
  have hcap := hM.cap
  have hcx := hM.capx
  have hok : OkWord g x := hM.terms
  have hbA := below1 w1 (.cells #[.int .i64 g.terms, .int .i64 g.nons, .int .i64 g.start, .slice A' g.rules.length c'] 25)
  have hgb := heap_alloc_new w1 (.cells #[.int .i64 g.terms, .int .i64 g.nons, .int .i64 g.start, .slice A' g.rules.length c'] 25)
  have hrA := hM.rules.below hbA
  have hxA := hM.word.below hbA
  have hwA := hM.below.trans (hbA.mono hM.below.size)
  unfold gramV
  clear hM hl hl2 hbA
  go_wp2_with fail
  generalize w1.alloc (.cells #[.int .i64 g.terms, .int .i64 g.nons, .int .i64 g.start, .slice A' g.rules.length c'] 25) = WA at hgb hrA hxA hwA ⊢
  refine (below_int kk ((x.length : Int) + 1) _ (by omega)).mono ?_
  rintro e2 w2 ⟨rfl, rfl⟩
  have hi0 := Int.emod_nonneg kk (show (x.length : Int) + 1 ≠ 0 by omega)
  have hi1 := Int.emod_lt_of_pos kk (show 0 < (x.length : Int) + 1 by omega)
  generalize kk % ((x.length : Int) + 1) = i0 at hi0 hi1 ⊢
  obtain ⟨k, rfl⟩ := Int.eq_ofNat_of_zero_le hi0
  have hkx : k ≤ x.length := by omega
  clear hi0 hi1
  have hp1 := esets_any _ g x A' c' C cx w2 hrA hxA hv hcap hok (by omega)
  obtain ⟨B2, hsl, hxp⟩ := run_pre_sl (P := Try.prog) Try.underlying22 Try.sizeInt rfl hxA hcx k hkx
  unfold gramV at hp1
  have hgl := blk_lt hgb
  have k0 := blk_cell hgb (i := 0) rfl
  have k1 := blk_cell hgb (i := 1) rfl
  have k2 := blk_cell hgb (i := 2) rfl
  have k3 := blk_cell hgb (i := 3) rfl
  go_wp2_with fail
  refine hp1.mono ?_
  rintro e4 w4 ⟨Q, cq, rfl, hb4, hcq, hsa⟩
  have hg4 := blk_below hb4 hgl hgb
  have hr4 := hrA.below hb4
  have hxp4 := hxp.below hb4
  have hw4 := hwA.trans (hb4.mono hwA.size)
  have hlk : (x.take k).length = k := by rw [List.length_take]; omega
  have hokp : OkWord g (x.take k) := fun t ht => hok t (List.mem_of_mem_take ht)
  have hp2 : ∀ W : World, Below w4.heap.size w4 W → Calls Try.prog 32 #[gramV g (.slice A' g.rules.length c'), .slice B2 k cx] W fun e w' => ∃ Q2 cq2, e = .returned (.tuple #[.slice Q2 (k + 1) cq2, .int .i64 0]) ∧ Below W.heap.size W w' ∧ k + 1 ≤ cq2 ∧ IsSl Elt.eitem.sl (fun b => W.heap.size ≤ b) w' (.slice Q2 (k + 1) cq2) (setsOf g (x.take k)) := fun W hW => by
    have := esets_any _ g (x.take k) A' c' B2 cx W (hr4.below hW) (by rw [hlk]; exact hxp4.below hW) hv hcap hokp (by rw [hlk]; omega)
    unfold SetsEnd at this
    simp only [hlk] at this
    exact this
  unfold gramV at hp2
  have HP2 := Lib.hid hp2
  have hfin := setsOf_begin (g := g) hkx
  have HFIN := Lib.hid hfin
  have HW4 := Lib.hid hw4
  have HSA := Lib.hid hsa
  clear hp1 hp2 hxp hxp4 hrA hxA hr4 hokp hok hlk hfin hw4 hsa k0 k1 k2 k3 hwA hb4 hgb
  have k0 := blk_cell hg4 (i := 0) rfl
  have k1 := blk_cell hg4 (i := 1) rfl
  have k2 := blk_cell hg4 (i := 2) rfl
  have k3 := blk_cell hg4 (i := 3) rfl
  go_wp2_with fail
  go_cut [10, 11] (fun s10 s11 wx => ∃ Q2 cq2, s10 = .slice Q2 (k + 1) cq2 ∧ s11 = .int .i64 0 ∧ Below w4.heap.size w4 wx ∧ IsSl Elt.eitem.sl (fun b => w4.heap.size ≤ b) wx (.slice Q2 (k + 1) cq2) (setsOf g (x.take k)))
  case first =>
    go_region_law (first | (refine step_call rfl 32 Try.f32 Try.func32 (by kernel_rfl) (by kernel_rfl) [_, _] _ rfl [.agg #[.int .i64 g.terms, .int .i64 g.nons, .int .i64 g.start, .slice A' g.rules.length c'], .slice B2 k cx] rfl _ (HP2.out _ (Below.refl _ _).drew) ?_; rintro e5 w5 ⟨Q2, cq2, rfl, hb5, hcq2, hs5⟩; refine ⟨_, rfl, ?_⟩))
    all_goals
      go_wp2_with fail
      go_meet
      exact ⟨Q2, cq2, rfl, rfl, (Below.refl _ w4).drew.trans hb5, hs5⟩
  case rest =>
  obtain ⟨Q2, cq2, rfl, rfl, hb5, hs5⟩ := hcut
  have hset := sets_any wc
  clear hsl k0 k1 k2 k3 hg4 HP2
  go_wp2_with fail
  refine hset.mono ?_
  rintro e6 w6 ⟨rfl, hb6⟩
  obtain ⟨Q3, hsq, hsq2⟩ := run_pre_sl (P := Try.prog) (size := 1) Try.underlying53 Try.sizeOf56 rfl ((HSA.out.below hb5).below hb6) hcq (k + 1) (by omega)
  rw [HFIN.out] at hsq2
  simp only [Int.natCast_add, Int.natCast_one] at hsq
  have heq := equal_sets _ _ _ _ _ _ _ _ _ w6 hsq2 (hs5.below hb6)
  have hw6 := (HW4.out.trans (hb5.mono HW4.out.size)).trans (hb6.mono (Nat.le_trans HW4.out.size hb5.size))
  have hk8 : k ≤ 8 := by omega
  clear hset hs5 hb5 hb6 hsq2
  go_wp2_with fail
  refine heq.mono ?_
  rintro e7 w7 ⟨rfl, hb7⟩
  go_wp2_with fail
  go_ret
  exact ⟨rfl, hw6.trans (hb7.mono hw6.size)⟩
end Go.Proofs.Ytcndbohiiodndaa

open Go Go.RowKit
namespace Go.Proofs.Ytcndbohiiodndaa

/-! ### the grammar with one rule more, whose nonterminal is new -/
def extG (g : Gram) (u : List Sym) : Gram := ⟨g.terms, g.nons + 1, g.nons, g.rules ++ [⟨g.nons, u⟩]⟩

theorem ext_drv {g : Gram} {x : List Int} {u : List Sym} : ∀ {l : List Sym} {i j : Nat}, Drv g x l i j → Drv (extG g u) x l i j := fun h => by
  induction h with
  | nil i h => exact .nil i h
  | term h _ ih => exact .term h ih
  | non hr hn _ _ ih1 ih2 => exact .non (by unfold extG; exact List.mem_append_left _ hr) hn ih1 ih2

theorem ext_valid {g : Gram} {u : List Sym} (hs : Small g) (hl : u.length ≤ 4) (hu : ∀ s ∈ u, OkSym g s) : Valid (extG g u) := by
  have hv := hs.valid
  have h4 := hs.n4
  have h8 := hs.r8
  have hn1 := hv.n1
  have hsym : ∀ s, OkSym g s → OkSym (extG g u) s := fun s h => by
    obtain ⟨h1, h2, h3⟩ := h
    exact ⟨h1, h2, fun e => by have := h3 e; show s.n < g.nons + 1; omega⟩
  refine ⟨hv.t1, hv.t8, ?_, ?_, ?_, ?_, ?_, fun r hr => ?_, ?_⟩
  · show 1 ≤ g.nons + 1; omega
  · show g.nons + 1 ≤ 10; omega
  · show 0 ≤ g.nons; omega
  · show g.nons < g.nons + 1; omega
  · unfold extG; simp; omega
  · unfold extG at hr
    rcases List.mem_append.1 hr with hr | hr
    · have h := hv.ok r hr
      refine ⟨h.l0, ?_, h.len, fun s hs2 => hsym s (h.syms s hs2)⟩
      have := h.l1
      show r.l < g.nons + 1
      omega
    · simp at hr
      subst hr
      exact ⟨by show 0 ≤ g.nons; omega, by show g.nons < g.nons + 1; omega, hl, fun s hs2 => hsym s (hu s hs2)⟩
  · unfold extG
    rw [List.nodup_append]
    refine ⟨hv.nodup, by simp, fun a ha b hb e => ?_⟩
    simp at hb
    subst hb
    have := (hv.ok a ha).l1
    rw [e] at this
    simp at this

/-- what an item says: the extended grammar has the part of the word -/
theorem item_drv {g : Gram} {x : List Int} {k : Nat} {z : EItem} {r : Rule} (hr : g.rules[z.1]? = some r) (h : OkZ g x k z) : z.2.2 ≤ k ∧ k ≤ x.length ∧ Drv (extG g (r.r.take z.2.1)) ((x.drop z.2.2).take (k - z.2.2)) [⟨false, g.nons⟩] 0 (k - z.2.2) := by
  obtain ⟨r', hr', _, hd⟩ := h
  rw [hr] at hr'
  injection hr' with hr'
  subst hr'
  have hle := drv_le hd
  refine ⟨hle.1, hle.2, ?_⟩
  have h2 : Drv g ((x.drop z.2.2).take (k - z.2.2)) (r.r.take z.2.1) 0 (k - z.2.2) := (drv_part (by omega)).2 (by rw [show z.2.2 + (k - z.2.2) = k by omega]; exact hd)
  refine .non (r := ⟨g.nons, r.r.take z.2.1⟩) (by unfold extG; simp) rfl (ext_drv h2) (.nil _ ?_)
  simp; omega

/-- no item at the beginning: no rule of the start -/
theorem empty_start {g : Gram} {x : List Int} (h : fillE g x 0 = []) : ∀ r ∈ g.rules, r.l ≠ g.start := fun r hr e => by
  obtain ⟨m, hm, hm2⟩ := List.getElem_of_mem hr
  have := fill_start (g := g) (x := x) (m := m) (r := r) (by rw [List.getElem?_eq_getElem hm, hm2]) e (x.length + 1)
  rw [show fillTo g x (x.length + 1) = fillE g x from rfl, h] at this
  cases this
end Go.Proofs.Ytcndbohiiodndaa

open Go Go.RowKit
namespace Go.Proofs.Ytcndbohiiodndaa

set_option maxRecDepth 100000 in
theorem nostart_one (st ln : Int) (v : Value) (gb : Nat) (w : World) (hg : w.cell? ⟨gb, 2, none⟩ = some (.int .i64 st)) (hn : ln ≠ st) (hv : ∃ A n c, v = .slice A n c) :
    Calls Try.prog 35 #[.agg #[.int .i64 ln, v], .pointer (some ⟨gb, 0, none⟩)] w fun e w' => e = .returned (.bool false) ∧ Below w.heap.size w w' := by
  obtain ⟨A, n, c, rfl⟩ := hv
  have hne : (ln == st) = false := by simp [hn]
  have hgl := cell_lt hg
  clear hn
  go_enter Try.func35, Try.ntmps35
  go_wp2_with fail
  go_ret
  exact ⟨rfl, below1 _ _⟩

set_option maxRecDepth 100000 in
set_option maxHeartbeats 1600000 in
theorem nostart_index (F : Nat → Prop) (g : Gram) (A : Option Addr) (c gb : Nat) (w : World) (hr : IsSl Elt.rule F w (.slice A g.rules.length c) g.rules) (h32 : g.rules.length ≤ 32) (hg : w.cell? ⟨gb, 2, none⟩ = some (.int .i64 g.start)) (hn : ∀ r ∈ g.rules, r.l ≠ g.start) :
    Calls Try.prog 87 #[.slice A g.rules.length c, .func (.func 35) #[] #[.pointer (some ⟨gb, 0, none⟩)]] w fun e w' => e = .returned (.int .i64 (-1)) ∧ Below w.heap.size w w' := by
  have hgl := cell_lt hg
  go_enter Try.func87, Try.ntmps87
  go_wp2_with fail
  go_loopg [8] g.rules.length (fun gk i wr => ∃ q : Nat, q ≤ g.rules.length ∧ gk = g.rules.length - q ∧ i = .int .i64 q ∧ Below w.heap.size w wr)
  case atStart => exact ⟨0, by omega, by omega, rfl, Below.refl _ _⟩
  case round =>
    obtain ⟨q, hq, rfl, rfl, hb⟩ := hrel
    by_cases hlt : q < g.rules.length
    · obtain ⟨b, o, rfl, hF, hl, hc1, A', c', hc2, -⟩ := (hr.below hb).ruleAt q hlt
      have hqz : (q : Int) < (g.rules.length : Int) := by omega
      have hne := hn _ (List.getElem_mem hlt)
      have hone := nostart_one g.start g.rules[q].l (.slice A' g.rules[q].r.length c') gb wr ((hb.cell (p := ⟨gb, 2, none⟩) hgl).trans hg) hne ⟨_, _, _, rfl⟩
      have HONE := Lib.hid hone
      clear hone hne
      generalize g.rules[q].l = ll at hc1 HONE
      generalize g.rules[q].r.length = rr at hc2 HONE
      go_wp2_with fail
      refine HONE.out.mono ?_
      rintro e w' ⟨rfl, hb2⟩
      go_wp2_with fail
      go_roundg (g.rules.length - (q + 1))
      case measure => omega
      case rel => exact ⟨q + 1, by omega, rfl, by go_num, hb.trans (hb2.mono hb.size)⟩
    · obtain rfl : q = g.rules.length := by omega
      go_wp2_with fail
      go_ret
      exact ⟨rfl, hb⟩

set_option maxRecDepth 100000 in
set_option maxHeartbeats 1600000 in
/-- no rule of the start is found where none is -/
theorem nostart_any (F : Nat → Prop) (g : Gram) (A : Option Addr) (c gb : Nat) (w : World) (hr : IsSl Elt.rule F w (.slice A g.rules.length c) g.rules) (h32 : g.rules.length ≤ 32) (hg : w.cell? ⟨gb, 2, none⟩ = some (.int .i64 g.start)) (hn : ∀ r ∈ g.rules, r.l ≠ g.start) :
    Calls Try.prog 34 #[.slice A g.rules.length c, .func (.func 35) #[] #[.pointer (some ⟨gb, 0, none⟩)]] w fun e w' => e = .returned (.bool false) ∧ Below w.heap.size w w' := by
  have hi := nostart_index F g A c gb w hr h32 hg hn
  go_enter Try.func34, Try.ntmps34
  go_wp2_with fail
  refine hi.mono ?_
  rintro e w' ⟨rfl, hb⟩
  go_wp2_with fail
  go_ret
  exact ⟨rfl, hb⟩
end Go.Proofs.Ytcndbohiiodndaa

open Go Go.RowKit
namespace Go.Proofs.Ytcndbohiiodndaa

/-- rules that the law has made stay as they are where the grammar's own block is written -/
theorem OwnRules.poke {w : World} {base b i : Nat} {v u : Value} {l : List Rule} {xs : List Value} {cs : Array Value} {fr : Nat × Nat} (h : OwnRules w base v l xs) (hb : w.heap[b]? = some (.cells cs 25 fr)) : OwnRules (w.setCell ⟨b, i, none⟩ u) base v l xs := by
  have hne : ∀ {e : TypeId} {size n : Nat} {v : Value} {xs : List Value}, w.ownsRow base e size v n xs → e ≠ 25 → (w.setCell ⟨b, i, none⟩ u).ownsRow base e size v n xs := fun h1 hk => own_same h1 fun k hk2 => heap_set_ne (fun e2 => by
    obtain ⟨cs2, h3, _⟩ := own_typed h1 k hk2
    rw [e2, hb] at h3
    injection h3 with h3
    injection h3 with _ h3
    exact hk h3.symm) _ _
  refine ⟨hne h.own (by decide), fun k hk => ?_⟩
  obtain ⟨h1, A, c, h2, h3⟩ := h.at_ k hk
  exact ⟨h1, A, c, h2, hne h3 (by decide)⟩

theorem own_far {w : World} {base size n b : Nat} {e : TypeId} {v : Value} {xs : List Value} {cs : Array Value} {T : TypeId} {fr : Nat × Nat} (h : w.ownsRow base e size v n xs) (hb : w.heap[b]? = some (.cells cs T fr)) (hT : T ≠ e) : some b ≠ v.ownBlock := fun e2 => by
  obtain ⟨cs2, h4, _⟩ := own_typed h b e2.symm
  rw [hb] at h4
  injection h4 with h4
  injection h4 with _ h4
  exact hT h4

theorem ext_step {W w8 w9 : World} {gb base lo : Nat} {Av Ai Ao : Option Addr} {cv ci co : Nat} {xs : List Value} {r : Rule} {l : List Rule} {t n s : Value} (hb8 : Below W.heap.size W w8) (hO : OwnRules W base (.slice Av l.length cv) l xs)
    (ho8 : w8.ownsRow W.heap.size 67 2 (.slice Ai r.r.length ci) r.r.length (symCells r.r)) (hg9 : (w8.alloc (.cells #[.int .i64 r.l, .slice Ai r.r.length ci] 60)).grownBy w9 (Value.slice Av l.length cv).ownBlock)
    (hown9 : w9.ownsRow base 60 2 (.slice Ao (l.length + 1) co) (l.length + 1) (xs ++ [.int .i64 r.l, .slice Ai r.r.length ci])) (hG : W.heap[gb]? = some (.cells #[t, n, s, .slice Av l.length cv] 25 (0, 0))) (h1 : lo ≤ gb) (h2 : lo ≤ base) (h3 : base ≤ W.heap.size) :
    Below lo W (w9.setCell ⟨gb, 3, none⟩ (.slice Ao (l.length + 1) co)) ∧ (w9.setCell ⟨gb, 3, none⟩ (.slice Ao (l.length + 1) co)).heap[gb]? = some (.cells #[t, n, s, .slice Ao (l.length + 1) co] 25 (0, 0)) ∧
      OwnRules (w9.setCell ⟨gb, 3, none⟩ (.slice Ao (l.length + 1) co)) base (.slice Ao (l.length + 1) co) (l ++ [r]) (xs ++ [.int .i64 r.l, .slice Ai r.r.length ci]) := by
  have hgl := blk_lt hG
  have hs8 := hb8.size
  have hrow : ∀ k, (Value.slice Av l.length cv).ownBlock = some k → base ≤ k := fun k hk => own_base' hO.own _ hk
  have hgn : (Value.slice Av l.length cv).ownBlock ≠ some gb := fun e => by
    obtain ⟨cs2, h4, _⟩ := own_typed hO.own gb e
    rw [hG] at h4
    injection h4 with h4
    injection h4 with _ h4
    exact absurd h4 (by decide)
  have hk9 : w9.heap[gb]? = _ := (hg9.block gb (by rw [World.size_alloc]; omega) (fun e => hgn e.symm)).trans ((Below.heap_alloc _ _ _ (by omega)).trans ((hb8.block gb hgl).trans hG))
  have hb9 : Below lo W w9 := ((hb8.mono (by omega)).alloc (by omega) _).grown hg9 (by rw [World.size_alloc]; omega) (fun k hk => by have := hrow k hk; omega)
  refine ⟨hb9.setCell (by show lo ≤ gb; omega) _, ?_, ?_⟩
  · rw [heap_set hk9]; rfl
  · exact OwnRules.poke (OwnRules.snoc ((hO.below hb8).alloc _) ((ho8.mono_base h3).alloc _) hg9 hown9) hk9
end Go.Proofs.Ytcndbohiiodndaa

open Go Go.RowKit
namespace Go.Proofs.Ytcndbohiiodndaa

section
variable {P : Program} {ops : Array Oper} {Q : Exit → Act → World → Prop} {md : Region.Mode} {S : World → Prop} {dep : Nat}

/-- each waits for the one before it -/
def chainD (md : Region.Mode) (ops : Array Oper) : Nat → List Nat → Bool
  | _, [] => true
  | i, m :: ms => waitsFor md ops m i && chainD md ops m ms
theorem chain_not {l : Array Bool} : ∀ (ms : List Nat) (i : Nat), chainD md ops i ms = true → l.getD i true = false → (∀ m ∈ ms, l.getD m true = false) → ∀ m ∈ ms, m ∉ Region.ready md ops l
  | [], _, _, _, _ => by simp
  | m :: ms, i, hc, hi, hp => by
    unfold chainD at hc
    rw [Bool.and_eq_true] at hc
    intro k hk
    rcases List.mem_cons.1 hk with rfl | hk
    · exact waitsD hc.1 hi
    · exact chain_not ms m hc.2 (hp m (List.mem_cons_self ..)) (fun q hq => hp q (List.mem_cons_of_mem _ hq)) k hk

theorem wpAnyD_firstB {i : Nat} {ms : List Nat} {oi : Oper} {v : Value} (hi : ops[i]? = some oi) (hsel : ∀ (j : Nat) (o : Oper) cs b, ops[j]? = some o → o.op ≠ .select cs b)
    (hQ : ∀ c a w, Q (.panic c) (a.put oi.dst v) w → Q (.panic c) a w) (hc : chainD md ops i ms = true) (hd : dep ∈ ms) (hid : i ≠ dep) :
    ∀ (n : Nat) (l : Array Bool) (a : Act) (w : World),
      (∀ j oj, ops[j]? = some oj → j ≠ i → l.getD j true = false → (∀ e ∈ oj.after, Region.binds md e = true → e.on ≠ i) → oi.apart ops oj = true) →
      i ∈ Region.ready md ops l → (∀ m ∈ ms, l.getD m true = false) → YieldsIf P ops S oi v a → S w →
      wpAnyD P md ops Q S dep n (l.setIfInBounds i true) (a.put oi.dst v) w → wpAnyD P md ops Q S dep (n + 1) l a w := by
  intro n
  induction n with
  | zero =>
    intro l a w _ hr _ hy hS H
    refine ⟨fun h => (by rw [h] at hr; cases hr), fun j hj => ?_⟩
    by_cases hji : j = i
    · subst hji; exact hy.wpOp hi hS ⟨fun _ => hS, H⟩
    · have := ready_mono hj hji
      rw [H.1] at this
      cases this
  | succ n ih =>
    intro l a w hfree hr hms hy hS H
    refine ⟨fun h => (by rw [h] at hr; cases hr), fun j hj => ?_⟩
    by_cases hji : j = i
    · subst hji; exact hy.wpOp hi hS ⟨fun _ => hS, H⟩
    · have hil := (mem_ready.1 hr).1
      have hjm : ∀ m ∈ ms, j ≠ m := fun m hm e => chain_not ms i hc hil hms m hm (e ▸ hj)
      have h1 := H.2 j (ready_mono hj hji)
      obtain ⟨hjun, oj, hoj, hall⟩ := mem_ready.1 hj
      have hnot : ∀ e ∈ oj.after, Region.binds md e = true → e.on ≠ i := fun e he hb heq => by
        have h2 := hall e he hb
        rw [heq] at h2
        rcases Nat.lt_or_ge i l.size with h' | h'
        · simp [h'] at hil h2; rw [hil] at h2; cases h2
        · simp [Array.getElem?_eq_none h'] at h2
      have h2 := wpOp_putIf hoj (hfree j oj hoj hji hjun hnot) (fun cs b => hsel i oi cs b hi) (fun cs b => hsel j oj cs b hoj) hQ hy h1
      refine wpOp_mono (fun a' w' h3 => ?_) h2
      have hS' : S w' := h3.2.1 (by rw [getD_set_ne true (hjm _ hd), getD_set_ne true hid]; exact hms _ hd)
      refine ⟨fun _ => hS', ih (l.setIfInBounds j true) a' w' (fun k ok hk hki hun hno => hfree k ok hk hki ?_ hno) (ready_mono hr (Ne.symm hji)) (fun m hm => by rw [getD_set_ne true (hjm m hm)]; exact hms m hm) h3.1 hS' ?_⟩
      · by_cases hjk : j = k
        · subst hjk; exact hjun
        · rw [getD_set_ne true hjk] at hun; exact hun
      · rw [Array.setIfInBounds_comm _ _ hji]
        exact h3.2.2

/-- number i is taken first: a load; each of ms waits for the one before it, the first for i, and dep is one of them -/
theorem wpAnyD_load {i : Nat} (ms : List Nat) {oi : Oper} {v : Value} {n : Nat} {l : Array Bool} {a : Act} {w : World} (hi : ops[i]? = some oi)
    (hs : Region.noSelect ops = true) (hf : Region.free md ops l i = true) (hr : (Region.ready md ops l).contains i = true) (hc : chainD md ops i ms = true) (hd : ms.contains dep = true) (hid : (i == dep) = false)
    (hml : (ms.all fun m => !l.getD m true) = true) (hQ : ∀ c a w, Q (.panic c) (a.put oi.dst v) w → Q (.panic c) a w) (hw : Region.wanted oi (yielded ops a.tmps) = true) (hy : ∀ w, S w → (execOp a.eval oi).run P w = .ok (.value v) w) (hS : S w)
    (h : wpAnyD P md ops Q S dep n (l.setIfInBounds i true) (a.put oi.dst v) w) : wpAnyD P md ops Q S dep (n + 1) l a w :=
  wpAnyD_firstB hi (Region.noSelect_spec hs) hQ hc (by simpa using hd) (by simpa using hid) n l a w (Region.free_spec hi hf) (by simpa using hr) (fun m hm => by have := List.all_eq_true.1 hml m hm; simpa using this) (.inl ⟨hw, hy⟩) hS h

/-- number i is taken first: it yields its value in whatever world; each of ms waits for the one before it, the first for i, and dep is one of them -/
theorem wpAnyD_pure {i : Nat} (ms : List Nat) {oi : Oper} {v : Value} {n : Nat} {l : Array Bool} {a : Act} {w : World} (hi : ops[i]? = some oi)
    (hs : Region.noSelect ops = true) (hf : Region.free md ops l i = true) (hr : (Region.ready md ops l).contains i = true) (hc : chainD md ops i ms = true) (hd : ms.contains dep = true) (hid : (i == dep) = false)
    (hml : (ms.all fun m => !l.getD m true) = true) (hQ : ∀ c a w, Q (.panic c) (a.put oi.dst v) w → Q (.panic c) a w) (hw : Region.wanted oi (yielded ops a.tmps) = true) (hy : ∀ w, (execOp a.eval oi).run P w = .ok (.value v) w) (hS : S w)
    (h : wpAnyD P md ops Q S dep n (l.setIfInBounds i true) (a.put oi.dst v) w) : wpAnyD P md ops Q S dep (n + 1) l a w :=
  wpAnyD_firstB hi (Region.noSelect_spec hs) hQ hc (by simpa using hd) (by simpa using hid) n l a w (Region.free_spec hi hf) (by simpa using hr) (fun m hm => by have := List.all_eq_true.1 hml m hm; simpa using this) (.inl ⟨hw, fun w _ => hy w⟩) hS h
end
end Go.Proofs.Ytcndbohiiodndaa

open Go Go.RowKit
namespace Go.Proofs.Ytcndbohiiodndaa

theorem setsOf_get {g : Gram} {x : List Int} {k : Nat} (hk : k ≤ x.length) (h : k < (setsOf g x).length) : (setsOf g x)[k] = (fillE g x k).mergeSort itemLe := by
  refine (List.getElem_eq_iff _).2 ?_
  unfold setsOf
  rw [List.getElem?_map, List.getElem?_range (by omega)]
  rfl

theorem setsOf_len {g : Gram} {x : List Int} : (setsOf g x).length = x.length + 1 := by unfold setsOf; simp

/-- no item at the beginning: no rule of the start -/
theorem set_empty {g : Gram} {x : List Int} {l : List EItem} (hl : l = (fillE g x 0).mergeSort itemLe) (h : l.length = 0) : ∀ r ∈ g.rules, r.l ≠ g.start := by
  rw [hl, List.length_mergeSort] at h
  exact empty_start (List.eq_nil_of_length_eq_zero h)

/-- what the law wants of an item -/
structure ItemOk (g : Gram) (x : List Int) (k : Nat) (z : EItem) : Prop where
  rule : z.1 < g.rules.length
  drv : ∀ r, g.rules[z.1]? = some r → z.2.1 ≤ r.r.length ∧ z.2.2 ≤ k ∧ Drv (extG g (r.r.take z.2.1)) ((x.drop z.2.2).take (k - z.2.2)) [⟨false, g.nons⟩] 0 (k - z.2.2)

theorem item_ok {g : Gram} {x : List Int} {k : Nat} {l : List EItem} (hl : l = (fillE g x k).mergeSort itemLe) {q : Nat} (hq : q < l.length) : ItemOk g x k l[q] := by
  have hm : ∀ z ∈ l, z ∈ fillE g x k := fun z hz => by rw [hl] at hz; exact List.mem_mergeSort.1 hz
  have hz : OkZ g x k l[q] := (fillTo_ok _).ok k _ (hm _ (List.getElem_mem hq))
  generalize l[q] = z at hz
  obtain ⟨r', hr', h1, h2⟩ := hz
  refine ⟨(List.getElem?_eq_some_iff.1 hr').1, fun r hr => ?_⟩
  rw [hr] at hr'
  injection hr' with hr'
  subst hr'
  have := item_drv hr ⟨_, hr, h1, h2⟩
  exact ⟨h1, this.1, this.2.2⟩

set_option maxRecDepth 100000 in
set_option maxHeartbeats 8000000 in
theorem earleyItems_any (F F2 : Nat → Prop) (l l2 : List Int) (A : Option Addr) (n c : Nat) (A2 : Option Addr) (n2 c2 : Nat) (kk nn : Int) (w : World) (hl : IsSl Elt.int F w (.slice A n c) l) (hl2 : IsSl Elt.int F2 w (.slice A2 n2 c2) l2) (hnc : n ≤ c) :
    Calls Try.prog 5 #[.slice A n c, .slice A2 n2 c2, .int .i64 kk, .int .i64 nn] w fun e w' => e = .returned (.bool true) ∧ Below w.heap.size w w' := by
  go_enter Try.func5, Try.ntmps5
  go_wp2_with fail
  refine (made_any F F2 l l2 A n c A2 n2 c2 6 w hl hl2 hnc (by decide)).mono ?_
  rintro e1 w1 ⟨g, A', c', x, C, cx, rfl, hM⟩
  have hv := hM.small.valid
  have hx6 := hM.most
  have hcap := hM.cap
  have hcx := hM.capx
  have hok : OkWord g x := hM.terms
  have HSMALL := Lib.hid hM.small
  have hbA := below1 w1 (.cells #[.int .i64 g.terms, .int .i64 g.nons, .int .i64 g.start, .slice A' g.rules.length c'] 25)
  have hgb := heap_alloc_new w1 (.cells #[.int .i64 g.terms, .int .i64 g.nons, .int .i64 g.start, .slice A' g.rules.length c'] 25)
  have hrA := hM.rules.below hbA
  have hxA := hM.word.below hbA
  have hwA := hM.below.trans (hbA.mono hM.below.size)
  unfold gramV
  clear hM hl hl2 hbA
  go_wp2_with fail
  generalize w1.alloc (.cells #[.int .i64 g.terms, .int .i64 g.nons, .int .i64 g.start, .slice A' g.rules.length c'] 25) = WA at hgb hrA hxA hwA ⊢
  have hp1 := esets_any _ g x A' c' C cx WA hrA hxA hv hcap hok (by omega)
  unfold gramV at hp1
  have hgl := blk_lt hgb
  have k0 := blk_cell hgb (i := 0) rfl
  have k1 := blk_cell hgb (i := 1) rfl
  have k2 := blk_cell hgb (i := 2) rfl
  have k3 := blk_cell hgb (i := 3) rfl
  go_wp2_with fail
  refine hp1.mono ?_
  rintro e4 w4 ⟨Q, cq, rfl, hb4, hcq, hsa⟩
  have hset := sets_any w4
  have hg4 := blk_below hb4 hgl hgb
  have hr4 := hrA.below hb4
  have hx4 := hxA.below hb4
  have hw4 := hwA.trans (hb4.mono hwA.size)
  clear hp1 hrA hxA hwA hb4 hgb k0 k1 k2 k3
  go_wp2_with fail
  refine hset.mono ?_
  rintro e6 w6 ⟨rfl, hb6⟩
  have hg6 := blk_below hb6 (blk_lt hg4) hg4
  have hr6 := hr4.below hb6
  have hx6' := hx4.below hb6
  have hs6 := hsa.below hb6
  have hw6 := hw4.trans (hb6.mono hw4.size)
  clear hset hr4 hx4 hsa hw4 hb6 hg4 hgl
  go_wp2_with fail
  refine (below_int kk ((x.length : Int) + 1) _ (by omega)).mono ?_
  rintro e2 w2 ⟨rfl, rfl⟩
  have hi0 := Int.emod_nonneg kk (show (x.length : Int) + 1 ≠ 0 by omega)
  have hi1 := Int.emod_lt_of_pos kk (show 0 < (x.length : Int) + 1 by omega)
  generalize kk % ((x.length : Int) + 1) = i0 at hi0 hi1 ⊢
  obtain ⟨k, rfl⟩ := Int.eq_ofNat_of_zero_le hi0
  have hkx : k ≤ x.length := by omega
  have hkz : (k : Int) < (x.length : Int) + 1 := by omega
  clear hi0 hi1
  have hkl : k < (setsOf g x).length := by rw [setsOf_len]; omega
  have hsk := setsOf_get hkx hkl
  obtain ⟨b, o, rfl, hFb, hbl, A3, c3, hc3, hs3⟩ := hs6.rowAt k hkl
  generalize (setsOf g x)[k] = lk at hsk hc3 hs3
  have HSK := Lib.hid hsk
  have hmx := hs3.len.2
  clear hsk hkl hs6
  by_cases hlk : lk.length = 0
  · have HNO := Lib.hid (fun (h0 : k = 0) => set_empty (by rw [HSK.out, h0]) hlk)
    rw [hlk] at hc3
    clear hlk HSK hs3
    by_cases hk0 : 0 < k
    · have hkp : (0 : Int) < (k : Int) := by omega
      clear HNO
      go_wp2_with fail
      go_ret
      exact ⟨rfl, hw6⟩
    · have hkp : decide ((0 : Int) < (k : Int)) = false := by simp; omega
      have k2 := blk_cell hg6 (i := 2) rfl
      have k3 := blk_cell hg6 (i := 3) rfl
      have hno := nostart_any _ g A' c' w1.heap.size w2 hr6 hv.len k2 (HNO.out (by omega))
      clear HNO
      go_wp2_with fail
      refine hno.mono ?_
      rintro e7 w7 ⟨rfl, hb7⟩
      go_wp2_with fail
      go_ret
      exact ⟨rfl, hw6.trans (hb7.mono hw6.size)⟩
  · obtain ⟨i1, hi1⟩ : ∃ i1, nn % (lk.length : Int) = i1 := ⟨_, rfl⟩
    have hj0 := Int.emod_nonneg nn (show (lk.length : Int) ≠ 0 by omega)
    have hj1 := Int.emod_lt_of_pos nn (show 0 < (lk.length : Int) by omega)
    have hbel : ∀ W : World, Calls Try.prog 29 #[.int .i64 nn, .int .i64 lk.length] W fun e w' => e = .returned (.int .i64 i1) ∧ w' = W := fun W => hi1 ▸ below_int nn (lk.length : Int) W (by have := hs3.len.2; omega)
    rw [hi1] at hj0 hj1
    clear hi1
    obtain ⟨q, rfl⟩ := Int.eq_ofNat_of_zero_le hj0
    have hql : q < lk.length := by omega
    have hqz : (q : Int) < (lk.length : Int) := hj1
    clear hj0 hj1
    have hio := item_ok HSK.out hql
    obtain ⟨b3, o3, rfl, hF3, hbl3, d0, d1, d2⟩ := hs3.eitemAt q hql
    generalize lk[q] = z at hio d0 d1 d2
    obtain ⟨z1, z2, z3⟩ := z
    obtain ⟨hz1, hzd⟩ := hio
    simp only at hz1 hzd d0 d1 d2
    have hz0 : ((lk.length : Int) == 0) = false := beq_eq_false_iff_ne.2 (by omega)
    have HBEL := Lib.hid hbel
    have HSM := Lib.hid hs3
    clear hbel hlk hs3 HSK
    generalize lk.length = ll at hc3 hql hqz hz0 HBEL hmx
    go_wp2_with fail
    go_cut [12] (fun s12 wx => s12 = .pointer (some ⟨w2.heap.size, 0, none⟩) ∧ Below w2.heap.size w2 wx ∧ wx.heap[w2.heap.size]? = some (.cells #[.int .i64 z1, .int .i64 z2, .int .i64 z3] 63 (0, 0)))
    case first =>
      refine wp_region_any (by kernel_rfl) ?_
      change wpAny _ _ _ _ _ _ _ (World.drew _)
      refine wpAny_take (i := 0) (v := ?_) rfl (by kernel_rfl) (by kernel_rfl) (by kernel_rfl) (fun _ _ _ h => h) (Or.inl ⟨by rfl, ?_⟩) ?_
      rotate_left
      · (intro w'; go_simp; first | done | with_reducible rfl)
      refine wpAny_take (i := 1) (v := ?_) rfl (by kernel_rfl) (by kernel_rfl) (by kernel_rfl) (fun _ _ _ h => h) (Or.inl ⟨by rfl, ?_⟩) ?_
      rotate_left
      · (intro w'; go_simp; first | done | with_reducible rfl)
      refine wpAny_take (i := 2) (v := ?_) rfl (by kernel_rfl) (by kernel_rfl) (by kernel_rfl) (fun _ _ _ h => h) (Or.inl ⟨by rfl, ?_⟩) ?_
      rotate_left
      · (intro w'; go_simp; first | done | with_reducible rfl)
      refine wpAny_take (i := 4) (v := ?_) rfl (by kernel_rfl) (by kernel_rfl) (by kernel_rfl) (fun _ _ _ h => h) (Or.inl ⟨by rfl, ?_⟩) ?_
      rotate_left
      · (intro w'; go_simp; first | done | with_reducible rfl)
      refine wpAny_take (i := 5) (v := ?_) rfl (by kernel_rfl) (by kernel_rfl) (by kernel_rfl) (fun _ _ _ h => h) (Or.inl ⟨by rfl, ?_⟩) ?_
      rotate_left
      · (intro w'; go_simp; first | done | with_reducible rfl)
      refine wpAny_take (i := 6) (v := ?_) rfl (by kernel_rfl) (by kernel_rfl) (by kernel_rfl) (fun _ _ _ h => h) (Or.inl ⟨by rfl, ?_⟩) ?_
      rotate_left
      · (intro w'; go_simp; first | done | with_reducible rfl)
      refine wpAny_take (i := 7) (v := ?_) rfl (by kernel_rfl) (by kernel_rfl) (by kernel_rfl) (fun _ _ _ h => h) (Or.inl ⟨by rfl, ?_⟩) ?_
      rotate_left
      · (intro w'; go_simp; first | done | with_reducible rfl)
      refine wpAny_of_D (S := fun w' => Below w2.heap.size w2 w') (dep := 14) _ _ _ _ ?_
      refine wpAnyD_load (i := 3) (v := .slice (some ⟨b3, o3, none⟩) ll c3) [11, 12, 14] rfl (by kernel_rfl) (by kernel_rfl) (by kernel_rfl) (by kernel_rfl) (by kernel_rfl) (by kernel_rfl) (by kernel_rfl) (fun _ _ _ h => h) (by rfl) ?_ (Below.refl _ _).drew ?_
      · (intro w' hS; have h5 := (hS.cell (p := ⟨b, o + k, none⟩) hbl).trans hc3; go_simp)
      refine wpAnyD_load (i := 8) (v := .slice (some ⟨b3, o3, none⟩) ll c3) [9, 10, 11, 12, 14] rfl (by kernel_rfl) (by kernel_rfl) (by kernel_rfl) (by kernel_rfl) (by kernel_rfl) (by kernel_rfl) (by kernel_rfl) (fun _ _ _ h => h) (by rfl) ?_ (Below.refl _ _).drew ?_
      · (intro w' hS; have h5 := (hS.cell (p := ⟨b, o + k, none⟩) hbl).trans hc3; go_simp)
      refine wpAnyD_pure (i := 9) (v := ?_) [10, 11, 12, 14] rfl (by kernel_rfl) (by kernel_rfl) (by kernel_rfl) (by kernel_rfl) (by kernel_rfl) (by kernel_rfl) (by kernel_rfl) (fun _ _ _ h => h) (by rfl) ?_ (Below.refl _ _).drew ?_
      rotate_left
      · (intro w'; go_simp; first | done | with_reducible rfl)
      refine wpAnyD_each (rs := [10, 13]) (by kernel_rfl) (by simp) ?_
      refine EachD.cons rfl (fun K hK => ?_) ?_
      · simp only [List.getElem_toArray, List.getElem_cons_succ, List.getElem_cons_zero]
        refine step_call rfl 29 Try.f29 Try.func29 (by kernel_rfl) (by kernel_rfl) [.tmp 65, .tmp 70] #[3, 3] (by rfl) [.int .i64 nn, .int .i64 ll] (by kernel_rfl) _ (HBEL.out _) ?_
        rintro e8 w8 ⟨rfl, rfl⟩
        refine ⟨_, rfl, ?_⟩
        try go_simp
        refine hK _ _ (fun _ => (Below.refl _ _).drew) ?_
        clear hK K
        refine wpAnyD_pure (i := 11) (v := ?_) [12, 14] rfl (by kernel_rfl) (by kernel_rfl) (by kernel_rfl) (by kernel_rfl) (by kernel_rfl) (by kernel_rfl) (by kernel_rfl) (fun _ _ _ h => h) (by rfl) ?_ (Below.refl _ _).drew ?_
        rotate_left
        · (intro w'; go_simp; first | done | with_reducible rfl)
        refine wpAnyD_load (i := 12) (v := .agg #[.int .i64 z1, .int .i64 z2, .int .i64 z3]) [14] rfl (by kernel_rfl) (by kernel_rfl) (by kernel_rfl) (by kernel_rfl) (by kernel_rfl) (by kernel_rfl) (by kernel_rfl) (fun _ _ _ h => h) (by rfl) ?_ (Below.refl _ _).drew ?_
        · (intro w' hS; have e0 := (hS.cell (p := ⟨b3, o3 + q * 3, none⟩) hbl3).trans d0; have e1 := (hS.cell (p := ⟨b3, o3 + q * 3 + 1, none⟩) hbl3).trans d1; have e2 := (hS.cell (p := ⟨b3, o3 + q * 3 + 2, none⟩) hbl3).trans d2; go_simp)
        refine wpAnyD_each (rs := [13]) (by kernel_rfl) (by simp) ?_
        refine EachD.cons rfl (fun K hK => ?_) EachD.nil
        go_simp
        refine hK _ _ (fun _ => (below1 _ _).drew) ?_
        clear hK K
        refine wpAnyD_each (rs := [14]) (by kernel_rfl) (by simp) ?_
        refine EachD.cons rfl (fun K hK => ?_) EachD.nil
        go_simp
        refine hK _ _ (fun e => Bool.noConfusion (show true = false from e)) ?_
        clear hK K
        refine wpAnyD_of _ _ _ _ (by kernel_rfl) ?_
        refine wpAny_done (by kernel_rfl) ?_ _
        go_wp2_with fail
        go_meet
        exact ⟨rfl, (below1 _ _).drew, by rw [drew_heap]; exact heap_alloc_new _ _⟩
      refine EachD.cons rfl (fun K hK => ?_) EachD.nil
      go_simp
      refine hK _ _ (fun _ => (below1 _ _).drew) ?_
      clear hK K
      refine wpAnyD_each (rs := [10]) (by kernel_rfl) (by simp) ?_
      refine EachD.cons rfl (fun K hK => ?_) EachD.nil
      simp only [List.getElem_toArray, List.getElem_cons_succ, List.getElem_cons_zero]
      refine step_call (a := ⟨_, []⟩) rfl 29 Try.f29 Try.func29 (by kernel_rfl) (by kernel_rfl) [.tmp 65, .tmp 70] #[3, 3] (by rfl) [.int .i64 nn, .int .i64 ll] (by kernel_rfl) _ (HBEL.out _) ?_
      rintro e8 w8 ⟨rfl, rfl⟩
      refine ⟨_, rfl, ?_⟩
      try go_simp
      refine hK _ _ (fun _ => (below1 _ _).drew) ?_
      clear hK K
      refine wpAnyD_pure (i := 11) (v := ?_) [12, 14] rfl (by kernel_rfl) (by kernel_rfl) (by kernel_rfl) (by kernel_rfl) (by kernel_rfl) (by kernel_rfl) (by kernel_rfl) (fun _ _ _ h => h) (by rfl) ?_ (below1 _ _).drew ?_
      rotate_left
      · (intro w'; go_simp; first | done | with_reducible rfl)
      refine wpAnyD_load (i := 12) (v := .agg #[.int .i64 z1, .int .i64 z2, .int .i64 z3]) [14] rfl (by kernel_rfl) (by kernel_rfl) (by kernel_rfl) (by kernel_rfl) (by kernel_rfl) (by kernel_rfl) (by kernel_rfl) (fun _ _ _ h => h) (by rfl) ?_ (below1 _ _).drew ?_
      · (intro w' hS; have e0 := (hS.cell (p := ⟨b3, o3 + q * 3, none⟩) hbl3).trans d0; have e1 := (hS.cell (p := ⟨b3, o3 + q * 3 + 1, none⟩) hbl3).trans d1; have e2 := (hS.cell (p := ⟨b3, o3 + q * 3 + 2, none⟩) hbl3).trans d2; go_simp)
      refine wpAnyD_each (rs := [14]) (by kernel_rfl) (by simp) ?_
      refine EachD.cons rfl (fun K hK => ?_) EachD.nil
      go_simp
      refine hK _ _ (fun e => Bool.noConfusion (show true = false from e)) ?_
      clear hK K
      refine wpAnyD_of _ _ _ _ (by kernel_rfl) ?_
      refine wpAny_done (by kernel_rfl) ?_ _
      go_wp2_with fail
      go_meet
      exact ⟨rfl, (below1 _ _).drew, by rw [drew_heap]; exact heap_alloc_new _ _⟩
    case rest =>
    obtain ⟨rfl, hb8, hi8⟩ := hcut
    obtain ⟨wa, rfl⟩ : ∃ wa : World, wa = wc := ⟨_, rfl⟩
    have hg8 := blk_below hb8 (blk_lt hg6) hg6
    have hr8 := hr6.below hb8
    have hx8 := hx6'.below hb8
    have hw8 := hw6.trans (hb8.mono hw6.size)
    have hlt6 := blk_lt hg6
    clear hg6 hr6 hx6' hw6 hc3 d0 d1 d2 HBEL HSM hb8 hz0 hqz hql
    have hr0 : g.rules[z1]? = some g.rules[z1] := List.getElem?_eq_getElem hz1
    obtain ⟨hzr, hzk, hdrv⟩ := hzd _ hr0
    obtain ⟨b5, o5, e5, hF5, hl5, hc11, A5, c5, hc12, hsy5, hcap5⟩ := hr8.ruleCap z1 hz1
    subst e5
    have hokr := hv.ok g.rules[z1] (List.getElem_mem hz1)
    have hr4l := hokr.len
    have HDRV := Lib.hid hdrv
    have HOKR := Lib.hid hokr.syms
    clear hzd hdrv hr0 hokr
    generalize g.rules[z1] = r0 at hzr hc11 hc12 hsy5 hcap5 hr4l HDRV HOKR
    obtain ⟨u, hu⟩ : ∃ u, r0.r.take z2 = u := ⟨_, rfl⟩
    have hul : u.length = z2 := by rw [← hu, List.length_take]; omega
    obtain ⟨A6, hsl6, hs6⟩ := run_pre_sl (P := Try.prog) Try.underlying58 Try.sizeOf67 rfl hsy5 hcap5 z2 hzr
    have hou : ∀ y ∈ u, OkSym g y := fun y hy => HOKR.out y (List.mem_of_mem_take (hu ▸ hy))
    have hd0 := HDRV.out
    rw [hu] at hd0 hs6
    have HDR := Lib.hid hd0
    have HOU := Lib.hid hou
    clear hu hd0 hou HDRV HOKR
    subst hul
    have k0 := blk_cell hg8 (i := 0) rfl
    have k1 := blk_cell hg8 (i := 1) rfl
    have k2 := blk_cell hg8 (i := 2) rfl
    have k3 := blk_cell hg8 (i := 3) rfl
    have j0 := blk_cell hi8 (i := 0) rfl
    have j1 := blk_cell hi8 (i := 1) rfl
    have j2 := blk_cell hi8 (i := 2) rfl
    have hz1z : (z1 : Int) < (g.rules.length : Int) := by omega
    have hn1 : decide ((z1 : Int) < 0) = false := by simp
    have hn2 : decide ((u.length : Int) < 0) = false := by simp
    have hn3 : decide ((z3 : Int) < 0) = false := by simp
    have hn4 : decide ((g.rules.length : Int) ≤ (z1 : Int)) = false := by simp; omega
    have hn5 : decide ((r0.r.length : Int) < (u.length : Int)) = false := by simp; omega
    have hn6 : decide ((k : Int) < (z3 : Int)) = false := by simp; omega
    have hcp : ∀ W : World, Below wa.heap.size wa W → Calls Try.prog 36 #[gramV g (.slice (some ⟨b5, o5, none⟩) g.rules.length c')] W fun e w' => ∃ A' c'' base xs, e = .returned (gramV g (.slice A' g.rules.length c'')) ∧ Below wa.heap.size wa w' ∧ wa.heap.size ≤ base ∧ base ≤ w'.heap.size ∧ OwnRules w' base (.slice A' g.rules.length c'') g.rules xs := fun W hW =>
      (copyOf_own _ g _ c' W (hr8.below hW) hv).mono fun e w' ⟨A', c'', h1, h2, _, _, xs, h5⟩ => ⟨A', c'', W.heap.size + 3, xs, h1, hW.trans (h2.mono hW.size), by have := hW.size; omega, by
        obtain ⟨bb, cap, he, hb1, _⟩ := h5.own.form (by omega)
        have := own_lt h5.own bb (by rw [he]; rfl)
        omega, h5⟩
    unfold gramV at hcp
    have HCP := Lib.hid hcp
    clear hcp
    go_wp2_with fail
    go_quiet (fail)
    go_wp2_with fail
    clear hn1 hn2 hn3 hn4 hn5 hn6
    refine (HCP.out _ (by first | exact (Below.refl _ _).drew | exact below_drewN (Below.refl _ _) _)).mono ?_
    rintro e9 w9 ⟨Ac, cc, base, xs9, rfl, hb9, hlo9, hhi9, hO9⟩
    have hg9 := blk_below hb9 (blk_lt hg8) hg8
    have hi9 := blk_below hb9 (blk_lt hi8) hi8
    have hbB := below1 w9 (.cells #[.int .i64 g.terms, .int .i64 g.nons, .int .i64 g.start, .slice Ac g.rules.length cc] 25)
    have hgB := heap_alloc_new w9 (.cells #[.int .i64 g.terms, .int .i64 g.nons, .int .i64 g.start, .slice Ac g.rules.length cc] 25)
    have hOB := hO9.below hbB
    have hs9 := hb9.size
    have hgl9 := blk_lt hg9
    clear k0 k1 k2 k3 j0 j1 j2 hz1z HCP hO9
    go_wp2_with fail
    have hszB : w9.heap.size < (w9.alloc (.cells #[.int .i64 g.terms, .int .i64 g.nons, .int .i64 g.start, .slice Ac g.rules.length cc] 25)).heap.size := by rw [World.size_alloc]; omega
    have hg9B := blk_below hbB hgl9 hg9
    have hi9B := blk_below hbB (blk_lt hi9) hi9
    generalize w9.alloc (.cells #[.int .i64 g.terms, .int .i64 g.nons, .int .i64 g.start, .slice Ac g.rules.length cc] 25) = WB at hbB hgB hOB hszB hg9B hi9B ⊢
    have m1 := blk_cell hg9B (i := 1) rfl
    have p1 := blk_cell hgB (i := 1) rfl
    have p2 := blk_cell hgB (i := 2) rfl
    have q1 : WB.frozen? ⟨w9.heap.size, 1, none⟩ = false := blk_free hgB
    have q2 : WB.frozen? ⟨w9.heap.size, 2, none⟩ = false := blk_free hgB
    have hn10 := hv.n10
    have hn1 := hv.n1
    go_region
    go_wp2_with fail
    have hGC : ((WB.setCell ⟨w9.heap.size, 1, none⟩ (.int .i64 (g.nons + 1))).setCell ⟨w9.heap.size, 2, none⟩ (.int .i64 g.nons)).drew.heap[w9.heap.size]? = some (.cells #[.int .i64 g.terms, .int .i64 (g.nons + 1), .int .i64 g.nons, .slice Ac g.rules.length cc] 25 (0, 0)) := by
      rw [drew_heap, heap_set (heap_set hgB _ _)]; rfl
    have hbC : Below w9.heap.size w9 ((WB.setCell ⟨w9.heap.size, 1, none⟩ (.int .i64 (g.nons + 1))).setCell ⟨w9.heap.size, 2, none⟩ (.int .i64 g.nons)).drew := ((hbB.setCell (Nat.le_refl _) _).setCell (Nat.le_refl _) _).drew
    have hOC : OwnRules ((WB.setCell ⟨w9.heap.size, 1, none⟩ (.int .i64 (g.nons + 1))).setCell ⟨w9.heap.size, 2, none⟩ (.int .i64 g.nons)).drew base (.slice Ac g.rules.length cc) g.rules xs9 := ((hOB.poke hgB).poke (heap_set hgB _ _)).below (Below.refl _ _).drew
    generalize ((WB.setCell ⟨w9.heap.size, 1, none⟩ (.int .i64 (g.nons + 1))).setCell ⟨w9.heap.size, 2, none⟩ (.int .i64 g.nons)).drew = WC at hGC hbC hOC ⊢
    clear m1 p1 p2 q1 q2 hgB hOB hbB hg9B hi9B hszB
    have hb9C : Below wa.heap.size wa WC := hb9.trans (hbC.mono hs9)
    have hgC := blk_below hbC hgl9 hg9
    have hiC := blk_below hbC (blk_lt hi9) hi9
    have hl5C := (hb9C.cell (p := ⟨b5, o5 + z1 * 2, none⟩) hl5).trans hc11
    have hl5D := (hb9C.cell (p := ⟨b5, o5 + z1 * 2 + 1, none⟩) hl5).trans hc12
    have hszC := hbC.size
    have hltC := blk_lt hGC
    have g1 := blk_cell hgC (i := 1) rfl
    have g3 := blk_cell hgC (i := 3) rfl
    have j0 := blk_cell hiC (i := 0) rfl
    have j1 := blk_cell hiC (i := 1) rfl
    have p3 := blk_cell hGC (i := 3) rfl
    have hz1z : (z1 : Int) < (g.rules.length : Int) := by omega
    have hul4 : u.length ≤ 4 := by omega
    have hul5 : u.length ≤ r0.r.length := hzr
    have hcl := clone_syms _ u A6 u.length c5 WC.drew (hs6.below hb9C.drew) (by omega)
    have hOD : OwnRules WC.drew base (.slice Ac g.rules.length cc) g.rules xs9 := hOC.below (Below.refl _ _).drew
    have hGD : WC.drew.heap[w9.heap.size]? = _ := hGC
    have hgD : WC.drew.heap[w1.heap.size]? = _ := hgC
    have hltD : w9.heap.size < WC.drew.heap.size := hltC
    have hszD : w9.heap.size ≤ WC.drew.heap.size := hszC
    obtain ⟨ir, hir, hr0, hr2, hr3⟩ := info_parts Try.infoRule
    have h32 := hv.len
    clear hg9 hi9 hb9 hbC hc11 hc12 hl5
    go_cut [] (fun wx => ∃ Ao co xs, wx.heap[w9.heap.size]? = some (.cells #[.int .i64 g.terms, .int .i64 (g.nons + 1), .int .i64 g.nons, .slice Ao (g.rules.length + 1) co] 25 (0, 0)) ∧ Below wa.heap.size WC.drew wx ∧ OwnRules wx base (.slice Ao (g.rules.length + 1) co) (g.rules ++ [⟨g.nons, u⟩]) xs)
    case first =>
      refine wp_region_any (by kernel_rfl) ?_
      change wpAny _ _ _ _ _ _ _ (World.drew _)
      refine wpAny_take (i := 0) (v := ?_) rfl (by kernel_rfl) (by kernel_rfl) (by kernel_rfl) (fun _ _ _ h => h) (Or.inl ⟨by rfl, ?_⟩) ?_
      rotate_left
      · (intro w'; go_simp; first | done | with_reducible rfl)
      refine wpAny_take (i := 2) (v := ?_) rfl (by kernel_rfl) (by kernel_rfl) (by kernel_rfl) (fun _ _ _ h => h) (Or.inl ⟨by rfl, ?_⟩) ?_
      rotate_left
      · (intro w'; go_simp; first | done | with_reducible rfl)
      refine wpAny_take (i := 4) (v := ?_) rfl (by kernel_rfl) (by kernel_rfl) (by kernel_rfl) (fun _ _ _ h => h) (Or.inl ⟨by rfl, ?_⟩) ?_
      rotate_left
      · (intro w'; go_simp; first | done | with_reducible rfl)
      refine wpAny_take (i := 6) (v := ?_) rfl (by kernel_rfl) (by kernel_rfl) (by kernel_rfl) (fun _ _ _ h => h) (Or.inl ⟨by rfl, ?_⟩) ?_
      rotate_left
      · (intro w'; go_simp; first | done | with_reducible rfl)
      refine wpAny_take (i := 11) (v := ?_) rfl (by kernel_rfl) (by kernel_rfl) (by kernel_rfl) (fun _ _ _ h => h) (Or.inl ⟨by rfl, ?_⟩) ?_
      rotate_left
      · (intro w'; go_simp; first | done | with_reducible rfl)
      refine wpAny_of_D (S := fun w' => Below WC.heap.size WC w') (dep := 17) _ _ _ _ ?_
      refine wpAnyD_load (i := 1) (v := .slice Ac g.rules.length cc) [17] rfl (by kernel_rfl) (by kernel_rfl) (by kernel_rfl) (by kernel_rfl) (by kernel_rfl) (by kernel_rfl) (by kernel_rfl) (fun _ _ _ h => h) (by rfl) ?_ (Below.refl _ _).drew ?_
      · (intro w' hS; have h5 := (hS.cell (p := ⟨w9.heap.size, 3, none⟩) hltC).trans p3; go_simp)
      refine wpAnyD_load (i := 3) (v := .int .i64 g.nons) [15, 16, 17] rfl (by kernel_rfl) (by kernel_rfl) (by kernel_rfl) (by kernel_rfl) (by kernel_rfl) (by kernel_rfl) (by kernel_rfl) (fun _ _ _ h => h) (by rfl) ?_ (Below.refl _ _).drew ?_
      · (intro w' hS; have h5 := (hS.cell (p := ⟨w1.heap.size, 1, none⟩) (blk_lt hgC)).trans g1; go_simp)
      refine wpAnyD_load (i := 5) (v := .slice (some ⟨b5, o5, none⟩) g.rules.length c') [8, 9, 10, 13, 14, 17] rfl (by kernel_rfl) (by kernel_rfl) (by kernel_rfl) (by kernel_rfl) (by kernel_rfl) (by kernel_rfl) (by kernel_rfl) (fun _ _ _ h => h) (by rfl) ?_ (Below.refl _ _).drew ?_
      · (intro w' hS; have h5 := (hS.cell (p := ⟨w1.heap.size, 3, none⟩) (blk_lt hgC)).trans g3; go_simp)
      refine wpAnyD_load (i := 7) (v := .int .i64 z1) [8, 9, 10, 13, 14, 17] rfl (by kernel_rfl) (by kernel_rfl) (by kernel_rfl) (by kernel_rfl) (by kernel_rfl) (by kernel_rfl) (by kernel_rfl) (fun _ _ _ h => h) (by rfl) ?_ (Below.refl _ _).drew ?_
      · (intro w' hS; have h5 := (hS.cell (p := ⟨w2.heap.size, 0, none⟩) (blk_lt hiC)).trans j0; go_simp)
      refine wpAnyD_pure (i := 8) (v := ?_) [9, 10, 13, 14, 17] rfl (by kernel_rfl) (by kernel_rfl) (by kernel_rfl) (by kernel_rfl) (by kernel_rfl) (by kernel_rfl) (by kernel_rfl) (fun _ _ _ h => h) (by rfl) ?_ (Below.refl _ _).drew ?_
      rotate_left
      · (intro w'; go_simp; first | done | with_reducible rfl)
      refine wpAnyD_pure (i := 9) (v := ?_) [10, 13, 14, 17] rfl (by kernel_rfl) (by kernel_rfl) (by kernel_rfl) (by kernel_rfl) (by kernel_rfl) (by kernel_rfl) (by kernel_rfl) (fun _ _ _ h => h) (by rfl) ?_ (Below.refl _ _).drew ?_
      rotate_left
      · (intro w'; go_simp; first | done | with_reducible rfl)
      refine wpAnyD_load (i := 10) (v := .slice A5 r0.r.length c5) [13, 14, 17] rfl (by kernel_rfl) (by kernel_rfl) (by kernel_rfl) (by kernel_rfl) (by kernel_rfl) (by kernel_rfl) (by kernel_rfl) (fun _ _ _ h => h) (by rfl) ?_ (Below.refl _ _).drew ?_
      · (intro w' hS; have h5 := (hS.cell (p := ⟨b5, o5 + z1 * 2 + 1, none⟩) (cell_lt hl5D)).trans hl5D; go_simp)
      refine wpAnyD_load (i := 12) (v := .int .i64 u.length) [13, 14, 17] rfl (by kernel_rfl) (by kernel_rfl) (by kernel_rfl) (by kernel_rfl) (by kernel_rfl) (by kernel_rfl) (by kernel_rfl) (fun _ _ _ h => h) (by rfl) ?_ (Below.refl _ _).drew ?_
      · (intro w' hS; have h5 := (hS.cell (p := ⟨w2.heap.size, 1, none⟩) (blk_lt hiC)).trans j1; go_simp)
      refine wpAnyD_pure (i := 13) (v := ?_) [14, 17] rfl (by kernel_rfl) (by kernel_rfl) (by kernel_rfl) (by kernel_rfl) (by kernel_rfl) (by kernel_rfl) (by kernel_rfl) (fun _ _ _ h => h) (by rfl) ?_ (Below.refl _ _).drew ?_
      rotate_left
      · (intro w'; go_simp; first | done | with_reducible rfl)
      refine wpAnyD_each (rs := [14]) (by kernel_rfl) (by simp) ?_
      refine EachD.cons rfl (fun K hK => ?_) EachD.nil
      simp only [List.getElem_toArray, List.getElem_cons_succ, List.getElem_cons_zero]
      refine step_call rfl 37 Try.f37 Try.func37 (by kernel_rfl) (by kernel_rfl) [.tmp 136] #[58] (by rfl) [.slice A6 u.length c5] (by kernel_rfl) _ hcl ?_
      rintro e8 w8 ⟨A8, c8, rfl, hb8, ho8⟩
      refine ⟨_, rfl, ?_⟩
      have hs8 := hb8.size
      have hG8 := blk_below hb8 hltD hGD
      have h8l := blk_lt hG8
      have hown8 := (hOD.below hb8).own
      have hbS : Below WC.heap.size WC w8 := (Below.refl WC.heap.size WC).drew.trans hb8
      try go_simp
      refine hK _ _ (fun _ => hbS) ?_
      clear hK K
      refine wpAnyD_pure (i := 15) (v := ?_) [16, 17] rfl (by kernel_rfl) (by kernel_rfl) (by kernel_rfl) (by kernel_rfl) (by kernel_rfl) (by kernel_rfl) (by kernel_rfl) (fun _ _ _ h => h) (by rfl) ?_ hbS ?_
      rotate_left
      · (intro w'; go_simp; first | done | with_reducible rfl)
      refine wpAnyD_each (rs := [16]) (by kernel_rfl) (by simp) ?_
      refine EachD.cons rfl (fun K hK => ?_) EachD.nil
      go_simp
      refine hK _ _ (fun _ => hbS.alloc hbS.size _) ?_
      clear hK K
      refine wpAnyD_each (rs := [17]) (by kernel_rfl) (by simp) ?_
      refine EachD.cons rfl (fun K hK => ?_) EachD.nil
      simp only [List.getElem_toArray, List.getElem_cons_succ, List.getElem_cons_zero]
      refine step_append_src (a := ⟨_, []⟩) _ rfl (.tmp 124) (.tmp 139) 23 rfl base 60 ir (.agg #[.int .i64 0, .slice none 0 0]) 2 32 Try.underlying23 hir hr0 hr2 hr3 rfl (by decide) _ g.rules.length xs9 rfl (hown8.alloc _) (some ⟨w8.heap.size, 0, none⟩) 1 1 [.int .i64 g.nons, .slice A8 u.length c8] rfl rfl (by intro h; cases h) (fun a ha j u hj => by injection ha with ha; subst ha; exact cells_new _ _ _ _ _ hj) (by intro u hu; simp at hu; rcases hu with rfl | rfl <;> rfl) (g.rules.length + 1) rfl (by unfold maxLen; omega) (by omega) (by rw [World.size_alloc]; omega) ?_
      intro Ao co wz hown9 hgz hat9
      obtain ⟨hz1', hz2', hz3'⟩ := ext_step (r := ⟨g.nons, u⟩) (lo := wa.heap.size) hb8 hOD ho8 hgz hown9 hGD (by omega) hlo9 (by omega)
      have hkz : wz.heap[w9.heap.size]? = _ := (hgz.block _ (by rw [World.size_alloc]; omega) (own_far hOD.own hGD (by decide))).trans ((Below.heap_alloc _ _ _ (by omega)).trans hG8)
      have hkzc := blk_cell hkz (i := 3) rfl
      have hkzf : wz.frozen? ⟨w9.heap.size, 3, none⟩ = false := blk_free hkz
      try go_simp
      refine hK _ _ (fun e => Bool.noConfusion (show true = false from e)) ?_
      clear hK K
      refine wpAnyD_of _ _ _ _ (by kernel_rfl) ?_
      refine wpAny_take (i := 18) (v := ?_) rfl (by kernel_rfl) (by kernel_rfl) (by kernel_rfl) (fun _ _ _ h => h) (Or.inl ⟨by rfl, ?_⟩) ?_
      rotate_left
      · (intro w'; go_simp; first | done | with_reducible rfl)
      refine wpAny_ready (rs := [19]) (by kernel_rfl) (by simp) ?_
      refine AllReady.cons rfl (fun K hK => ?_) AllReady.nil
      go_simp
      refine hK _ _ ?_
      clear hK K
      refine wpAny_done (by kernel_rfl) ?_ _
      go_wp2_with fail
      go_meet
      exact ⟨Ao, co, _, hz2', hz1', hz3'⟩
    case rest =>
    obtain ⟨Ao, co, xs, hGx, hbx, hOx⟩ := hcut
    obtain ⟨B2, hsl2, hxp⟩ := run_part_sl (P := Try.prog) Try.underlying22 Try.sizeInt rfl hx8 hcx z3 k hzk hkx
    have hbW : Below wa.heap.size wa wc := (hb9C.drew).trans hbx
    have hiW := blk_below hbx (blk_lt hi8) (show WC.drew.heap[w2.heap.size]? = _ from hiC)
    have hsmall := HSMALL.out
    have hvE := ext_valid hsmall hul4 HOU.out
    have hlp : ((x.drop z3).take (k - z3)).length = k - z3 := by rw [List.length_take, List.length_drop]; omega
    have hokp : OkWord (extG g u) ((x.drop z3).take (k - z3)) := fun t ht => hok t (List.mem_of_mem_drop (List.mem_of_mem_take ht))
    have hlE : (extG g u).rules.length = g.rules.length + 1 := by unfold extG; simp
    have hacc : ∀ W : World, Below wc.heap.size wc W → Calls Try.prog 20 #[.agg #[.int .i64 g.terms, .int .i64 (g.nons + 1), .int .i64 g.nons, .slice Ao (g.rules.length + 1) co], .slice B2 (k - z3) (cx - z3)] W fun e w' => e = .returned (.tuple #[.bool true, .int .i64 0]) ∧ Below W.heap.size W w' := fun W hW => by
      have h := accepts_any (fun _ => True) (extG g u) Ao (g.rules.length + 1) co ((x.drop z3).take (k - z3)) B2 (k - z3) (cx - z3) W ((hOx.isSl.below hW).weak fun _ _ => trivial) hvE (by have := hOx.cap; simp at this; omega) (((hxp.below hbW).below hW).weak fun _ _ => trivial) hokp (by rw [hlp]; omega)
      refine h.mono ?_
      rintro e w' ⟨b, rfl, hb, hbl⟩
      have hbt : b = true := hb.2 (by rw [hlp]; exact HDR.out)
      exact ⟨by rw [hbt], hbl⟩
    have HACC := Lib.hid hacc
    have hw10 := hw8.trans (hbW.mono hw8.size)
    have hzkz : (z3 : Int) ≤ (k : Int) := by omega
    have hkxz : (k : Int) ≤ (x.length : Int) := by omega
    clear hacc hvE hokp hsmall hbx hbW hOx hOD hGD hgD hcl
    have x0 := blk_cell hGx (i := 0) rfl
    have x1 := blk_cell hGx (i := 1) rfl
    have x2 := blk_cell hGx (i := 2) rfl
    have x3 := blk_cell hGx (i := 3) rfl
    have y2 := blk_cell hiW (i := 2) rfl
    go_wp2_with fail
    go_cut [14, 15] (fun s14 s15 wx => s14 = .bool true ∧ s15 = .int .i64 0 ∧ Below wc.heap.size wc wx)
    case first =>
      go_region_law (first | (refine step_call rfl 20 Try.f20 Try.func20 (by kernel_rfl) (by kernel_rfl) [_, _] _ rfl [.agg #[.int .i64 g.terms, .int .i64 (g.nons + 1), .int .i64 g.nons, .slice Ao (g.rules.length + 1) co], .slice B2 (k - z3) (cx - z3)] rfl _ (HACC.out _ (Below.refl _ _).drew) ?_; rintro e5 w5 ⟨rfl, hb5⟩; refine ⟨_, rfl, ?_⟩))
      all_goals
        go_wp2_with fail
        go_meet
        exact ⟨rfl, rfl, (Below.refl _ _).drew.trans hb5⟩
    case rest =>
    obtain ⟨rfl, rfl, hb14⟩ := hcut
    go_wp2_with fail
    go_ret
    exact ⟨rfl, hw10.trans (hb14.mono hw10.size)⟩
end Go.Proofs.Ytcndbohiiodndaa
