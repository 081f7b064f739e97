import Derived.Test.YtcndbohiiodndaaErlOne
import Derived.Test.YtcndbohiiodndaaForH
import Derived.Test.YtcndbohiiodndaaCykWX
import Derived.Test.YtcndbohiiodndaaDoub
import Derived.Test.YtcndbohiiodndaaLawCyk
open Go Go.RowKit
open Go.Sort (HoldsK flatK grow putRowK SWO PermIn SortedIn)
namespace Go.Proofs.Ytcndbohiiodndaa

/-! ### items in order -/
def Elt.eitem : Elt EItem := (Elt.int.pair (Elt.int.pair Elt.int)).map fun z => ((z.1 : Int), ((z.2.1 : Int), (z.2.2 : Int)))
def cmpItem (a b : EItem) : Int := if a.1 ≠ b.1 then (a.1 : Int) - b.1 else if a.2.1 ≠ b.2.1 then (a.2.1 : Int) - b.2.1 else (a.2.2 : Int) - b.2.2
theorem cmpItem_lt (a b : EItem) : cmpItem a b < 0 ↔ a.1 < b.1 ∨ (a.1 = b.1 ∧ (a.2.1 < b.2.1 ∨ (a.2.1 = b.2.1 ∧ a.2.2 < b.2.2))) := by
  obtain ⟨a1, a2, a3⟩ := a
  obtain ⟨b1, b2, b3⟩ := b
  unfold cmpItem
  by_cases h1 : a1 = b1
  · by_cases h2 : a2 = b2
    · simp [h1, h2]; omega
    · simp [h1, h2]; omega
  · simp [h1]; omega
def OkI (z : EItem) : Prop := z.1 ≤ 1000 ∧ z.2.1 ≤ 1000 ∧ z.2.2 ≤ 1000
abbrev IB := {z : EItem // OkI z}
instance : Inhabited IB := ⟨⟨(0, 0, 0), ⟨by simp, by simp, by simp⟩⟩⟩
def cfI (a b : IB) : Int := cmpItem a.1 b.1
theorem ltI (a b : IB) : Go.Proofs.ltOf cfI a b = decide (cmpItem a.1 b.1 < 0) := rfl
theorem swoI : SWO (Go.Proofs.ltOf cfI) where
  irrefl x := by rw [ltI, decide_eq_false_iff_not, cmpItem_lt]; omega
  trans x y z h1 h2 := by rw [ltI, decide_eq_true_eq, cmpItem_lt] at *; omega
  ntrans x y z h1 h2 := by rw [ltI, decide_eq_false_iff_not, cmpItem_lt] at *; omega
theorem totI (x y : IB) (h1 : Go.Proofs.ltOf cfI x y = false) (h2 : Go.Proofs.ltOf cfI y x = false) : x = y := by
  rw [ltI, decide_eq_false_iff_not, cmpItem_lt] at h1 h2
  obtain ⟨⟨x1, x2, x3⟩, hx⟩ := x
  obtain ⟨⟨y1, y2, y3⟩, hy⟩ := y
  simp only [Subtype.mk.injEq, Prod.mk.injEq] at *
  omega

set_option maxHeartbeats 1000000 in
theorem orderE_any (a b : EItem) (ha : OkI a) (hb : OkI b) (W : World) : Calls Try.prog 85 #[itemV a, itemV b] W fun e w' => e = .returned (.int .i64 (cmpItem a b)) ∧ ∃ q os', w' = grow (W.drewN q) os' := by
  obtain ⟨a1, a2, a3⟩ := a
  obtain ⟨b1, b2, b3⟩ := b
  obtain ⟨a4, a5, a6⟩ := ha
  obtain ⟨b4, b5, b6⟩ := hb
  simp only at a4 a5 a6 b4 b5 b6
  unfold itemV
  have hfin : ∀ o1 o2 : Obj, ∃ q os', (W.alloc o1).alloc o2 = grow (W.drewN q) os' := fun o1 o2 => ⟨0, _, by rw [Go.Sort.alloc_eq_grow, Go.Sort.alloc_eq_grow, Go.Sort.grow_grow]; rfl⟩
  by_cases h1 : a1 = b1
  · have z1 : ((a1 : Int) != (b1 : Int)) = false := by simp [h1]
    by_cases h2 : a2 = b2
    · have z2 : ((a2 : Int) != (b2 : Int)) = false := by simp [h2]
      have e3 : cmpItem (a1, a2, a3) (b1, b2, b3) = (a3 : Int) - b3 := by simp [cmpItem, h1, h2]
      have E := Lib.hid e3
      clear h1 h2 e3
      go_enter Try.func85, Try.ntmps85
      go_wp2
      go_ret
      exact ⟨ret_int (by rw [E.out]), hfin _ _⟩
    · have z2 : ((a2 : Int) != (b2 : Int)) = true := by simp; omega
      have e3 : cmpItem (a1, a2, a3) (b1, b2, b3) = (a2 : Int) - b2 := by simp [cmpItem, h1, h2]
      have E := Lib.hid e3
      clear h1 h2 e3
      go_enter Try.func85, Try.ntmps85
      go_wp2
      go_ret
      exact ⟨ret_int (by rw [E.out]), hfin _ _⟩
  · have z1 : ((a1 : Int) != (b1 : Int)) = true := by simp; omega
    have e3 : cmpItem (a1, a2, a3) (b1, b2, b3) = (a1 : Int) - b1 := by simp [cmpItem, h1]
    have E := Lib.hid e3
    clear h1 e3
    go_enter Try.func85, Try.ntmps85
    go_wp2
    go_ret
    exact ⟨ret_int (by rw [E.out]), hfin _ _⟩

def itemLe (a b : EItem) : Bool := !decide (cmpItem b a < 0)
def itemC (z : EItem) : List Value := [.int .i64 z.1, .int .i64 z.2.1, .int .i64 z.2.2]
theorem itemC_one (z : EItem) : ∀ v ∈ itemC z, v.oneCell' = true := fun v hv => by
  unfold itemC at hv; simp at hv; rcases hv with rfl | rfl | rfl <;> rfl
def encI (z : IB) : List Value := itemC z.1

theorem sort_items (w : World) (base blk cap : Nat) (l : List EItem) (hok : ∀ z ∈ l, OkI z) (hlen : l.length ≤ 1000000) (hown : w.ownsRow base 63 3 (.slice (some ⟨blk, 0, none⟩) l.length cap) l.length (itemCells l)) :
    Calls Try.prog 84 #[.slice (some ⟨blk, 0, none⟩) l.length cap, .func (.func 85) #[] #[]] w fun e w' => e = .returned (.tuple #[]) ∧ Away w.heap.size (fun b => b = blk) w w' ∧ IsSl Elt.eitem (fun b => b = blk) w' (.slice (some ⟨blk, 0, none⟩) (l.mergeSort itemLe).length cap) (l.mergeSort itemLe) := by
  obtain ⟨d, hd⟩ : ∃ d : List IB, d.map (·.1) = l := ⟨l.attachWith OkI hok, List.attachWith_map_subtype_val _⟩
  have hdl : d.length = l.length := by rw [← hd, List.length_map]
  have hfl : d.flatMap encI = itemCells l := by rw [← hd, itemCells, List.flatMap_map]; rfl
  have hblk : blk < w.heap.size := (hown.lt blk rfl).2
  have hown2 : w.ownsRow base 63 3 (.slice (some ⟨blk, 0, none⟩) d.length cap) d.length (d.flatMap encI) := by rw [hfl, hdl]; exact hown
  have hH := holds_own encI (fun _ => rfl) d hown2
  have eg : ∀ args w, (callFunc 85 args).run Try.prog w = .ok (.enter 85 args) w := enters_of Try.func85 (by kernel_rfl) rfl
  have hcmp : CmpLays Try.prog 85 #[] encI 3 cfI blk 0 d.toArray.size w := fun _ _ _ _ x y => orderE_any x.1 y.1 x.2 y.2 _
  have hcon := AnyQ.slices_SortFunc_total Try.sortItem 3 Try.isAgg63 Try.sizeOf63 encI (fun _ => rfl) (fun x => itemC_one x.1) cfI swoI 85 #[] blk 0 cap d.toArray w eg hcmp hH hblk (by simp; omega) totI
  change Calls Try.prog 84 _ _ _ at hcon
  have hsz : d.toArray.size = l.length := by simpa using hdl
  rw [hsz] at hcon
  refine hcon.mono ?_
  rintro e w' ⟨rfl, n, os, rfl⟩
  refine ⟨rfl, sort_away _ _ _ _ _ _ _ _, ?_⟩
  have hms : ((d.mergeSort fun x y => !Go.Proofs.ltOf cfI y x).map (·.1)) = l.mergeSort itemLe := by
    rw [← hd]
    exact List.map_mergeSort (r := fun x y => !Go.Proofs.ltOf cfI y x) (s := itemLe) (f := fun x : IB => x.1) (fun a _ b _ => rfl)
  have hlm : (d.mergeSort fun x y => !Go.Proofs.ltOf cfI y x).length = d.length := List.length_mergeSort _
  have hH2 := holdsK_sortWorldK_c encI 3 w blk 0 d.toArray (d.toArray.toList.mergeSort fun x y => !Go.Proofs.ltOf cfI y x).toArray n os hH hblk (by simp)
  refine ⟨_, cap, rfl, by rw [List.length_mergeSort]; omega, fun k hk => ?_⟩
  have hk2 : k < (d.mergeSort fun x y => !Go.Proofs.ltOf cfI y x).length := by rw [hlm, hdl]; rwa [List.length_mergeSort] at hk
  have hel : (l.mergeSort itemLe)[k] = ((d.mergeSort fun x y => !Go.Proofs.ltOf cfI y x)[k]).1 := by
    have : (l.mergeSort itemLe)[k]? = ((d.mergeSort fun x y => !Go.Proofs.ltOf cfI y x).map (·.1))[k]? := by rw [hms]
    rw [List.getElem?_eq_getElem hk, List.getElem?_map, List.getElem?_eq_getElem hk2] at this
    simpa using this
  have hget : ∀ c, c < 3 → _ := fun c hc => (hH2.cell (i := k) (c := c) (by simpa using hk2) hc).1
  rw [hel]
  have hb2 : blk < (sortWorldK encI 3 w blk 0 n (d.toArray.toList.mergeSort fun x y => !Go.Proofs.ltOf cfI y x).toArray os).heap.size := Nat.lt_of_lt_of_le hblk (sort_away _ _ _ _ _ _ _ _).size
  have e0 := hget 0 (by omega)
  have e1 := hget 1 (by omega)
  have e2 := hget 2 (by omega)
  have hg : (d.toArray.toList.mergeSort fun x y => !Go.Proofs.ltOf cfI y x).toArray[k]! = (d.mergeSort fun x y => !Go.Proofs.ltOf cfI y x)[k] := by rw [getElem!_pos _ k (by simpa using hk2)]; simp
  rw [hg] at e0 e1 e2
  exact ⟨blk, 0, rfl, rfl, hb2, ⟨rfl, e0⟩, ⟨rfl, e1⟩, ⟨rfl, e2⟩⟩
end Go.Proofs.Ytcndbohiiodndaa

open Go Go.RowKit
namespace Go.Proofs.Ytcndbohiiodndaa

theorem echeck_ok (F : Nat → Prop) (g : Gram) (A : Option Addr) (n c : Nat) (x : List Int) (B : Option Addr) (m d : Nat) (w : World) (hr : IsSl Elt.rule F w (.slice A n c) g.rules) (hv : Valid g) (hc : n ≤ c)
    (hx : IsSl Elt.int F w (.slice B m d) x) (ho : OkWord g x) (hm : x.length ≤ 12) :
    Calls Try.prog 82 #[gramV g (.slice A n c), .slice B m d] w fun e w' => e = .returned (.int .i64 0) ∧ Below w.heap.size w w' := by
  have hm2 : (x.length : Int) ≤ 12 := by omega
  go_enter Try.func82, Try.ntmps82
  unfold gramV
  go_wp2_with fail
  have hb1 : Below w.heap.size w (w.alloc (.cells #[.int .i64 g.terms, .int .i64 g.nons, .int .i64 g.start, .slice A n c] 25)) := (Below.refl _ _).alloc (Nat.le_refl _) _
  refine (check_valid F g A n c _ (hr.below hb1) hv hc).mono ?_
  rintro e w' ⟨rfl, hb2⟩
  have hb3 : Below w.heap.size w w' := hb1.trans (hb2.mono (by simp))
  have h0 := box_cell (w := w) (wr := w') (hb2.mono (by simp)) (j := 0) rfl
  have h1 := box_cell (w := w) (wr := w') (hb2.mono (by simp)) (j := 1) rfl
  have h2 := box_cell (w := w) (wr := w') (hb2.mono (by simp)) (j := 2) rfl
  have h3 := box_cell (w := w) (wr := w') (hb2.mono (by simp)) (j := 3) rfl
  go_wp2_with fail
  refine (gramWord_any F g _ x B m d 12 _ (hx.below hb3) (by omega) ho).mono ?_
  rintro e w2 ⟨rfl, hb4⟩
  go_wp2
  go_ret
  exact ⟨rfl, hb3.trans (hb4.mono hb3.size)⟩

/-- the sets as the statements see them -/
def setsOf (g : Gram) (x : List Int) : List (List EItem) := (List.range (x.length + 1)).map fun k => (fillE g x k).mergeSort itemLe

def SetsEnd (w w' : World) (e : Ending) (g : Gram) (x : List Int) : Prop :=
  ∃ A c, e = .returned (.tuple #[.slice A (x.length + 1) c, .int .i64 0]) ∧ Below w.heap.size w w' ∧ x.length + 1 ≤ c ∧ IsSl Elt.eitem.sl (fun b => w.heap.size ≤ b) w' (.slice A (x.length + 1) c) (setsOf g x)

/-- the sets up to q are in order -/
structure SSt (w4 wr : World) (lo n1 : Nat) (h : EHead) (S : ESets) (q : Nat) : Prop where
  away : Away w4.heap.size (fun b => ∃ k, k < n1 ∧ (hdE h S k).ownBlock = some b) w4 wr
  done : ∀ k, k < q → k < n1 → (S k).length ≤ (h k).2 ∧ IsSl Elt.eitem (fun b => (hdE h S k).ownBlock = some b) wr (.slice (h k).1 ((S k).mergeSort itemLe).length (h k).2) ((S k).mergeSort itemLe)
  rest : ∀ k, q ≤ k → k < n1 → wr.ownsRow lo 63 3 (hdE h S k) (S k).length (itemCells (S k))

theorem okI_of {g : Gram} {x : List Int} (hv : Valid g) (hm : x.length ≤ 12) {S : ESets} (h : EOk g x S) (k : Nat) : ∀ z ∈ S k, OkI z := fun z hz => by
  have := okz_small hv hm (h.ok k z hz)
  exact ⟨by omega, by omega, by omega⟩

/-- one set is put in order -/
theorem SSt.step {w4 wr : World} {lo n1 : Nat} {h : EHead} {S : ESets} {q : Nat} (H : SSt w4 wr lo n1 h S q) (hq : q < n1) (hap : ∀ k j, k < n1 → j < n1 → k ≠ j → ∀ b, (hdE h S k).ownBlock = some b → (hdE h S j).ownBlock ≠ some b) (hok : ∀ z ∈ S q, OkI z) (hlen : (S q).length ≤ 1000000) :
    Calls Try.prog 84 #[.slice (h q).1 (S q).length (h q).2, .func (.func 85) #[] #[]] wr fun e w' => e = .returned (.tuple #[]) ∧ SSt w4 w' lo n1 h S (q + 1) := by
  have hown := H.rest q (Nat.le_refl _) hq
  have hcap := own_cap hown
  rcases Nat.eq_zero_or_pos (S q).length with h0 | hpos
  · have hL : S q = [] := List.eq_nil_of_length_eq_zero h0
    have hcon := AnyF.slices_SortFunc_none (P := Try.prog) (ρ := Try.sortItem_ren) { Try.sortItem with } (h q).1 (h q).2 (.func (.func 85) #[] #[]) wr
    change Calls Try.prog 84 _ _ _ at hcon
    rw [h0]
    refine hcon.mono ?_
    rintro e w' ⟨rfl, rfl⟩
    refine ⟨rfl, H.away, fun k hk hk1 => ?_, fun k hk hk1 => H.rest k (by omega) hk1⟩
    by_cases e : k = q
    · subst e
      refine ⟨hcap, _, _, rfl, by rw [hL]; simp, fun j hj => absurd hj (by rw [hL]; simp)⟩
    · exact H.done k (by omega) hk1
  · unfold hdE at hown
    obtain ⟨b, cap, e8, _, _⟩ := hown.form hpos
    injection e8 with e1 _ e2
    have hown2 := hown
    rw [e1] at hown2 ⊢
    have hbq : (hdE h S q).ownBlock = some b := by unfold hdE; rw [e1]; rfl
    refine (sort_items wr lo b (h q).2 (S q) hok hlen hown2).mono ?_
    rintro e w' ⟨rfl, ha, hs⟩
    have hs4 := H.away.size
    refine ⟨rfl, H.away.trans ⟨ha.os, ha.tape, ha.output, ha.size, fun j hj hf => ha.block j (by omega) fun e => hf ⟨q, hq, by rw [e]; exact hbq⟩⟩, fun k hk hk1 => ?_, fun k hk hk1 => ?_⟩
    · by_cases e : k = q
      · subst e
        refine ⟨hcap, ?_⟩
        rw [e1]
        exact hs.weak fun j hj => by have hj : j = b := hj; rw [hj]; exact hbq
      · obtain ⟨h1, h2⟩ := H.done k (by omega) hk1
        refine ⟨h1, (h2.old.keep (fun j hj => ha.block j hj.2 fun e2 => hap k q hk1 hq e j hj.1 (by have e2 : j = b := e2; rw [e2]; exact hbq)) ha.size).weak fun j hj => hj.1⟩
    · have h2 := H.rest k (by omega) hk1
      exact own_same h2 fun j hj => ha.block j (own_lt h2 j hj) fun e2 => hap k q hk1 hq (by omega) j hj (by have e2 : j = b := e2; rw [e2]; exact hbq)

set_option maxRecDepth 100000 in
set_option maxHeartbeats 4000000 in
theorem esets_any (F : Nat → Prop) (g : Gram) (x : List Int) (A : Option Addr) (c : Nat) (B : Option Addr) (d : Nat) (w : World) (hr : IsSl Elt.rule F w (.slice A g.rules.length c) g.rules) (hx : IsSl Elt.int F w (.slice B x.length d) x) (hv : Valid g) (hcap : g.rules.length ≤ c) (hok : OkWord g x) (hm : x.length ≤ 12) :
    Calls Try.prog 32 #[gramV g (.slice A g.rules.length c), .slice B x.length d] w fun e w' => SetsEnd w w' e g x := by
  have hbA := below1 w (.cells #[.int .i64 g.terms, .int .i64 g.nons, .int .i64 g.start, .slice A g.rules.length c] 25)
  have hck := echeck_ok F g A g.rules.length c x B x.length d _ (hr.below hbA) hv hcap (hx.below hbA) hok hm
  have HCK := Lib.hid hck
  clear hck hok
  unfold gramV at HCK ⊢
  go_enter Try.func32, Try.ntmps32
  go_wp2_with fail
  refine HCK.out.mono ?_
  rintro e w2 ⟨rfl, hb2⟩
  have hgb : w2.heap[w.heap.size]? = some (.cells #[.int .i64 g.terms, .int .i64 g.nons, .int .i64 g.start, .slice A g.rules.length c] 25 (0, 0)) := (hb2.block _ (by simp)).trans (heap_alloc_new _ _)
  have hw2 : Below w.heap.size w w2 := hbA.trans (hb2.mono (by simp))
  have h0 := blk_cell hgb (i := 0) rfl
  have h1 := blk_cell hgb (i := 1) rfl
  have h2 := blk_cell hgb (i := 2) rfl
  have h3 := blk_cell hgb (i := 3) rfl
  have hr2 := hr.below hw2
  have hx2 := hx.below hw2
  clear HCK hb2 hbA hr hx
  go_wp2_with fail
  clear h0 h1 h2 h3
  obtain ⟨n1, hn1⟩ : ∃ n1, n1 = x.length + 1 := ⟨_, rfl⟩
  have hbB := below1 w2 (.cells #[.int .i64 g.terms, .int .i64 g.nons, .int .i64 g.start, .slice A g.rules.length c, .slice B x.length d, .slice none 0 0, .slice none 0 0] 146)
  have hfill := fill_any g x A c B d n1 w2.heap.size (w2.alloc (.cells #[.int .i64 g.terms, .int .i64 g.nons, .int .i64 g.start, .slice A g.rules.length c, .slice B x.length d, .slice none 0 0, .slice none 0 0] 146)) (heap_alloc_new _ _) ((hr2.old.below hbB).weak fun b hb => hb.2) ((hx2.old.below hbB).weak fun b hb => hb.2) hv hm hn1
  refine hfill.mono ?_
  rintro e w4 ⟨rfl, D, sb, sc, ib, ic, h, r, haw, H⟩
  have hsz := World.size_alloc w2 (.cells #[.int .i64 g.terms, .int .i64 g.nons, .int .i64 g.start, .slice A g.rules.length c, .slice B x.length d, .slice none 0 0, .slice none 0 0] 146)
  have hw4 : Below w.heap.size w w4 := by
    refine (hw2.trans (hbB.mono hw2.size)).trans ⟨haw.os, haw.tape, haw.output, haw.size, fun j hj => haw.block j (by have := hw2.size; omega) ?_⟩
    have := hw2.size
    show ¬ j = w2.heap.size
    omega
  clear hfill hbB haw hr2 hx2 hgb
  generalize (w2.alloc (.cells #[.int .i64 g.terms, .int .i64 g.nons, .int .i64 g.start, .slice A g.rules.length c, .slice B x.length d, .slice none 0 0, .slice none 0 0] 146)).heap.size = lo at H hsz
  have hokS : EOk g x (fillE g x) := fillTo_ok _
  have hsets : setsOf g x = (List.range n1).map fun k => (fillE g x k).mergeSort itemLe := by unfold setsOf; rw [hn1]
  have hlenS : ∀ k, (fillE g x k).length ≤ 1000000 := fun k => by have := hokS.len hv hm k; unfold maxE at this; omega
  have hokI := okI_of hv hm hokS
  generalize fillE g x = S at H hokS hsets hlenS hokI
  have HN1 := Lib.hid hn1
  have HSETS := Lib.hid hsets
  have HW4 := Lib.hid hw4
  have HW2 := Lib.hid hw2.size
  have HSZ := Lib.hid hsz
  have hn13 : n1 ≤ 13 := by omega
  have hS0 : SSt w4 w4 lo n1 h S 0 := ⟨Away.refl _ _ _, fun k hk => absurd hk (by omega), fun k _ hk => H.each k hk⟩
  have hfar : ∀ wr, Away w4.heap.size (fun b => ∃ k, k < n1 ∧ (hdE h S k).ownBlock = some b) w4 wr → wr.heap[w2.heap.size]? = w4.heap[w2.heap.size]? ∧ wr.heap[sb]? = w4.heap[sb]? := fun wr ha => by
    refine ⟨ha.block _ (blk_lt H.blk) fun ⟨k, hk, he⟩ => ?_, ha.block _ (own_lt H.sets sb rfl) fun ⟨k, hk, he⟩ => ?_⟩
    · have := own_base' (H.each k hk) _ he; omega
    · obtain ⟨cs, h1, _⟩ := own_typed (H.each k hk) _ he
      obtain ⟨cs2, h2, _⟩ := own_typed H.sets sb rfl
      rw [h1] at h2
      injection h2 with h2
      injection h2 with _ h2
      exact absurd h2 (by decide)
  have c5 := blk_cell H.blk (i := 5) rfl
  have HH := Lib.hid H
  have HFAR := Lib.hid hfar
  clear hfar H hn1 hsets hw4 hw2 hsz hv hcap
  go_wp2_with fail
  clear c5
  go_loopg [26] n1 (fun gk i wr => ∃ q, q ≤ n1 ∧ gk = n1 - q ∧ i = .int .i64 q ∧ SSt w4 wr lo n1 h S q)
  case atStart => exact ⟨0, by omega, by omega, rfl, hS0⟩
  case round =>
    clear hS0
    obtain ⟨q, hq, rfl, rfl, hS⟩ := hrel
    obtain ⟨f1, f2⟩ := HFAR.out wr hS.away
    have c5 := blk_cell (f1.trans HH.out.blk) (i := 5) rfl
    by_cases hlt : q < n1
    · have cs := (World.cell?_of_block (a := ⟨sb, q, none⟩) f2).trans (HH.out.setCell hlt)
      have hqz : (q : Int) < (n1 : Int) := by omega
      have hst := hS.step hlt HH.out.apart (hokI q) (hlenS q)
      have HST := Lib.hid hst
      clear hst hS f1 f2
      go_wp2_with fail
      refine HST.out.mono ?_
      rintro e w9 ⟨rfl, hS9⟩
      go_wp2
      go_roundg (n1 - (q + 1))
      case measure => omega
      case rel => exact ⟨q + 1, by omega, rfl, by go_num, hS9⟩
    · obtain rfl : q = n1 := by omega
      have HSS := Lib.hid hS
      have HF2 := Lib.hid f2
      clear hS f1 f2
      go_wp2
      go_ret2
      have hn := HN1.out
      have hcs := own_cap HH.out.sets
      have haw := HSS.out.away
      have hw := HW4.out
      have hwz := HW2.out
      have hlo := HSZ.out
      have hown := own_same HH.out.sets (w' := wr) fun b hb => by
        have : sb = b := by simpa [Value.ownBlock] using hb
        subst this; exact HF2.out
      have hFl : ∀ k, k < q → ∀ b, (hdE h S k).ownBlock = some b → w.heap.size ≤ b := fun k hk b hb => by
        have := own_base' (HH.out.each k hk) b hb; omega
      have hsb : w.heap.size ≤ sb := by have := own_base' HH.out.sets sb rfl; omega
      refine ⟨some ⟨sb, 0, none⟩, sc, by show Ending.returned (.tuple #[.slice (some ⟨sb, 0, none⟩) q sc, .int .i64 0]) = _; rw [hn], ⟨haw.os.trans hw.os, haw.tape.trans hw.tape, haw.output.trans hw.output, Nat.le_trans hw.size haw.size, fun j hj => (haw.block j (by have := hw.size; omega) fun ⟨k, hk, he⟩ => ?_).trans (hw.block j hj)⟩, by omega, ?_⟩
      · have := hFl k hk j he; omega
      · rw [HSETS.out]
        refine ⟨some ⟨sb, 0, none⟩, sc, by simp [hn], by simp; omega, fun k hk => ?_⟩
        have hk2 : k < q := by simpa using hk
        obtain ⟨l1, l2⟩ := HSS.out.done k hk2 hk2
        refine ⟨sb, 0, rfl, hsb, own_lt hown sb rfl, hsb, (h k).1, (h k).2, ?_, ?_, ?_⟩
        · have := (World.cell?_of_block (a := ⟨sb, k, none⟩) HF2.out).trans (HH.out.setCell hk2)
          simpa [List.length_mergeSort, Elt.sl] using this
        · simpa [List.length_mergeSort] using l1
        · simpa using l2.weak fun b hb => hFl k hk2 b hb
end Go.Proofs.Ytcndbohiiodndaa

open Go Go.RowKit
namespace Go.Proofs.Ytcndbohiiodndaa

/-! ### package earley: the ends out of the sets -/
def endPut (E : Nat → Nat → Nat) (a b v : Nat) : Nat → Nat → Nat := fun a' b' => if a' = a ∧ b' = b then v else E a' b'
def endOne (g : Gram) (k : Nat) (z : EItem) (E : Nat → Nat → Nat) : Nat → Nat → Nat :=
  match g.rules[z.1]? with
  | some r => if z.2.1 = r.r.length then endPut E r.l.toNat z.2.2 (E r.l.toNat z.2.2 ||| 2 ^ k) else E
  | none => E
def endAt (g : Gram) (k : Nat) (l : List EItem) (E : Nat → Nat → Nat) : Nat → Nat → Nat → Nat
  | 0 => E
  | m + 1 => match l[m]? with
    | some z => endOne g k z (endAt g k l E m)
    | none => endAt g k l E m
def endsTo (g : Gram) (S : ESets) : Nat → Nat → Nat → Nat
  | 0 => fun _ _ => 0
  | k + 1 => endAt g k (S k) (endsTo g S k) (S k).length

theorem endOne_bit {g : Gram} {k : Nat} {z : EItem} {E : Nat → Nat → Nat} {a b j : Nat} (h : (endOne g k z E a b).testBit j = true) :
    (E a b).testBit j = true ∨ (j = k ∧ ∃ r, g.rules[z.1]? = some r ∧ z.2.1 = r.r.length ∧ r.l.toNat = a ∧ z.2.2 = b) := by
  unfold endOne at h
  cases hr : g.rules[z.1]? with
  | none => rw [hr] at h; exact .inl h
  | some r =>
    rw [hr] at h
    simp only at h
    by_cases hd : z.2.1 = r.r.length
    · rw [if_pos hd] at h
      unfold endPut at h
      by_cases hab : a = r.l.toNat ∧ b = z.2.2
      · rw [if_pos hab, Nat.testBit_or, Bool.or_eq_true, Nat.testBit_two_pow] at h
        rcases h with h | h
        · rw [hab.1, hab.2]; exact .inl h
        · exact .inr ⟨(by simpa using h : k = j).symm, r, rfl, hd, hab.1.symm, hab.2.symm⟩
      · rw [if_neg hab] at h; exact .inl h
    · rw [if_neg hd] at h; exact .inl h
theorem endAt_bit {g : Gram} {k : Nat} {l : List EItem} {E : Nat → Nat → Nat} {a b j : Nat} : ∀ m, (endAt g k l E m a b).testBit j = true →
    (E a b).testBit j = true ∨ (j = k ∧ ∃ z ∈ l, ∃ r, g.rules[z.1]? = some r ∧ z.2.1 = r.r.length ∧ r.l.toNat = a ∧ z.2.2 = b)
  | 0, h => .inl h
  | m + 1, h => by
    unfold endAt at h
    cases hm : l[m]? with
    | none => rw [hm] at h; exact endAt_bit m h
    | some z =>
      rw [hm] at h
      rcases endOne_bit h with h | ⟨h1, h2⟩
      · exact endAt_bit m h
      · exact .inr ⟨h1, z, List.mem_of_getElem? hm, h2⟩
theorem endsTo_bit {g : Gram} {S : ESets} {a b j : Nat} : ∀ k, (endsTo g S k a b).testBit j = true →
    j < k ∧ ∃ z ∈ S j, ∃ r, g.rules[z.1]? = some r ∧ z.2.1 = r.r.length ∧ r.l.toNat = a ∧ z.2.2 = b
  | 0, h => by simp [endsTo] at h
  | k + 1, h => by
    rcases endAt_bit _ h with h | ⟨rfl, h⟩
    · obtain ⟨h1, h2⟩ := endsTo_bit k h
      exact ⟨by omega, h2⟩
    · exact ⟨by omega, h⟩
theorem lt_of_bits {v k : Nat} (h : ∀ j, v.testBit j = true → j < k) : v < 2 ^ k :=
  Nat.lt_pow_two_of_testBit v fun j hj => by
    cases hb : v.testBit j with
    | false => rfl
    | true => have := h j hb; omega
theorem endAt_lt {g : Gram} {S : ESets} {k : Nat} (m a b : Nat) : endAt g k (S k) (endsTo g S k) m a b < 2 ^ (k + 1) :=
  lt_of_bits fun j hj => by
    rcases endAt_bit _ hj with h | ⟨rfl, _⟩
    · have := (endsTo_bit k h).1; omega
    · omega

/-- the ends are sound -/
theorem ends_sound {g : Gram} {x : List Int} {S : ESets} (hv : Valid g) (ho : EOk g x S) (N : Nat) : Sound g x (matOf (endsTo g S (x.length + 1)) (x.length + 1) N) := by
  intro n i j hn hb
  rw [entry_matOf] at hb
  split at hb
  · obtain ⟨hj, z, hz, r, hr, hd, hl, hf⟩ := endsTo_bit _ hb
    obtain ⟨r', hr', _, hdv⟩ := ho.ok j z hz
    rw [hr] at hr'
    injection hr' with hr'
    subst hr'
    rw [hd, List.take_length, hf] at hdv
    have h0 := (hv.ok r (List.mem_of_getElem? hr)).l0
    have : r.l = n := by omega
    exact .non (List.mem_of_getElem? hr) this hdv (.nil _ (drv_le hdv).2)
  · simp at hb

theorem doub_sets1 : (fillE doubG [0] 1).length = 4 := by decide +kernel
theorem doub_endsM : matOf (endsTo doubG (fillE doubG [0, 0]) 3) 3 1 = doubM := by decide +kernel
end Go.Proofs.Ytcndbohiiodndaa

open Go Go.RowKit
namespace Go.Proofs.Ytcndbohiiodndaa

/-- the rows of ends, all of them made, wherever the memory has grown since -/
structure EFill (W wr : World) (L N : Nat) (E : Nat → Nat → Nat) : Prop where
  below : Below W.heap.size W wr
  of_ : wr.heap[W.heap.size]? = some (.cells ((List.range N).map (fun n => (.slice (some ⟨W.heap.size + 1 + n, 0, none⟩) L L : Value))).toArray 195 (0, 0))
  row : ∀ n, n < N → wr.heap[W.heap.size + 1 + n]? = some (.cells ((List.range L).map (fun i => Value.int .u32 (E n i : Nat))).toArray 196 (0, 0))
  size : W.heap.size + 1 + N ≤ wr.heap.size

section
variable {W wr w' : World} {L N k : Nat} {E E' : Nat → Nat → Nat}
theorem EFill.of (h : EndsSt W wr L N N E) : EFill W wr L N E := by
  refine ⟨h.below, ?_, h.row, by rw [h.size]; exact Nat.le_refl _⟩
  rw [h.of_]
  congr 3
  apply List.map_congr_left
  intro n hn
  rw [if_pos (by simpa using hn)]
theorem EFill.keep (h : EFill W wr L N E) (hb : Below wr.heap.size wr w') : EFill W w' L N E :=
  have hs := h.size
  ⟨h.below.trans (hb.mono h.below.size), blk_below hb (by omega) h.of_, fun n hn => blk_below hb (by omega) (h.row n hn), Nat.le_trans hs hb.size⟩
theorem EFill.set (h : EFill W wr L N E) {n i : Nat} (hn : n < N) (v : Nat) : EFill W (wr.setCell ⟨W.heap.size + 1 + n, i, none⟩ (.int .u32 v)) L N (endPut E n i v) := by
  have hs := h.size
  refine ⟨h.below.setCell (by show W.heap.size ≤ W.heap.size + 1 + n; omega) _, ?_, fun a ha => ?_, by rw [size_setCell]; exact hs⟩
  · rw [heap_set_ne (by omega)]; exact h.of_
  · unfold endPut
    by_cases e : a = n
    · subst e
      rw [heap_set (h.row _ ha)]
      congr 2
      apply Array.ext'
      simp only [Array.toList_setIfInBounds]
      apply List.ext_getElem?
      intro j
      rw [List.getElem?_set]
      by_cases hj : i = j
      · subst hj
        by_cases hi : i < L
        · simp [hi]
        · simp [hi]
      · simp only [hj, if_false, List.getElem?_map]
        cases hr : (List.range L)[j]? with
        | none => rfl
        | some v =>
          have hv : v = j := by
            obtain ⟨_, h2⟩ := List.getElem?_eq_some_iff.1 hr
            simp at h2; exact h2.symm
          subst hv
          simp [show ¬ v = i from fun e => hj e.symm]
    · rw [heap_set_ne (by omega), h.row a ha]
      congr 3
      apply List.map_congr_left
      intro b _
      rw [if_neg (fun hh => e hh.1)]
theorem EFill.isSl (h : EFill W wr L N E) (hN : N ≤ 10) (hL : L ≤ 13) : IsSl (Elt.sl Elt.u32) (fun b => W.heap.size ≤ b) wr (.slice (some ⟨W.heap.size, 0, none⟩) N N) (matOf E L N) := by
  have hML : (matOf E L N).length = N := by simp [matOf]
  refine ⟨_, N, by rw [hML], by omega, fun n hn => ⟨W.heap.size, 0, rfl, Nat.le_refl _, blk_lt h.of_, Nat.le_refl _, some ⟨W.heap.size + 1 + n, 0, none⟩, L, blk_cell h.of_ ?_, ?_, ?_⟩⟩
  · simp [Elt.sl, show n < N by omega, matOf]
  · simp [matOf]
  · have hrk := h.row n (by omega)
    have hrk2 : wr.heap[W.heap.size + 1 + n]? = some (.cells (((matOf E L N)[n]).map (fun n : Nat => Value.int .u32 n)).toArray 196 (0, 0)) := by rw [hrk]; simp [matOf]
    refine sl_of_blk (enc := fun n : Nat => Value.int .u32 n) _ (by omega) hrk2 rfl ?_
    simp [matOf]; omega
end

/-- what earley.Forest gives -/
def EForEnd (w w' : World) (e : Ending) (g : Gram) (x : List Int) (M : List (List Nat)) : Prop :=
  ∃ Q cn, e = .returned (.tuple #[.agg #[.slice Q (madeF g x M).1.nodes.length cn, .int .i64 (madeF g x M).1.root], .int .i64 (madeF g x M).2]) ∧ Below w.heap.size w w' ∧ IsSl Elt.node (fun b => w.heap.size ≤ b) w' (.slice Q (madeF g x M).1.nodes.length cn) (madeF g x M).1.nodes

set_option maxRecDepth 100000 in
set_option maxHeartbeats 8000000 in
theorem eforest_any (F : Nat → Prop) (g : Gram) (x : List Int) (A : Option Addr) (c : Nat) (B : Option Addr) (d : Nat) (w : World) (hr : IsSl Elt.rule F w (.slice A g.rules.length c) g.rules) (hx : IsSl Elt.int F w (.slice B x.length d) x) (hv : Valid g) (hcap : g.rules.length ≤ c) (hok : OkWord g x) (hm : x.length ≤ 12) :
    Calls Try.prog 86 #[gramV g (.slice A g.rules.length c), .slice B x.length d] w fun e w' => EForEnd w w' e g x (matOf (endsTo g (fillE g x) (x.length + 1)) (x.length + 1) g.nons.toNat) := by
  obtain ⟨N, hN⟩ : ∃ N : Nat, g.nons = N := ⟨g.nons.toNat, by have := hv.n1; omega⟩
  have hN10 : N ≤ 10 := by have := hv.n10; omega
  have hmkN : ∀ w : World, (Instr.makeSlice 186 (.int .i64 g.nons) (.int .i64 g.nons)).run Try.prog w = .ok (.slice (some ⟨w.heap.size, 0, none⟩) N N) (w.alloc (.cells (madeCells #[.slice none 0 0] N) 195)) := by
    rw [hN]
    exact run_make_row' (P := Try.prog) 186 195 (.slice none 0 0) 24 Try.underlying186 Try.infoU32s rfl .i64 .i64 N (by omega) (by omega)
  have hmkL := run_make_row' (P := Try.prog) 195 196 (.int .u32 0) 4 Try.underlying195 Try.infoU32 rfl .i64 .i64 (x.length + 1) (by omega) (by omega)
  simp only [Int.natCast_add, Int.natCast_one] at hmkL
  have hNt : g.nons.toNat = N := by omega
  rw [hNt]
  have HN := Lib.hid hN
  clear hN hNt
  unfold gramV
  have hb2 := below2 w (.cells #[.int .i64 g.terms, .int .i64 g.nons, .int .i64 g.start, .slice A g.rules.length c] 25) (.cells #[.slice none 0 0, .int .i64 0] 101)
  have hck := echeck_ok F g A g.rules.length c x B x.length d _ (hr.below hb2) hv hcap (hx.below hb2) hok hm
  unfold gramV at hck
  have HCK := Lib.hid hck
  clear hck
  go_enter Try.func86, Try.ntmps86
  go_wp2_with fail
  have hw2 := blk_new1 (w := w) rfl (.cells #[.int .i64 g.terms, .int .i64 g.nons, .int .i64 g.start, .slice A g.rules.length c] 25) (.cells #[.slice none 0 0, .int .i64 0] 101)
  have hf2 := blk_new' (w := w.alloc (.cells #[.int .i64 g.terms, .int .i64 g.nons, .int .i64 g.start, .slice A g.rules.length c] 25)) (World.size_alloc _ _) (.cells #[.slice none 0 0, .int .i64 0] 101)
  refine HCK.out.mono ?_
  rintro e w2 ⟨rfl, hb3⟩
  have hg2 := blk_below hb3 (blk_lt hw2) hw2
  have hf3 := blk_below hb3 (blk_lt hf2) hf2
  have hw3 : Below w.heap.size w w2 := hb2.trans (hb3.mono hb2.size)
  have hr2 := hr.below hw3
  have hx2 := hx.below hw3
  have h0 := blk_cell hg2 (i := 0) rfl
  have h1 := blk_cell hg2 (i := 1) rfl
  have h2 := blk_cell hg2 (i := 2) rfl
  have h3 := blk_cell hg2 (i := 3) rfl
  clear HCK hb3 hb2 hr hx hw2 hf2
  go_wp2_with fail
  clear h0 h1 h2 h3
  obtain ⟨n1, hn1⟩ : ∃ n1, n1 = x.length + 1 := ⟨_, rfl⟩
  have hbB := below1 w2 (.cells #[.int .i64 g.terms, .int .i64 g.nons, .int .i64 g.start, .slice A g.rules.length c, .slice B x.length d, .slice none 0 0, .slice none 0 0] 146)
  have hfill := fill_any g x A c B d n1 w2.heap.size (w2.alloc (.cells #[.int .i64 g.terms, .int .i64 g.nons, .int .i64 g.start, .slice A g.rules.length c, .slice B x.length d, .slice none 0 0, .slice none 0 0] 146)) (heap_alloc_new _ _) ((hr2.old.below hbB).weak fun b hb => hb.2) ((hx2.old.below hbB).weak fun b hb => hb.2) hv hm hn1
  refine hfill.mono ?_
  rintro e w4 ⟨rfl, D, sb, sc, ib, ic, h, r, haw, H⟩
  have hsz := World.size_alloc w2 (.cells #[.int .i64 g.terms, .int .i64 g.nons, .int .i64 g.start, .slice A g.rules.length c, .slice B x.length d, .slice none 0 0, .slice none 0 0] 146)
  have hk4 : ∀ b o, w2.heap[b]? = some o → w4.heap[b]? = some o := fun b o ho => by
    have hl := blk_lt ho
    refine (haw.block b (by omega) (show ¬ b = w2.heap.size by omega)).trans ?_
    rw [Below.heap_alloc _ _ _ hl]; exact ho
  have hw4 : Below w.heap.size w w4 := by
    refine (hw3.trans (hbB.mono hw3.size)).trans ⟨haw.os, haw.tape, haw.output, haw.size, fun j hj => haw.block j (by have := hw3.size; omega) ?_⟩
    have := hw3.size
    show ¬ j = w2.heap.size
    omega
  have hg4 := hk4 _ _ hg2
  have hf4 := hk4 _ _ hf3
  clear hfill hbB haw hr2 hx2 hg2 hf3 hk4 hw3
  generalize (w2.alloc (.cells #[.int .i64 g.terms, .int .i64 g.nons, .int .i64 g.start, .slice A g.rules.length c, .slice B x.length d, .slice none 0 0, .slice none 0 0] 146)).heap.size = lo at H hsz
  have hokS : EOk g x (fillE g x) := fillTo_ok _
  have hlenS : ∀ k, (fillE g x k).length ≤ 5000 := fun k => by have := hokS.len hv hm k; unfold maxE at this; omega
  obtain ⟨S, hS⟩ : ∃ S, fillE g x = S := ⟨_, rfl⟩
  rw [hS] at H hokS
  simp only [hS] at hlenS
  have HS := Lib.hid hS
  clear hS
  have kn := blk_cell hg4 (i := 1) rfl
  have HN1 := Lib.hid hn1
  clear hn1 hsz
  have HH := Lib.hid H
  clear H
  go_wp2_with fail
  clear kn hmkN
  have hE0 := EndsSt.start w4 (x.length + 1) N (fun _ _ => 0)
  go_loopg [33] N (fun gk v wr => ∃ n : Nat, n ≤ N ∧ gk = N - n ∧ v = .int .i64 n ∧ EndsSt w4 wr (x.length + 1) N n (fun _ _ => 0))
  case atStart => exact ⟨0, by omega, by omega, rfl, hE0⟩
  case round =>
    clear hE0
    obtain ⟨n, hn, rfl, rfl, hE⟩ := hrel
    by_cases hlt : n < N
    · have hnz : (n : Int) < (N : Int) := by omega
      have hsz := hE.size
      have hst1 : ∀ o, (wr.alloc o).cell? ⟨w4.heap.size, n, none⟩ = some (.slice none 0 0) := fun o => by
        rw [World.cell?_alloc_old _ _ _ (by show w4.heap.size ≠ wr.heap.size; omega)]
        exact blk_cell hE.of_ (by simp [hlt])
      have hst2 : ∀ o, (wr.alloc o).frozen? ⟨w4.heap.size, n, none⟩ = false := fun o => by
        rw [World.frozen?_of_block (w := wr) (Below.heap_alloc wr o _ (by show w4.heap.size < wr.heap.size; omega))]
        exact blk_free hE.of_
      have hE1 := hE.more hlt (fun i _ => rfl)
      have HSZ := Lib.hid hsz
      clear hsz hE
      go_wp2
      go_roundg (N - (n + 1))
      case measure => omega
      case rel => exact ⟨n + 1, by omega, rfl, by go_num, hE1⟩
    · obtain rfl : n = N := by omega
      have hF0 : EFill w4 wr (x.length + 1) n (endsTo g S 0) := EFill.of hE
      have c5 := blk_cell (HH.out.below hE.below).blk (i := 5) rfl
      clear hE hmkL hlt
      go_wp2_with fail
      clear c5
      go_loopg [49] n1 (fun gk v wr => ∃ k, k ≤ n1 ∧ gk = n1 - k ∧ v = .int .i64 k ∧ EFill w4 wr (x.length + 1) n (endsTo g S k))
      case atStart => exact ⟨0, by omega, by omega, rfl, hF0⟩
      case round =>
        clear hF0
        obtain ⟨k, hk, rfl, rfl, hE⟩ := hrel
        by_cases hlt : k < n1
        · have hkz : (k : Int) < (n1 : Int) := by omega
          have hk12 : k ≤ 12 := by have := HN1.out; omega
          have cs := (HH.out.below hE.below).setCell hlt
          obtain ⟨A8, hA8⟩ : ∃ A8, (h k).1 = A8 := ⟨_, rfl⟩
          rw [hA8] at cs
          have HA8 := Lib.hid hA8
          have hE' : EFill w4 wr (x.length + 1) n (endAt g k (S k) (endsTo g S k) 0) := hE
          clear hA8 hE
          go_wp2_with fail
          clear cs
          go_loopg [56] (S k).length (fun gk v wr => ∃ m, m ≤ (S k).length ∧ gk = (S k).length - m ∧ v = .int .i64 m ∧ EFill w4 wr (x.length + 1) n (endAt g k (S k) (endsTo g S k) m))
          case atStart => exact ⟨0, by omega, by omega, rfl, hE'⟩
          case round =>
            clear hE'
            obtain ⟨m, hm2, rfl, rfl, hE⟩ := hrel
            by_cases hlt2 : m < (S k).length
            · have hm64 : m ≤ 5000 := by have := hlenS k; omega
              have hmz : (m : Int) < ((S k).length : Int) := by omega
              have H4 := HH.out.below hE.below
              obtain ⟨b8, e8, d0, d1, d2⟩ := H4.itemAt hlt hlt2
              rw [HA8.out] at e8
              subst e8
              have hza : (S k)[m]? = some (S k)[m] := List.getElem?_eq_getElem hlt2
              have hnext : endAt g k (S k) (endsTo g S k) (m + 1) = endOne g k (S k)[m] (endAt g k (S k) (endsTo g S k) m) := by
                show (match (S k)[m]? with | some z => _ | none => _) = _
                rw [hza]
              obtain ⟨r0, hr0, hdl, hdv⟩ := hokS.ok k _ (List.getElem_mem hlt2)
              have hlt13 := fun a b => endAt_lt (g := g) (S := S) (k := k) m a b
              generalize (S k)[m] = z at d0 d1 d2 hnext hr0 hdl hdv
              generalize endAt g k (S k) (endsTo g S k) m = E at hE hnext hlt13
              obtain ⟨z1, z2, z3⟩ := z
              simp only at d0 d1 d2 hr0 hdl hdv
              have hz3 := (drv_le hdv).1
              have hkx := (drv_le hdv).2
              obtain ⟨hz1, hz2⟩ := List.getElem?_eq_some_iff.1 hr0
              obtain ⟨b, o, e5, hF5, hl5, hc11, A5, c5', hc12, hsy5⟩ := H4.rules.ruleAt z1 hz1
              subst e5
              rw [hz2] at hc11 hc12 hsy5
              have hokr := hv.ok r0 (List.mem_of_getElem? hr0)
              obtain ⟨a, ha⟩ : ∃ a : Nat, r0.l = a := ⟨r0.l.toNat, by have := hokr.l0; omega⟩
              have haN : a < n := by have := hokr.l1; have := HN.out; omega
              have hlr := hokr.len
              rw [ha] at hc11
              have hone : endOne g k (z1, z2, z3) E = if z2 = r0.r.length then endPut E a z3 (E a z3 ||| 2 ^ k) else E := by
                unfold endOne
                rw [hr0]
                simp only [ha, Int.toNat_natCast]
              rw [hone] at hnext
              have hgr := blk_below hE.below (blk_lt hg4) hg4
              have kr := blk_cell hgr (i := 3) rfl
              have hgl := blk_lt hgr
              have hz1z : (z1 : Int) < (g.rules.length : Int) := by omega
              have hEk : ∀ o o', EFill w4 ((wr.alloc o).alloc o') (x.length + 1) n E := fun o o' => hE.keep (below2 wr o o')
              have HE := Lib.hid hE
              clear hone hr0 hz2 hza hdv H4 hE hF5 hsy5 hgr
              by_cases hd : z2 = r0.r.length
              · rw [if_pos hd] at hnext
                have hq2 : ((z2 : Int) == (r0.r.length : Int)) = true := by simp [hd]
                have hh1 : ∀ o o', ((wr.alloc o).alloc o').cell? ⟨w4.heap.size, a, none⟩ = some (.slice (some ⟨w4.heap.size + 1 + a, 0, none⟩) (x.length + 1) (x.length + 1)) := fun o o' => blk_cell (hEk o o').of_ (by simp [haN])
                have hh2 : ∀ o o', ((wr.alloc o).alloc o').cell? ⟨w4.heap.size + 1 + a, z3, none⟩ = some (.int .u32 (E a z3 : Nat)) := fun o o' => blk_cell ((hEk o o').row a haN) (by simp [show z3 < x.length + 1 by omega])
                have hh3 : ∀ o o', ((wr.alloc o).alloc o').frozen? ⟨w4.heap.size + 1 + a, z3, none⟩ = false := fun o o' => blk_free ((hEk o o').row a haN)
                have hcl : E a z3 < 2 ^ 32 := Nat.lt_of_lt_of_le (hlt13 a z3) (Nat.pow_le_pow_right (by omega) (by omega))
                have hpl : 2 ^ k < 2 ^ 32 := pow_lt13 (by omega)
                have hpw := pow_mod13 (k := k) (by omega)
                have hor := u32_or_nat (E a z3) (2 ^ k) hcl hpl
                have haz : (a : Int) < (n : Int) := by omega
                have hz3z : (z3 : Int) < (x.length : Int) + 1 := by omega
                have HEK := Lib.hid hEk
                have HNX := Lib.hid hnext
                generalize E a z3 ||| 2 ^ k = vv at hor HNX
                generalize E a z3 = cc at hor hh2 hcl
                generalize 2 ^ k = pp at hor hpl hpw
                clear hEk hnext hlt13 hd hdl ha
                go_wp2_with fail
                go_region
                go_wp2_with fail
                go_roundg ((S k).length - (m + 1))
                case measure => omega
                case rel => exact ⟨m + 1, by omega, rfl, by go_num, by rw [HNX.out]; exact EFill.keep (EFill.set (EFill.keep HE.out (below2 _ _ _)) haN vv) (Below.refl _ _).drew⟩
              · rw [if_neg hd] at hnext
                have hq2 : ((z2 : Int) == (r0.r.length : Int)) = false := by simp; omega
                have HNX := Lib.hid hnext
                clear hEk hnext hlt13 ha
                go_wp2_with fail
                go_roundg ((S k).length - (m + 1))
                case measure => omega
                case rel => exact ⟨m + 1, by omega, rfl, by go_num, by rw [HNX.out]; refine EFill.keep HE.out ?_; first | exact below2 _ _ _ | exact (below2 _ _ _).drew | exact below_drewN (below2 _ _ _) _⟩
            · obtain rfl : m = (S k).length := by omega
              go_wp2_with fail
              go_roundg (n1 - (k + 1))
              case measure => omega
              case rel => exact ⟨k + 1, by omega, rfl, by go_num, hE⟩
        · obtain rfl : k = n1 := by omega
          have hbw := hE.below
          have hsl := hE.isSl hN10 (show x.length + 1 ≤ 13 by omega)
          have hlo := hw4.size
          have hg6 := blk_below hbw (blk_lt hg4) hg4
          have hf6 := blk_below hbw (blk_lt hf4) hf4
          have hw6 : Below w.heap.size w wr := hw4.trans (hbw.mono hw4.size)
          have hkx := HN1.out
          rw [hkx] at hsl
          have hso := ends_sound hv hokS n
          have hML : (matOf (endsTo g S (x.length + 1)) (x.length + 1) n).length = n := by simp [matOf]
          have hsh : MShape g x (matOf (endsTo g S (x.length + 1)) (x.length + 1) n) := by
            refine ⟨by simp [matOf, HN.out], fun r hr => ?_, fun r hr v hv => ?_⟩
            · unfold matOf at hr
              obtain ⟨i, _, rfl⟩ := List.mem_map.1 hr
              simp
            · unfold matOf at hr
              obtain ⟨i, _, rfl⟩ := List.mem_map.1 hr
              obtain ⟨j, _, rfl⟩ := List.mem_map.1 hv
              exact Nat.lt_of_lt_of_le (lt_of_bits (k := x.length + 1) fun q hq => (endsTo_bit _ hq).1) (Nat.pow_le_pow_right (by omega) (by omega))
          have hbd := build_any (C := some ⟨w4.heap.size, 0, none⟩) (q := n) (fun _ => True) hv hm wr hcap hok ((HH.out.rules.below hbw).weak fun _ _ => trivial) ((HH.out.word.below hbw).weak fun _ _ => trivial) (by rw [hML]; exact hsl.weak fun _ _ => trivial) hsh (sound_low hso) (sound_short hso (entry_neg _))
          rw [hML] at hbd
          unfold gramV at hbd
          have k0 := blk_cell hg6 (i := 0) rfl
          have k1 := blk_cell hg6 (i := 1) rfl
          have k2 := blk_cell hg6 (i := 2) rfl
          have k3 := blk_cell hg6 (i := 3) rfl
          obtain ⟨M2, hM2⟩ : ∃ M2, matOf (endsTo g S (x.length + 1)) (x.length + 1) n = M2 := ⟨_, rfl⟩
          rw [hM2] at hbd
          have HM2 := Lib.hid hM2
          clear hM2
          have HW6 := Lib.hid hw6
          clear hE hsl hML hsh hso hbw hw4 hw6 hkx hk hlt
          go_wp2_with fail
          with_reducible refine hbd.mono ?_
          rintro e7 w7 ⟨Q, cn, rfl, hb7, hsl7⟩
          have hw6 := HW6.out
          have hf7 := blk_below hb7 (blk_lt hf6) hf6
          have hw7 := hw6.trans (hb7.mono hw6.size)
          have hg0 : w7.frozen? ⟨w.heap.size + 1, 0, none⟩ = false := blk_free hf7
          have hg1 : w7.frozen? ⟨w.heap.size + 1, 1, none⟩ = false := blk_free hf7
          have hd0 := blk_cell hf7 (i := 0) rfl
          have hd1 := blk_cell hf7 (i := 1) rfl
          have HFF := Lib.hid (show madeF g x M2 = madeF g x M2 from rfl)
          have hfin : ∀ u v, ((w7.setCell ⟨w.heap.size + 1, 0, none⟩ u).setCell ⟨w.heap.size + 1, 1, none⟩ v).heap[w.heap.size + 1]? = some (.cells #[u, v] 101 (0, 0)) := fun u v => by
            rw [heap_set (heap_set hf7 _ _)]; rfl
          have hlf := blk_lt hf6
          have hkp : ∀ u v b, b ≠ w.heap.size + 1 → ((w7.setCell ⟨w.heap.size + 1, 0, none⟩ u).setCell ⟨w.heap.size + 1, 1, none⟩ v).heap[b]? = w7.heap[b]? := fun u v b hb => by rw [heap_set_ne hb, heap_set_ne hb]
          have hsl8 := fun u v => hsl7.keep (w' := (w7.setCell ⟨w.heap.size + 1, 0, none⟩ u).setCell ⟨w.heap.size + 1, 1, none⟩ v) (fun b hb => hkp u v b (by have hb : wr.heap.size ≤ b := hb; omega)) (by rw [size_setCell, size_setCell]; exact Nat.le_refl _)
          clear hbd hf6 k0 k1 k2 k3 hf7 hg6 hw6 HW6 hf4 hg4
          go_wp2_with fail
          refine bodyPost_ret (results_cell_tmp rfl rfl (run_loadVar_row _ (w.heap.size + 1) 101 101 #[.slice Q (madeF g x M2).1.nodes.length cn, .int .i64 (madeF g x M2).1.root] (0, 0) _ (hfin _ _) Try.underlying101 rfl (by kernel_rfl))) rfl ?_
          rw [HS.out, HM2.out]
          refine ⟨Q, cn, by kernel_rfl, ?_, ?_⟩
          · exact (hw7.setCell (p := ⟨w.heap.size + 1, 0, none⟩) (by show w.heap.size ≤ w.heap.size + 1; omega) _).setCell (p := ⟨w.heap.size + 1, 1, none⟩) (by show w.heap.size ≤ w.heap.size + 1; omega) _
          · exact IsSl.weak (F := fun b => wr.heap.size ≤ b) (fun b hb => by have hb : wr.heap.size ≤ b := hb; have := hw7.size; omega) (hsl8 _ _)
end Go.Proofs.Ytcndbohiiodndaa

open Go Go.RowKit
namespace Go.Proofs.Ytcndbohiiodndaa

theorem IsSl.setAt {F : Nat → Prop} {w : World} {A : Option Addr} {n c : Nat} {xs : List (List EItem)} (h : IsSl Elt.eitem.sl F w (.slice A n c) xs) (k : Nat) (hk : k < xs.length) :
    ∃ b o A' c', A = some ⟨b, o, none⟩ ∧ F b ∧ b < w.heap.size ∧ w.cell? ⟨b, o + k, none⟩ = some (.slice A' xs[k].length c') ∧ IsSl Elt.eitem F w (.slice A' xs[k].length c') xs[k] := by
  obtain ⟨A0, c0, he, hl, h⟩ := h
  injection he with h1 h2 h3
  subst h1
  obtain ⟨b, o, rfl, hb, hlt, _, A', c', h4, _, h5⟩ := h k hk
  refine ⟨b, o, A', c', rfl, hb, hlt, ?_, h5⟩
  simpa [Elt.sl] using h4

set_option maxRecDepth 100000 in
set_option maxHeartbeats 1600000 in
theorem sets_any (w : World) : Calls Try.prog 33 #[] w fun e w' => e = .returned (.bool true) ∧ Below w.heap.size w w' := by
  have hok1 : OkWord doubG [0] := by
    intro t ht
    simp at ht
    subst ht
    exact ⟨by decide, by decide⟩
  have hok2 : OkWord doubG [0, 0] := by
    intro t ht
    simp at ht
    subst ht
    exact ⟨by decide, by decide⟩
  go_enter Try.func33, Try.ntmps33
  go_wp2_with fail
  refine (doubling_any w).mono ?_
  rintro e1 w1 ⟨A, rfl, hb1, hr1⟩
  have hxA := zeros_sl (w := w1) (l := [0]) 3 rfl (by decide)
  have hbA := below1 w1 (.cells (([0] : List Int).map (Value.int .i64)).toArray 3)
  have hse := esets_any (fun _ => True) doubG [0] A 2 (some ⟨w1.heap.size, 0, none⟩) 1 _ ((hr1.below hbA).weak fun _ _ => trivial) (hxA.weak fun _ _ => trivial) doub_valid (by decide) hok1 (by decide)
  have hwA := hb1.trans (hbA.mono hb1.size)
  unfold gramV at hse ⊢
  clear hxA hr1
  go_wp2_with fail
  refine hse.mono ?_
  rintro e2 w2 ⟨Q, cq, rfl, hb2, hcq, hs2⟩
  have hw2 := hwA.trans (hb2.mono hwA.size)
  have hl1 : 1 < (setsOf doubG [0]).length := by simp [setsOf]
  have hl4 : ((setsOf doubG [0])[1]).length = 4 := by
    simp only [setsOf, List.getElem_map, List.getElem_range, List.length_mergeSort]
    exact doub_sets1
  obtain ⟨qb, qo, A', c', rfl, _, hql, hq1, hqq⟩ := hs2.setAt 1 hl1
  rw [hl4] at hq1
  clear hqq hl4 hse hs2 hwA hbA hb1 hb2 hl1
  go_wp2_with fail
  refine (doubling_any _).mono ?_
  rintro e3 w3 ⟨A3, rfl, hb3, hr3⟩
  have hq3 := (hb3.cell (p := ⟨qb, qo + 1, none⟩) hql).trans hq1
  have hql3 : qb < w3.heap.size := Nat.lt_of_lt_of_le hql hb3.size
  have hw3 := hw2.trans (hb3.mono hw2.size)
  have hxB := zeros_sl (w := w3) (l := [0, 0]) 3 rfl (by decide)
  have hbC := below1 w3 (.cells (([0, 0] : List Int).map (Value.int .i64)).toArray 3)
  have hq4 := (hbC.cell (p := ⟨qb, qo + 1, none⟩) hql3).trans hq3
  have hw4 := hw3.trans (hbC.mono hw3.size)
  have hfo := eforest_any (fun _ => True) doubG [0, 0] A3 2 (some ⟨w3.heap.size, 0, none⟩) 2 _ ((hr3.below hbC).weak fun _ _ => trivial) (hxB.weak fun _ _ => trivial) doub_valid (by decide) hok2 (by decide)
  rw [show matOf (endsTo doubG (fillE doubG [0, 0]) (([0, 0] : List Int).length + 1)) (([0, 0] : List Int).length + 1) doubG.nons.toNat = doubM from doub_endsM] at hfo
  unfold gramV at hfo ⊢
  have hql4 : qb < (w3.alloc (.cells (([0, 0] : List Int).map (Value.int .i64)).toArray 3)).heap.size := by rw [World.size_alloc]; omega
  clear hxB hbC hb3 hr3 hq3 hw3 hw2 hq1
  go_wp2_with fail
  refine hfo.mono ?_
  rintro e5 w5 ⟨P, cp, rfl, hb5, hs5⟩
  have hq5 := (hb5.cell (p := ⟨qb, qo + 1, none⟩) hql4).trans hq4
  have hql5 : qb < w5.heap.size := Nat.lt_of_lt_of_le hql4 hb5.size
  have hw5 := hw4.trans (hb5.mono hw4.size)
  clear hfo hs5 hq4 hw4
  obtain ⟨hl0, hl5⟩ := doub_made
  generalize (madeF doubG [0, 0] doubM).1.nodes.length = ln at *
  generalize (madeF doubG [0, 0] doubM).1.root = rt at *
  generalize (madeF doubG [0, 0] doubM).2 = er at *
  subst hl0
  subst hl5
  have hbD := below1 w5 (.cells #[.slice P 5 cp, .int .i64 rt] 101)
  clear hb5
  go_wp2_with fail
  go_ret
  exact ⟨rfl, hw5.trans (hbD.mono hw5.size)⟩
end Go.Proofs.Ytcndbohiiodndaa

open Go Go.RowKit
namespace Go.Proofs.Ytcndbohiiodndaa

theorem IsSl.eitemAt {F : Nat → Prop} {w : World} {A : Option Addr} {n c : Nat} {xs : List EItem} (h : IsSl Elt.eitem F w (.slice A n c) xs) (k : Nat) (hk : k < xs.length) :
    ∃ b o, A = some ⟨b, o, none⟩ ∧ F b ∧ b < w.heap.size ∧ w.cell? ⟨b, o + k * 3, none⟩ = some (.int .i64 xs[k].1) ∧ w.cell? ⟨b, o + k * 3 + 1, none⟩ = some (.int .i64 xs[k].2.1) ∧ w.cell? ⟨b, o + k * 3 + 2, none⟩ = some (.int .i64 xs[k].2.2) := by
  obtain ⟨A', c', he, hl, h⟩ := h
  injection he with h1 h2 h3
  subst h1
  obtain ⟨b, o, rfl, hb, hlt, he⟩ := h k hk
  exact ⟨b, o, rfl, hb, hlt, he.1.2, he.2.1.2, he.2.2.2⟩

set_option maxRecDepth 100000 in
set_option maxHeartbeats 1600000 in
/-- slices.Equal of two readings of the same items -/
theorem equal_items (F F2 : Nat → Prop) (xs : List EItem) (A : Option Addr) (n c : Nat) (A2 : Option Addr) (n2 c2 : Nat) (w : World) (hx : IsSl Elt.eitem F w (.slice A n c) xs) (hy : IsSl Elt.eitem F2 w (.slice A2 n2 c2) xs) :
    Calls Try.prog 55 #[.slice A n c, .slice A2 n2 c2] w fun e w' => e = .returned (.bool true) ∧ Below w.heap.size w w' := by
  obtain ⟨rfl, hn⟩ := hx.len
  obtain ⟨rfl, hn2⟩ := hy.len
  go_enter Try.func55, Try.ntmps55
  go_wp2_with fail
  go_loopg [13] xs.length (fun gk i wr => ∃ q : Nat, q ≤ xs.length ∧ gk = xs.length - q ∧ i = .int .i64 q ∧ Below w.heap.size w wr)
  case atStart => exact ⟨0, by omega, by omega, rfl, Below.refl _ _⟩
  case round =>
    obtain ⟨q, hq, rfl, rfl, hb⟩ := hrel
    by_cases hlt : q < xs.length
    · obtain ⟨b, o, rfl, hF, hbl, c0, c1, c2'⟩ := (hx.below hb).eitemAt q hlt
      obtain ⟨b2, o2, rfl, hF2, hbl2, e0, e1, e2⟩ := (hy.below hb).eitemAt q hlt
      have hqz : (q : Int) < (xs.length : Int) := by omega
      generalize xs[q] = z at c0 c1 c2' e0 e1 e2
      obtain ⟨z1, z2, z3⟩ := z
      simp only at c0 c1 c2' e0 e1 e2
      have hsame : ∀ w : World, (Op.equal 63 (.agg #[.int .i64 z1, .int .i64 z2, .int .i64 z3]) (.agg #[.int .i64 z1, .int .i64 z2, .int .i64 z3])).run Try.prog w = .ok true w := fun w => by rw [Try.eqE]; simp
      go_wp2_with fail
      go_quiet (fail)
      go_wp2_with fail
      go_roundg (xs.length - (q + 1))
      case measure => omega
      case rel => exact ⟨q + 1, by omega, rfl, by go_num, below_drewN hb _⟩
    · obtain rfl : q = xs.length := by omega
      go_wp2_with fail
      go_ret
      exact ⟨rfl, hb⟩

theorem begins_same (F F2 : Nat → Prop) (xs : List EItem) (A : Option Addr) (n c : Nat) (A2 : Option Addr) (n2 c2 : Nat) (w : World) (hx : IsSl Elt.eitem F w (.slice A n c) xs) (hy : IsSl Elt.eitem F2 w (.slice A2 n2 c2) xs) :
    Calls Try.prog 54 #[.slice A n c, .slice A2 n2 c2] w fun e w' => e = .returned (.bool true) ∧ Below w.heap.size w w' := by
  have he := equal_items F F2 xs A n c A2 n2 c2 w hx hy
  go_enter Try.func54, Try.ntmps54
  go_wp2_with fail
  refine he.mono ?_
  rintro e w' ⟨rfl, hb⟩
  go_wp2_with fail
  go_ret
  exact ⟨rfl, hb⟩

set_option maxRecDepth 100000 in
set_option maxHeartbeats 1600000 in
/-- slices.EqualFunc of two readings of the same sets -/
theorem equal_sets (F F2 : Nat → Prop) (l : List (List EItem)) (A : Option Addr) (n c : Nat) (A2 : Option Addr) (n2 c2 : Nat) (w : World) (hx : IsSl Elt.eitem.sl F w (.slice A n c) l) (hy : IsSl Elt.eitem.sl F2 w (.slice A2 n2 c2) l) :
    Calls Try.prog 53 #[.slice A n c, .slice A2 n2 c2, .func (.func 54) #[] #[]] w fun e w' => e = .returned (.bool true) ∧ Below w.heap.size w w' := by
  obtain ⟨rfl, hn⟩ := hx.len
  obtain ⟨rfl, hn2⟩ := hy.len
  go_enter Try.func53, Try.ntmps53
  go_wp2_with fail
  go_loopg [17] l.length (fun gk i wr => ∃ q : Nat, q ≤ l.length ∧ gk = l.length - q ∧ i = .int .i64 q ∧ Below w.heap.size w wr)
  case atStart => exact ⟨0, by omega, by omega, rfl, Below.refl _ _⟩
  case round =>
    obtain ⟨q, hq, rfl, rfl, hb⟩ := hrel
    by_cases hlt : q < l.length
    · obtain ⟨b, o, A', c', rfl, hF, hbl, c0, hs1⟩ := (hx.below hb).setAt q hlt
      obtain ⟨b2, o2, A2', c2', rfl, hF2, hbl2, e0, hs2⟩ := (hy.below hb).setAt q hlt
      have hqz : (q : Int) < (l.length : Int) := by omega
      have he := begins_same _ _ _ _ _ _ _ _ _ wr hs1 hs2
      have HE := Lib.hid he
      clear he hs1 hs2
      generalize l[q].length = m at c0 e0 HE
      go_wp2_with fail
      refine HE.out.mono ?_
      rintro e w' ⟨rfl, hb2⟩
      go_wp2_with fail
      go_roundg (l.length - (q + 1))
      case measure => omega
      case rel => exact ⟨q + 1, by omega, rfl, by go_num, hb.trans (hb2.mono hb.size)⟩
    · obtain rfl : q = l.length := by omega
      go_wp2_with fail
      go_ret
      exact ⟨rfl, hb⟩
end Go.Proofs.Ytcndbohiiodndaa
