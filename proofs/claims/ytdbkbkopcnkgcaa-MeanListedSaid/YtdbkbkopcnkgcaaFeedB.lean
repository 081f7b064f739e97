import Derived.Test.YtdbkbkopcnkgcaaMeanD
import Derived.Test.YtdbkbkopcnkgcaaIter
import Derived.Maps.AppendAt
import Derived.Deep.AppendLies
open Go Go.RowKit
open Go.ChangeMaps (setBlock)
namespace Go.Proofs.Ytdbkbkopcnkgcaa

abbrev Item := Nat × Nat × Nat
def itemV (x : Item) : Value := .agg #[.int .i64 x.1, .int .i64 x.2.1, .int .i64 x.2.2]
theorem itemV_inj (a b : Item) (h : itemV a = itemV b) : a = b := by
  obtain ⟨a1, a2, a3⟩ := a
  obtain ⟨b1, b2, b3⟩ := b
  simp [itemV] at h
  obtain ⟨h1, h2, h3⟩ := h
  ext <;> simp <;> omega

theorem Try.fieldsItem : Try.prog.fieldsOf 173 = #[{ name := "rule", type := 3, offset := 0, embedded := false, tag := "", pkgPath := "parlance/feed", byteOffset := 0 }, { name := "dot", type := 3, offset := 1, embedded := false, tag := "", pkgPath := "parlance/feed", byteOffset := 8 }, { name := "from", type := 3, offset := 2, embedded := false, tag := "", pkgPath := "parlance/feed", byteOffset := 16 }] := by
  simp only [Program.fieldsOf, Try.underlying173]
theorem Try.eq3 (a b c a' b' c' : Int) (w : World) : (Op.equal 173 (.agg #[.int .i64 a, .int .i64 b, .int .i64 c]) (.agg #[.int .i64 a', .int .i64 b', .int .i64 c'])).run Try.prog w = .ok (decide (a = a' ∧ b = b' ∧ c = c')) w := by
  unfold Op.equal Op.maxDepth
  rw [run_equalIn_struct (P := Try.prog) w 9999 173 _ _ (by rw [Try.fieldsItem]; exact Try.underlying173) (by kernel_rfl), Try.fieldsItem]
  by_cases h1 : a = a' <;> by_cases h2 : b = b' <;> by_cases h3 : c = c' <;> simp [Op.eqFields, h1, h2, h3, go_sem]
theorem Try.chkInt (b : Bool) (n : Nat) (x : Int) (w : World) : (Instr.checkKey b (n + 1) 3 (.int .i64 x)).run Try.prog w = .ok () w := by
  simp [Instr.checkKey, run_underlying Try.underlying3]
theorem Try.chk3 (b : Bool) (n : Nat) (x y z : Int) (w : World) : (Instr.checkKey b (n + 1 + 1) 173 (.agg #[.int .i64 x, .int .i64 y, .int .i64 z])).run Try.prog w = .ok () w := by
  rw [Instr.checkKey]
  simp [run_underlying Try.underlying173, Try.chkInt, go_sem]
theorem bits3 (n : Nat) (x y z : Int) : Instr.sameBits (n + 1) (.agg #[.int .i64 x, .int .i64 y, .int .i64 z]) (.agg #[.int .i64 x, .int .i64 y, .int .i64 z]) = true := by
  simp [Instr.sameBits]
theorem Try.itemKey : MKey Try.prog 173 itemV where
  eq a b w := by
    unfold itemV
    rw [Try.eq3]
    obtain ⟨a1, a2, a3⟩ := a
    obtain ⟨b1, b2, b3⟩ := b
    have h : ((a1 : Int) = b1 ∧ (a2 : Int) = b2 ∧ (a3 : Int) = b3) ↔ ((a1, a2, a3) : Item) = (b1, b2, b3) := by simp only [Prod.mk.injEq]; omega
    exact congrArg (fun b => Result.ok b w) (decide_eq_decide.2 h)
  chk e a w := Try.chk3 e 9998 _ _ _ w
  bits a := bits3 9999 _ _ _
  und := ⟨_, Try.underlying173, fun a b => by simp [Instr.sameNow]⟩

theorem Try.fieldsSym : Try.prog.fieldsOf 37 = #[{ name := "Term", type := 4, offset := 0, embedded := false, tag := "", pkgPath := "", byteOffset := 0 }, { name := "N", type := 3, offset := 1, embedded := false, tag := "", pkgPath := "", byteOffset := 8 }] := by
  simp only [Program.fieldsOf, Try.underlying37]
theorem Try.symEq (a b : Sym) (w : World) : (Op.equal 37 (.agg #[.bool a.t, .int .i64 a.n]) (.agg #[.bool b.t, .int .i64 b.n])).run Try.prog w = .ok (decide (a = b)) w := by
  obtain ⟨at_, an⟩ := a
  obtain ⟨bt, bn⟩ := b
  unfold Op.equal Op.maxDepth
  rw [run_equalIn_struct (P := Try.prog) w 9999 37 _ _ (by rw [Try.fieldsSym]; exact Try.underlying37) (by kernel_rfl), Try.fieldsSym]
  by_cases h1 : at_ = bt <;> by_cases h2 : an = bn <;> simp [Op.eqFields, h1, h2, go_sem]

theorem Try.zeroBool (w : World) : (zeroValue 4).run Try.prog w = .ok (.bool false) w := by kernel_rfl

/-- a map that is a set of items -/
def SetIs (w : World) (r : Nat) (S : Item → Prop) : Prop := ∃ l : List (Item × Bool), IsMap itemV Value.bool w r l ∧ (∀ p ∈ l, p.2 = true) ∧ ∀ x, x ∈ l.map (·.1) ↔ S x

def OkItem (g : Gram) (m : Nat) (x : Item) : Prop := ∃ r, g.rules[x.1]? = some r ∧ x.2.1 ≤ r.r.length ∧ x.2.2 ≤ m

/-- a feed in memory -/
structure FeedAt (D : Nat → Prop) (w : World) (bf lim : Nat) (g : Gram) (gd : List Bool) (x : List Int) (S : Nat → Item → Prop) (A : Option Addr) (cr : Nat) (B : Option Addr) (cg : Nat) (C : Option Addr) (cw : Nat) (E : Option Addr) (cs : Nat) (rs : List Nat) : Prop where
  blk : w.heap[bf]? = some (.cells #[.int .i64 g.terms, .int .i64 g.nons, .int .i64 g.start, .slice A g.rules.length cr, .slice B gd.length cg, .slice C x.length cw, .slice E rs.length cs] 169 (0, 0))
  lt : bf < lim
  le : lim ≤ w.heap.size
  rules : IsSl Elt.rule (fun b => b < lim ∧ b ≠ bf) w (.slice A g.rules.length cr) g.rules
  good : IsSl Elt.bool (fun b => b < lim ∧ b ≠ bf) w (.slice B gd.length cg) gd
  gdlen : gd.length = g.rules.length
  word : w.ownsRow lim 3 1 (.slice C x.length cw) x.length (x.map (Value.int .i64))
  wordD : ∀ a, C = some a → D a.block
  sets : w.ownsRow lim 171 1 (.slice E rs.length cs) rs.length (rs.map fun r => Value.map (some r))
  setsD : ∀ a, E = some a → D a.block
  len : rs.length = x.length + 1
  dist : rs.Nodup
  maps : ∀ k (h : k < rs.length), SetIs w rs[k] (S k) ∧ D rs[k] ∧ lim ≤ rs[k]
  ok : ∀ k y, k ≤ x.length → S k y → OkItem g k y

theorem SetIs.same {w w' : World} {r : Nat} {S : Item → Prop} (h : SetIs w r S) (hs : w'.heap[r]? = w.heap[r]?) : SetIs w' r S := by
  obtain ⟨l, hm, rest⟩ := h
  exact ⟨l, hm.same hs, rest⟩
theorem SetIs.lt {w : World} {r : Nat} {S : Item → Prop} (h : SetIs w r S) : r < w.heap.size := by
  obtain ⟨l, hm, rest⟩ := h
  exact hm.lt

/-- nothing of the feed has turned -/
theorem FeedAt.below {D : Nat → Prop} {w w' : World} {bf lim : Nat} {g : Gram} {gd : List Bool} {x : List Int} {S : Nat → Item → Prop} {A : Option Addr} {cr : Nat} {B : Option Addr} {cg : Nat} {C : Option Addr} {cw : Nat} {E : Option Addr} {cs : Nat} {rs : List Nat}
    (h : FeedAt D w bf lim g gd x S A cr B cg C cw E cs rs) (hb : Below w.heap.size w w') : FeedAt D w' bf lim g gd x S A cr B cg C cw E cs rs :=
  ⟨blk_below hb (blk_lt h.blk) h.blk, h.lt, Nat.le_trans h.le hb.size, h.rules.below hb, h.good.below hb, h.gdlen, h.word.kept (row := none) ⟨hb.os, hb.tape, hb.output, hb.size, fun k hk _ => hb.block k hk⟩ (by cases (Value.slice C x.length cw).ownBlock <;> simp), h.wordD,
    h.sets.kept (row := none) ⟨hb.os, hb.tape, hb.output, hb.size, fun k hk _ => hb.block k hk⟩ (by cases (Value.slice E rs.length cs).ownBlock <;> simp), h.setsD, h.len, h.dist, fun k hk => ⟨(h.maps k hk).1.same (hb.block _ (h.maps k hk).1.lt), (h.maps k hk).2⟩, h.ok⟩

/-- the map of set k, as the code finds it -/
theorem FeedAt.setAt {D : Nat → Prop} {w : World} {bf lim : Nat} {g : Gram} {gd : List Bool} {x : List Int} {S : Nat → Item → Prop} {A : Option Addr} {cr : Nat} {B : Option Addr} {cg : Nat} {C : Option Addr} {cw : Nat} {E : Option Addr} {cs : Nat} {rs : List Nat}
    (h : FeedAt D w bf lim g gd x S A cr B cg C cw E cs rs) (k : Nat) (hk : k < rs.length) : ∃ b, E = some ⟨b, 0, none⟩ ∧ b < w.heap.size ∧ w.cell? ⟨b, k, none⟩ = some (.map (some rs[k])) := by
  obtain ⟨b, cap, he, hb1, hb2⟩ := h.sets.form (by omega)
  injection he with he1 he2 he3
  subst he1
  have hc := h.sets.cells (g := b) rfl k (.map (some rs[k])) (by simp [hk])
  rw [add_lit0] at hc
  exact ⟨b, rfl, cell_lt hc, hc⟩
end Go.Proofs.Ytdbkbkopcnkgcaa

open Go Go.RowKit
open Go.ChangeMaps (setBlock)
namespace Go.Proofs.Ytdbkbkopcnkgcaa

theorem Try.infoItem : (Try.prog.info? 173).map (fun i => (i.zero, i.size, i.bytes)) = some (some (.agg #[.int .i64 0, .int .i64 0, .int .i64 0]), 3, 24) := by kernel_rfl

def itemCells (l : List Item) : List Value := l.flatMap fun y => [.int .i64 y.1, .int .i64 y.2.1, .int .i64 y.2.2]
theorem itemCells_snoc (l : List Item) (y : Item) : itemCells l ++ [.int .i64 y.1, .int .i64 y.2.1, .int .i64 y.2.2] = itemCells (l ++ [y]) := by simp [itemCells]
theorem itemCells_length (l : List Item) : (itemCells l).length = l.length * 3 := by
  induction l with
  | nil => rfl
  | cons a l ih => simp only [itemCells, List.flatMap_cons, List.length_append] at *; rw [ih]; simp; omega
theorem itemCells_get : ∀ (l : List Item) (k : Nat) (h : k < l.length), (itemCells l)[k * 3]? = some (.int .i64 l[k].1) ∧ (itemCells l)[k * 3 + 1]? = some (.int .i64 l[k].2.1) ∧ (itemCells l)[k * 3 + 2]? = some (.int .i64 l[k].2.2)
  | [], k, h => by simp at h
  | a :: l, 0, h => by simp [itemCells]
  | a :: l, k + 1, h => by
    have := itemCells_get l k (by simpa using h)
    have e : itemCells (a :: l) = [.int .i64 a.1, .int .i64 a.2.1, .int .i64 a.2.2] ++ itemCells l := by simp [itemCells]
    rw [e, show (k + 1) * 3 = k * 3 + 3 by omega]
    refine ⟨?_, ?_, ?_⟩
    · rw [List.getElem?_append_right (by simp), show k * 3 + 3 - ([.int .i64 a.1, .int .i64 a.2.1, .int .i64 a.2.2] : List Value).length = k * 3 by simp]; simpa using this.1
    · rw [List.getElem?_append_right (by simp), show k * 3 + 3 + 1 - ([.int .i64 a.1, .int .i64 a.2.1, .int .i64 a.2.2] : List Value).length = k * 3 + 1 by simp]; simpa using this.2.1
    · rw [List.getElem?_append_right (by simp), show k * 3 + 3 + 2 - ([.int .i64 a.1, .int .i64 a.2.1, .int .i64 a.2.2] : List Value).length = k * 3 + 2 by simp]; simpa using this.2.2

/-- what the code calls following an item -/
def Fol (g : Gram) (gd : List Bool) (S : Nat → Item → Prop) (k : Nat) (x y : Item) : Prop :=
  ∃ r, g.rules[x.1]? = some r ∧ ((x.2.1 = r.r.length ∧ ∃ m e h r', S x.2.2 (m, e, h) ∧ g.rules[m]? = some r' ∧ r'.r[e]? = some ⟨false, r.l⟩ ∧ y = (m, e + 1, h)) ∨
    (∃ n, r.r[x.2.1]? = some ⟨false, n⟩ ∧ ∃ m r', g.rules[m]? = some r' ∧ r'.l = n ∧ gd[m]? = some true ∧ y = (m, 0, k)))

/-- a slice of items in new memory -/
def NewItems (w w' : World) (v : Value) (l : List Item) : Prop := w'.ownsRow w.heap.size 173 3 v l.length (itemCells l) ∧ Below w.heap.size w w'

section
variable {D : Nat → Prop} {bf lim : Nat} {g : Gram} {gd : List Bool} {x : List Int} {S : Nat → Item → Prop} {A : Option Addr} {cr : Nat} {B : Option Addr} {cg : Nat} {C : Option Addr} {cw : Nat} {E : Option Addr} {cs : Nat} {rs : List Nat}

set_option maxRecDepth 100000 in
set_option maxHeartbeats 1600000 in
theorem follow_term (y : Item) (k : Nat) (w : World) (h : FeedAt D w bf lim g gd x S A cr B cg C cw E cs rs) (r : Rule) (hr : g.rules[y.1]? = some r) (t : Int) (hd : r.r[y.2.1]? = some ⟨true, t⟩) :
    Calls Try.prog 121 #[.pointer (some ⟨bf, 0, none⟩), itemV y, .int .i64 k] w fun e w' => e = .returned (.slice none 0 0) ∧ Below w.heap.size w w' := by
  obtain ⟨y1, y2, y3⟩ := y
  obtain ⟨hy1, hr⟩ := List.getElem?_eq_some_iff.1 hr
  obtain ⟨hy2, hd⟩ := List.getElem?_eq_some_iff.1 hd
  simp only at hy1 hr hy2 hd
  have hc3 := blk_cell h.blk (i := 3) rfl
  have hbl := blk_lt h.blk
  obtain ⟨b, o, rfl, hF, hl, hc1, A', c', hc2, hsy⟩ := h.rules.ruleAt y1 hy1
  rw [hr] at hc1 hc2 hsy
  obtain ⟨b3, o3, rfl, hF3, hl3, hc4, hc5⟩ := hsy.symAt y2 hy2
  rw [hd] at hc4 hc5
  simp only at hc4 hc5
  unfold itemV
  go_enter Try.func121, Try.ntmps121
  go_wp2_with fail
  go_region
  go_wp2
  go_ret
  refine ⟨rfl, ?_⟩
  exact (((Below.refl _ _).alloc (Nat.le_refl _) _).alloc (by simp) _).drew

theorem key_bool (l : List (Item × Bool)) (h : ∀ p ∈ l, p.2 = true) (y : Item) : alook l y = if y ∈ l.map (·.1) then some true else none := by
  split
  · rename_i hy
    cases hl : alook l y with
    | none => exact absurd hy (alook_none.1 hl)
    | some v =>
      have : v = true := h _ (alook_some hl)
      rw [this]
  · rename_i hy
    exact alook_none.2 hy

set_option maxRecDepth 100000 in
set_option maxHeartbeats 1600000 in
theorem follow_non (y : Item) (k : Nat) (w : World) (h : FeedAt D w bf lim g gd x S A cr B cg C cw E cs rs) (r : Rule) (hr : g.rules[y.1]? = some r) (n : Int) (hd : r.r[y.2.1]? = some ⟨false, n⟩) (h32 : g.rules.length ≤ 32) :
    Calls Try.prog 121 #[.pointer (some ⟨bf, 0, none⟩), itemV y, .int .i64 k] w fun e w' => ∃ (v : Value) (l : List Item), e = .returned v ∧ NewItems w w' v l ∧ ∀ z, z ∈ l ↔ Fol g gd S k y z := by
  obtain ⟨y1, y2, y3⟩ := y
  obtain ⟨hy1, hr⟩ := List.getElem?_eq_some_iff.1 hr
  obtain ⟨hy2, hd⟩ := List.getElem?_eq_some_iff.1 hd
  simp only at hy1 hr hy2 hd
  have hc3 := blk_cell h.blk (i := 3) rfl
  have hc4g := blk_cell h.blk (i := 4) rfl
  have hbl := blk_lt h.blk
  obtain ⟨b, o, rfl, hF, hl, hc1, A', c', hc2, hsy⟩ := h.rules.ruleAt y1 hy1
  rw [hr] at hc1 hc2 hsy
  obtain ⟨b3, o3, rfl, hF3, hl3, hc4, hc5⟩ := hsy.symAt y2 hy2
  rw [hd] at hc4 hc5
  simp only at hc4 hc5
  obtain ⟨i0, hi, hz0, hz1, hz2⟩ := info_parts Try.infoItem
  have hyb : ((y2 : Int) == (r.r.length : Int)) = false := by rw [beq_eq_false_iff_ne]; omega
  unfold itemV
  go_enter Try.func121, Try.ntmps121
  go_wp2_with fail
  go_region
  go_wp2
  have hW : Below w.heap.size w (((w.alloc (.cells #[.int .i64 y1, .int .i64 y2, .int .i64 y3] 173)).alloc (.cells #[.int .i64 r.l, .slice (some ⟨b3, o3, none⟩) r.r.length c'] 47)).drew) := (((Below.refl _ _).alloc (Nat.le_refl _) _).alloc (by simp) _).drew
  have hWs : (((w.alloc (.cells #[.int .i64 y1, .int .i64 y2, .int .i64 y3] 173)).alloc (.cells #[.int .i64 r.l, .slice (some ⟨b3, o3, none⟩) r.r.length c'] 47)).drew).heap.size = w.heap.size + 2 := by simp
  have hW0 : (((w.alloc (.cells #[.int .i64 y1, .int .i64 y2, .int .i64 y3] 173)).alloc (.cells #[.int .i64 r.l, .slice (some ⟨b3, o3, none⟩) r.r.length c'] 47)).drew).heap[w.heap.size]? = some (.cells #[.int .i64 y1, .int .i64 y2, .int .i64 y3] 173) := by
    rw [drew_heap, Below.heap_alloc _ _ _ (by simp), heap_alloc_new]
  have hW1 : (((w.alloc (.cells #[.int .i64 y1, .int .i64 y2, .int .i64 y3] 173)).alloc (.cells #[.int .i64 r.l, .slice (some ⟨b3, o3, none⟩) r.r.length c'] 47)).drew).heap[w.heap.size + 1]? = some (.cells #[.int .i64 r.l, .slice (some ⟨b3, o3, none⟩) r.r.length c'] 47) := by
    rw [drew_heap, show w.heap.size + 1 = (w.alloc (.cells #[.int .i64 y1, .int .i64 y2, .int .i64 y3] 173)).heap.size by simp, heap_alloc_new]
  generalize (((w.alloc (.cells #[.int .i64 y1, .int .i64 y2, .int .i64 y3] 173)).alloc (.cells #[.int .i64 r.l, .slice (some ⟨b3, o3, none⟩) r.r.length c'] 47)).drew) = W0 at hW hWs hW0 hW1 ⊢
  go_loopg [7, 92] g.rules.length (fun gk v i wr => ∃ (q : Nat) (l : List Item), q ≤ g.rules.length ∧ gk = g.rules.length - q ∧ i = .int .i64 q ∧ l.length ≤ q ∧ wr.ownsRow (w.heap.size + 2) 173 3 v l.length (itemCells l) ∧ Below (w.heap.size + 2) W0 wr ∧
    ∀ z, z ∈ l ↔ ∃ m r', m < q ∧ g.rules[m]? = some r' ∧ r'.l = n ∧ gd[m]? = some true ∧ z = (m, 0, k))
  case atStart => exact ⟨0, [], by omega, by omega, rfl, by simp, World.ownsRow_nil _ _ _ _, Below.refl _ _, fun z => by simp⟩
  case round =>
    obtain ⟨q, l, hq, rfl, rfl, hlq, hown, hb, hz⟩ := hrel
    have hbw : Below w.heap.size w wr := hW.trans (hb.mono (by omega))
    have hbs : w.heap.size + 2 ≤ wr.heap.size := by have := hb.size; omega
    by_cases hlt : q < g.rules.length
    · obtain ⟨b5, o5, he5, hF5, hl5, hc11, A5, c5, hc12, hsy5⟩ := (h.rules.below hbw).ruleAt q hlt
      injection he5 with he5
      injection he5 with he5 he6
      subst he5
      subst he6
      obtain ⟨b6, o6, rfl, hF6, hl6, hc13⟩ := (h.good.below hbw).oneAt q (by rw [h.gdlen]; exact hlt)
      have hd1 := blk_below hb (by omega) hW0
      have hd2 := blk_below hb (by omega) hW1
      have e11 := blk_cell hd1 (i := 1) rfl
      have e21 := blk_cell hd2 (i := 1) rfl
      have hc4r := (hbw.cell (p := ⟨b3, o3 + y2 * 2, none⟩) hl3).trans hc4
      have hc5r := (hbw.cell (p := ⟨b3, o3 + y2 * 2 + 1, none⟩) hl3).trans hc5
      have hg4 := (hbw.cell (p := ⟨bf, 4, none⟩) hbl).trans hc4g
      have hs0 : w.heap.size < wr.heap.size := by omega
      have hs1 : w.heap.size + 1 < wr.heap.size := by omega
      have hbf : bf < wr.heap.size := by omega
      have hb3 : b3 < wr.heap.size := by omega
      have hq32 : q < 32 := by omega
      have hgl : (q : Int) < (gd.length : Int) := by rw [h.gdlen]; omega
      by_cases hln : g.rules[q].l = n
      · have hln' : (g.rules[q].l == n) = true := by simp [hln]
        have HLN := Lib.hid hln
        clear hln
        have hgq : q < gd.length := by rw [h.gdlen]; exact hlt
        generalize hgv : gd[q] = gv at hc13
        have HGV := Lib.hid hgv
        clear hgv
        cases gv
        · go_wp2_with fail
          go_quiet (fail)
          go_wp2
          go_roundg (g.rules.length - (q + 1))
          case measure => omega
          case rel => exact ⟨q + 1, l, by omega, rfl, by go_num, by omega, (hown.alloc _), below_drewN (hb.alloc hbs _) _, fun z => by
            rw [hz]
            constructor
            · rintro ⟨m, r', h1, h2⟩; exact ⟨m, r', by omega, h2⟩
            · rintro ⟨m, r', h1, h2, h3, h4, h5⟩
              refine ⟨m, r', ?_, h2, h3, h4, h5⟩
              rcases Nat.lt_or_ge m q with h6 | h6
              · exact h6
              · have : m = q := by omega
                subst this
                rw [List.getElem?_eq_getElem hgq, HGV.out] at h4
                cases h4⟩
        · go_wp2_with fail
          go_quiet (fail)
          go_wp2_with (first | (at_builtin; refine wpList_append_own _ rfl (.tmp 116) (.tmp 120) 201 rfl (w.heap.size + 2) 173 i0 (.agg #[.int .i64 0, .int .i64 0, .int .i64 0]) 3 24 Try.underlying201 hi hz0 hz1 hz2 rfl (by decide) _ l.length (itemCells l) rfl ?ho ⟨wr.heap.size + 1, 0, none⟩ 1 1 [.int .i64 q, .int .i64 0, .int .i64 k] rfl rfl ?c1 ?c2 ?c3 ?c4 ?c5 ?_))
          case ho => exact (hown.alloc _).alloc _
          case c1 =>
            intro j u hj
            have h3 := cells_new ((wr.alloc (.cells #[.int .i64 g.rules[q].l, .slice A5 g.rules[q].r.length c5] 47)).drewN nq) [.int .i64 q, .int .i64 0, .int .i64 k] 173 j u hj
            rwa [show ((wr.alloc (.cells #[.int .i64 g.rules[q].l, .slice A5 g.rules[q].r.length c5] 47)).drewN nq).heap.size = wr.heap.size + 1 by simp] at h3
          case c2 => intro u hu; simp at hu; rcases hu with rfl | rfl | rfl <;> rfl
          case c3 => unfold maxLen; omega
          case c4 => omega
          case c5 => simp; omega
          intro v' w1 hown' hgrow _
          have hb1 : Below (w.heap.size + 2) W0 w1 := ((below_drewN (hb.alloc hbs _) nq).alloc (show w.heap.size + 2 ≤ (wr.alloc _).heap.size by rw [World.size_alloc]; omega) _).grown hgrow (show w.heap.size + 2 ≤ (((wr.alloc _).drewN nq).alloc _).heap.size by rw [World.size_alloc, drewN_heap, World.size_alloc]; omega) (fun j hj => own_base' hown j hj)
          go_wp2
          go_roundg (g.rules.length - (q + 1))
          case measure => omega
          case rel => exact ⟨q + 1, l ++ [(q, 0, k)], by omega, rfl, by go_num, by simp; omega, by rw [← itemCells_snoc]; simpa using hown', hb1, fun z => by
            rw [List.mem_append, hz]
            constructor
            · rintro (⟨m, r', h1, h2⟩ | h1)
              · exact ⟨m, r', by omega, h2⟩
              · simp only [List.mem_singleton] at h1
                exact ⟨q, g.rules[q], by omega, List.getElem?_eq_getElem hlt, HLN.out, by rw [List.getElem?_eq_getElem hgq, HGV.out], h1⟩
            · rintro ⟨m, r', h1, h2, h3, h4, h5⟩
              rcases Nat.lt_or_ge m q with h6 | h6
              · exact .inl ⟨m, r', h6, h2, h3, h4, h5⟩
              · have : m = q := by omega
                subst this
                exact .inr (by simp [h5])⟩
      · have hln' : (g.rules[q].l == n) = false := by simp [hln]
        go_wp2_with fail
        go_quiet (fail)
        go_wp2
        go_roundg (g.rules.length - (q + 1))
        case measure => omega
        case rel => exact ⟨q + 1, l, by omega, rfl, by go_num, by omega, (hown.alloc _), below_drewN (hb.alloc hbs _) _, fun z => by
          rw [hz]
          constructor
          · rintro ⟨m, r', h1, h2⟩; exact ⟨m, r', by omega, h2⟩
          · rintro ⟨m, r', h1, h2, h3, h4⟩
            refine ⟨m, r', ?_, h2, h3, h4⟩
            rcases Nat.lt_or_ge m q with h5 | h5
            · exact h5
            · have : m = q := by omega
              subst this
              rw [List.getElem?_eq_getElem hlt] at h2
              injection h2 with h2
              exact absurd (h2 ▸ h3) hln⟩
    · obtain rfl : q = g.rules.length := by omega
      go_wp2
      go_ret
      refine ⟨_, l, rfl, ⟨hown.mono_base (by omega), hbw⟩, fun z => ?_⟩
      rw [hz]
      constructor
      · rintro ⟨m, r', h1, h2, h3, h4, h5⟩
        exact ⟨r, by rw [List.getElem?_eq_getElem hy1, hr], .inr ⟨n, by rw [List.getElem?_eq_getElem hy2, hd], m, r', h2, h3, h4, h5⟩⟩
      · rintro ⟨r2, h1, h2⟩
        rw [List.getElem?_eq_getElem hy1, hr] at h1
        injection h1 with h1
        subst h1
        rcases h2 with ⟨h2, _⟩ | ⟨n2, h2, m, r', h3, h4, h5, h6⟩
        · simp only at h2; omega
        · rw [List.getElem?_eq_getElem hy2, hd] at h2
          injection h2 with h2
          injection h2 with _ h2
          subst h2
          exact ⟨m, r', (List.getElem?_eq_some_iff.1 h3).1, h3, h4, h5, h6⟩
end
end Go.Proofs.Ytdbkbkopcnkgcaa
