import Derived.Test.YtdbkbkopcnkgcaaMeanD
import Derived.Test.YtdbkbkopcnkgcaaIter
import Derived.Maps.AppendAt
import Derived.Deep.AppendLies
open Go Go.RowKit
open Go.ChangeMaps (setBlock)
namespace Go.Proofs.Ytdbkbkopcnkgcaa

abbrev Item := Nat × Nat × Nat
def itemV (x : Item) : Value := .agg #[.int .i64 x.1, .int .i64 x.2.1, .int .i64 x.2.2]
theorem itemV_inj (a b : Item) (h : itemV a = itemV b) : a = b := by
  obtain ⟨a1, a2, a3⟩ := a
  obtain ⟨b1, b2, b3⟩ := b
  simp [itemV] at h
  obtain ⟨h1, h2, h3⟩ := h
  ext <;> simp <;> omega

theorem Try.fieldsItem : Try.prog.fieldsOf 173 = #[{ name := "rule", type := 3, offset := 0, embedded := false, tag := "", pkgPath := "parlance/feed", byteOffset := 0 }, { name := "dot", type := 3, offset := 1, embedded := false, tag := "", pkgPath := "parlance/feed", byteOffset := 8 }, { name := "from", type := 3, offset := 2, embedded := false, tag := "", pkgPath := "parlance/feed", byteOffset := 16 }] := by
  simp only [Program.fieldsOf, Try.underlying173]
theorem Try.eq3 (a b c a' b' c' : Int) (w : World) : (Op.equal 173 (.agg #[.int .i64 a, .int .i64 b, .int .i64 c]) (.agg #[.int .i64 a', .int .i64 b', .int .i64 c'])).run Try.prog w = .ok (decide (a = a' ∧ b = b' ∧ c = c')) w := by
  unfold Op.equal Op.maxDepth
  rw [run_equalIn_struct (P := Try.prog) w 9999 173 _ _ (by rw [Try.fieldsItem]; exact Try.underlying173) (by kernel_rfl), Try.fieldsItem]
  by_cases h1 : a = a' <;> by_cases h2 : b = b' <;> by_cases h3 : c = c' <;> simp [Op.eqFields, h1, h2, h3, go_sem]
theorem Try.chkInt (b : Bool) (n : Nat) (x : Int) (w : World) : (Instr.checkKey b (n + 1) 3 (.int .i64 x)).run Try.prog w = .ok () w := by
  simp [Instr.checkKey, run_underlying Try.underlying3]
theorem Try.chk3 (b : Bool) (n : Nat) (x y z : Int) (w : World) : (Instr.checkKey b (n + 1 + 1) 173 (.agg #[.int .i64 x, .int .i64 y, .int .i64 z])).run Try.prog w = .ok () w := by
  rw [Instr.checkKey]
  simp [run_underlying Try.underlying173, Try.chkInt, go_sem]
theorem bits3 (n : Nat) (x y z : Int) : Instr.sameBits (n + 1) (.agg #[.int .i64 x, .int .i64 y, .int .i64 z]) (.agg #[.int .i64 x, .int .i64 y, .int .i64 z]) = true := by
  simp [Instr.sameBits]
theorem Try.itemKey : MKey Try.prog 173 itemV where
  eq a b w := by
    unfold itemV
    rw [Try.eq3]
    obtain ⟨a1, a2, a3⟩ := a
    obtain ⟨b1, b2, b3⟩ := b
    have h : ((a1 : Int) = b1 ∧ (a2 : Int) = b2 ∧ (a3 : Int) = b3) ↔ ((a1, a2, a3) : Item) = (b1, b2, b3) := by simp only [Prod.mk.injEq]; omega
    exact congrArg (fun b => Result.ok b w) (decide_eq_decide.2 h)
  chk e a w := Try.chk3 e 9998 _ _ _ w
  bits a := bits3 9999 _ _ _
  und := ⟨_, Try.underlying173, fun a b => by simp [Instr.sameNow]⟩

theorem Try.fieldsSym : Try.prog.fieldsOf 37 = #[{ name := "Term", type := 4, offset := 0, embedded := false, tag := "", pkgPath := "", byteOffset := 0 }, { name := "N", type := 3, offset := 1, embedded := false, tag := "", pkgPath := "", byteOffset := 8 }] := by
  simp only [Program.fieldsOf, Try.underlying37]
theorem Try.symEq (a b : Sym) (w : World) : (Op.equal 37 (.agg #[.bool a.t, .int .i64 a.n]) (.agg #[.bool b.t, .int .i64 b.n])).run Try.prog w = .ok (decide (a = b)) w := by
  obtain ⟨at_, an⟩ := a
  obtain ⟨bt, bn⟩ := b
  unfold Op.equal Op.maxDepth
  rw [run_equalIn_struct (P := Try.prog) w 9999 37 _ _ (by rw [Try.fieldsSym]; exact Try.underlying37) (by kernel_rfl), Try.fieldsSym]
  by_cases h1 : at_ = bt <;> by_cases h2 : an = bn <;> simp [Op.eqFields, h1, h2, go_sem]

theorem Try.zeroBool (w : World) : (zeroValue 4).run Try.prog w = .ok (.bool false) w := by kernel_rfl

/-- a map that is a set of items -/
def SetIs (w : World) (r : Nat) (S : Item → Prop) : Prop := ∃ l : List (Item × Bool), IsMap itemV Value.bool w r l ∧ (∀ p ∈ l, p.2 = true) ∧ ∀ x, x ∈ l.map (·.1) ↔ S x

def OkItem (g : Gram) (m : Nat) (x : Item) : Prop := ∃ r, g.rules[x.1]? = some r ∧ x.2.1 ≤ r.r.length ∧ x.2.2 ≤ m

/-- a feed in memory -/
structure FeedAt (D : Nat → Prop) (w : World) (bf lim : Nat) (g : Gram) (gd : List Bool) (x : List Int) (S : Nat → Item → Prop) (A : Option Addr) (cr : Nat) (B : Option Addr) (cg : Nat) (C : Option Addr) (cw : Nat) (E : Option Addr) (cs : Nat) (rs : List Nat) : Prop where
  blk : w.heap[bf]? = some (.cells #[.int .i64 g.terms, .int .i64 g.nons, .int .i64 g.start, .slice A g.rules.length cr, .slice B gd.length cg, .slice C x.length cw, .slice E rs.length cs] 169 (0, 0))
  lt : bf < lim
  le : lim ≤ w.heap.size
  rules : IsSl Elt.rule (fun b => b < lim ∧ b ≠ bf) w (.slice A g.rules.length cr) g.rules
  good : IsSl Elt.bool (fun b => b < lim ∧ b ≠ bf) w (.slice B gd.length cg) gd
  gdlen : gd.length = g.rules.length
  word : w.ownsRow lim 3 1 (.slice C x.length cw) x.length (x.map (Value.int .i64))
  wordD : ∀ a, C = some a → D a.block
  sets : w.ownsRow lim 171 1 (.slice E rs.length cs) rs.length (rs.map fun r => Value.map (some r))
  setsD : ∀ a, E = some a → D a.block
  len : rs.length = x.length + 1
  dist : rs.Nodup
  maps : ∀ k (h : k < rs.length), SetIs w rs[k] (S k) ∧ D rs[k] ∧ lim ≤ rs[k]
  ok : ∀ k y, k ≤ x.length → S k y → OkItem g k y

theorem SetIs.same {w w' : World} {r : Nat} {S : Item → Prop} (h : SetIs w r S) (hs : w'.heap[r]? = w.heap[r]?) : SetIs w' r S := by
  obtain ⟨l, hm, rest⟩ := h
  exact ⟨l, hm.same hs, rest⟩
theorem SetIs.lt {w : World} {r : Nat} {S : Item → Prop} (h : SetIs w r S) : r < w.heap.size := by
  obtain ⟨l, hm, rest⟩ := h
  exact hm.lt

/-- nothing of the feed has turned -/
theorem FeedAt.below {D : Nat → Prop} {w w' : World} {bf lim : Nat} {g : Gram} {gd : List Bool} {x : List Int} {S : Nat → Item → Prop} {A : Option Addr} {cr : Nat} {B : Option Addr} {cg : Nat} {C : Option Addr} {cw : Nat} {E : Option Addr} {cs : Nat} {rs : List Nat}
    (h : FeedAt D w bf lim g gd x S A cr B cg C cw E cs rs) (hb : Below w.heap.size w w') : FeedAt D w' bf lim g gd x S A cr B cg C cw E cs rs :=
  ⟨blk_below hb (blk_lt h.blk) h.blk, h.lt, Nat.le_trans h.le hb.size, h.rules.below hb, h.good.below hb, h.gdlen, h.word.kept (row := none) ⟨hb.os, hb.tape, hb.output, hb.size, fun k hk _ => hb.block k hk⟩ (by cases (Value.slice C x.length cw).ownBlock <;> simp), h.wordD,
    h.sets.kept (row := none) ⟨hb.os, hb.tape, hb.output, hb.size, fun k hk _ => hb.block k hk⟩ (by cases (Value.slice E rs.length cs).ownBlock <;> simp), h.setsD, h.len, h.dist, fun k hk => ⟨(h.maps k hk).1.same (hb.block _ (h.maps k hk).1.lt), (h.maps k hk).2⟩, h.ok⟩

/-- the map of set k, as the code finds it -/
theorem FeedAt.setAt {D : Nat → Prop} {w : World} {bf lim : Nat} {g : Gram} {gd : List Bool} {x : List Int} {S : Nat → Item → Prop} {A : Option Addr} {cr : Nat} {B : Option Addr} {cg : Nat} {C : Option Addr} {cw : Nat} {E : Option Addr} {cs : Nat} {rs : List Nat}
    (h : FeedAt D w bf lim g gd x S A cr B cg C cw E cs rs) (k : Nat) (hk : k < rs.length) : ∃ b, E = some ⟨b, 0, none⟩ ∧ b < w.heap.size ∧ w.cell? ⟨b, k, none⟩ = some (.map (some rs[k])) := by
  obtain ⟨b, cap, he, hb1, hb2⟩ := h.sets.form (by omega)
  injection he with he1 he2 he3
  subst he1
  have hc := h.sets.cells (g := b) rfl k (.map (some rs[k])) (by simp [hk])
  rw [add_lit0] at hc
  exact ⟨b, rfl, cell_lt hc, hc⟩
end Go.Proofs.Ytdbkbkopcnkgcaa
