import Derived.WalkKit
import Derived.Lib.Hide
import Derived.Laws.BitsAllLaws
import Derived.Deep.QuietTactic
import Derived.Test.YtdbkbkopcnkgcaaGreatProg
import Derived.WalkSpells
import Derived.WalkLawsBesides
import Derived.BigQuiet
import Derived.Outline
open Go Go.RowKit
namespace Go.Proofs.YtdbkbkopcnkgcaaGreat

/-- A way to read one element of a slice: how many cells, and what they hold. -/
structure Elt (α : Type) where
  sz : Nat
  E : (Nat → Prop) → World → Nat → Nat → α → Prop
  keep : ∀ {F : Nat → Prop} {w w' : World} {b o : Nat} {x : α}, (∀ k, F k → w'.heap[k]? = w.heap[k]?) → E F w b o x → E F w' b o x
  weak : ∀ {F G : Nat → Prop} {w : World} {b o : Nat} {x : α}, (∀ k, F k → G k) → E F w b o x → E G w b o x
  old : ∀ {F : Nat → Prop} {w : World} {b o : Nat} {x : α}, E F w b o x → E (fun k => F k ∧ k < w.heap.size) w b o x

/-- The value v is a slice with the elements xs. -/
def IsSl {α : Type} (d : Elt α) (F : Nat → Prop) (w : World) (v : Value) (xs : List α) : Prop :=
  ∃ A c, v = .slice A xs.length c ∧ xs.length ≤ 9223372036854775807 ∧ ∀ k (h : k < xs.length), ∃ b o, A = some ⟨b, o, none⟩ ∧ F b ∧ b < w.heap.size ∧ d.E F w b (o + k * d.sz) xs[k]

theorem IsSl.keep {α : Type} {d : Elt α} {F : Nat → Prop} {w w' : World} {v : Value} {xs : List α} (hk : ∀ k, F k → w'.heap[k]? = w.heap[k]?) (hs : w.heap.size ≤ w'.heap.size) (h : IsSl d F w v xs) : IsSl d F w' v xs := by
  obtain ⟨A, c, rfl, hl, h⟩ := h
  refine ⟨A, c, rfl, hl, fun k hk' => ?_⟩
  obtain ⟨b, o, rfl, hb, hlt, he⟩ := h k hk'
  exact ⟨b, o, rfl, hb, by omega, d.keep hk he⟩

theorem IsSl.weak {α : Type} {d : Elt α} {F G : Nat → Prop} {w : World} {v : Value} {xs : List α} (hk : ∀ k, F k → G k) (h : IsSl d F w v xs) : IsSl d G w v xs := by
  obtain ⟨A, c, rfl, hl, h⟩ := h
  refine ⟨A, c, rfl, hl, fun k hk' => ?_⟩
  obtain ⟨b, o, rfl, hb, hlt, he⟩ := h k hk'
  exact ⟨b, o, rfl, hk _ hb, hlt, d.weak hk he⟩

theorem IsSl.old {α : Type} {d : Elt α} {F : Nat → Prop} {w : World} {v : Value} {xs : List α} (h : IsSl d F w v xs) : IsSl d (fun k => F k ∧ k < w.heap.size) w v xs := by
  obtain ⟨A, c, rfl, hl, h⟩ := h
  refine ⟨A, c, rfl, hl, fun k hk' => ?_⟩
  obtain ⟨b, o, rfl, hb, hlt, he⟩ := h k hk'
  exact ⟨b, o, rfl, ⟨hb, hlt⟩, hlt, d.old he⟩

/-- What lay there before stays readable when only blocks below are kept. -/
theorem IsSl.below {α : Type} {d : Elt α} {F : Nat → Prop} {w w' : World} {v : Value} {xs : List α} (hb : Below w.heap.size w w') (h : IsSl d F w v xs) : IsSl d F w' v xs :=
  ((h.old).keep (fun k hk => hb.block k hk.2) hb.size).weak (fun _ hk => hk.1)

theorem cell_keep {F : Nat → Prop} {w w' : World} {b o : Nat} {v : Value} (hk : ∀ k, F k → w'.heap[k]? = w.heap[k]?) (hb : F b) (h : w.cell? ⟨b, o, none⟩ = some v) : w'.cell? ⟨b, o, none⟩ = some v :=
  (World.cell?_of_block (w := w) (hk b hb)).trans h
theorem cell_lt {w : World} {b o : Nat} {v : Value} (h : w.cell? ⟨b, o, none⟩ = some v) : b < w.heap.size := World.block_lt_of_cell? w _ h

/-- one cell, by an encoding -/
def Elt.one {α : Type} (enc : α → Value) : Elt α where
  sz := 1
  E F w b o x := F b ∧ w.cell? ⟨b, o, none⟩ = some (enc x)
  keep hk h := ⟨h.1, cell_keep hk h.1 h.2⟩
  weak hk h := ⟨hk _ h.1, h.2⟩
  old h := ⟨⟨h.1, cell_lt h.2⟩, h.2⟩
def Elt.int : Elt Int := Elt.one (Value.int .i64)
def Elt.u32 : Elt Nat := Elt.one (fun n => Value.int .u32 n)
def Elt.bool : Elt Bool := Elt.one Value.bool

/-- a slice inside; its capacity is at least its length -/
def Elt.sl {α : Type} (d : Elt α) : Elt (List α) where
  sz := 1
  E F w b o x := F b ∧ ∃ A c, w.cell? ⟨b, o, none⟩ = some (.slice A x.length c) ∧ x.length ≤ c ∧ IsSl d F w (.slice A x.length c) x
  keep hk h := by
    obtain ⟨hb, A0, c0, hc, hcap, h⟩ := h
    refine ⟨hb, A0, c0, cell_keep hk hb hc, hcap, ?_⟩
    obtain ⟨A, c, he, hl, h⟩ := h
    refine ⟨A, c, he, hl, fun k hk' => ?_⟩
    obtain ⟨b, o, rfl, hb, hlt, he⟩ := h k hk'
    refine ⟨b, o, rfl, hb, ?_, d.keep hk he⟩
    have := hk b hb
    rw [Array.getElem?_eq_getElem hlt] at this
    exact (Array.getElem?_eq_some_iff.1 this).1
  weak hk h := by obtain ⟨hb, A, c, hc, hcap, h⟩ := h; exact ⟨hk _ hb, A, c, hc, hcap, h.weak hk⟩
  old h := by obtain ⟨hb, A, c, hc, hcap, h⟩ := h; exact ⟨⟨hb, cell_lt hc⟩, A, c, hc, hcap, h.old⟩

/-- two parts -/
def Elt.pair {α β : Type} (d : Elt α) (e : Elt β) : Elt (α × β) where
  sz := d.sz + e.sz
  E F w b o x := d.E F w b o x.1 ∧ e.E F w b (o + d.sz) x.2
  keep hk h := ⟨d.keep hk h.1, e.keep hk h.2⟩
  weak hk h := ⟨d.weak hk h.1, e.weak hk h.2⟩
  old h := ⟨d.old h.1, e.old h.2⟩

/-- another type with the same parts -/
def Elt.map {α β : Type} (d : Elt α) (f : β → α) : Elt β where
  sz := d.sz
  E F w b o x := d.E F w b o (f x)
  keep hk h := d.keep hk h
  weak hk h := d.weak hk h
  old h := d.old h

theorem ret_int {k : IntKind} {a b : Int} (h : a = b) : Ending.returned (.int k a) = .returned (.int k b) := by rw [h]
theorem ret_bool {a b : Bool} (h : a = b) : Ending.returned (.bool a) = .returned (.bool b) := by rw [h]
theorem ret_val {a b : Value} (h : a = b) : Ending.returned a = .returned b := by rw [h]

structure Sym where
  t : Bool
  n : Int
deriving DecidableEq, Repr, Inhabited
structure Rule where
  l : Int
  r : List Sym
deriving DecidableEq, Repr, Inhabited
structure Gram where
  terms : Int
  nons : Int
  start : Int
  rules : List Rule
deriving DecidableEq, Repr, Inhabited

def Elt.sym : Elt Sym := (Elt.bool.pair Elt.int).map fun s => (s.t, s.n)
def Elt.rule : Elt Rule := (Elt.int.pair Elt.sym.sl).map fun s => (s.l, s.r)
def symV (s : Sym) : Value := .agg #[.bool s.t, .int .i64 s.n]

/-- the element k of a slice of symbols -/
theorem IsSl.symAt {F : Nat → Prop} {w : World} {A : Option Addr} {n c : Nat} {xs : List Sym} (h : IsSl Elt.sym F w (.slice A n c) xs) (k : Nat) (hk : k < xs.length) :
    ∃ b o, A = some ⟨b, o, none⟩ ∧ F b ∧ b < w.heap.size ∧ w.cell? ⟨b, o + k * 2, none⟩ = some (.bool xs[k].t) ∧ w.cell? ⟨b, o + k * 2 + 1, none⟩ = some (.int .i64 xs[k].n) := by
  obtain ⟨A', c', he, hl, h⟩ := h
  injection he with h1 h2 h3
  subst h1
  obtain ⟨b, o, rfl, hb, hlt, he⟩ := h k hk
  exact ⟨b, o, rfl, hb, hlt, he.1.2, he.2.2⟩
theorem IsSl.len {α : Type} {d : Elt α} {F : Nat → Prop} {w : World} {A : Option Addr} {n c : Nat} {xs : List α} (h : IsSl d F w (.slice A n c) xs) : n = xs.length ∧ n ≤ 9223372036854775807 := by
  obtain ⟨A', c', he, hl, h⟩ := h
  injection he with h1 h2 h3
  exact ⟨h2, by omega⟩
theorem IsSl.form {α : Type} {d : Elt α} {F : Nat → Prop} {w : World} {v : Value} {xs : List α} (h : IsSl d F w v xs) : ∃ A c, v = .slice A xs.length c := by
  obtain ⟨A', c', he, hl, h⟩ := h
  exact ⟨A', c', he⟩

/-- the element k of a slice of rules -/
theorem IsSl.ruleCap {F : Nat → Prop} {w : World} {A : Option Addr} {n c : Nat} {xs : List Rule} (h : IsSl Elt.rule F w (.slice A n c) xs) (k : Nat) (hk : k < xs.length) :
    ∃ b o, A = some ⟨b, o, none⟩ ∧ F b ∧ b < w.heap.size ∧ w.cell? ⟨b, o + k * 2, none⟩ = some (.int .i64 xs[k].l) ∧
      ∃ A' c', w.cell? ⟨b, o + k * 2 + 1, none⟩ = some (.slice A' xs[k].r.length c') ∧ IsSl Elt.sym F w (.slice A' xs[k].r.length c') xs[k].r ∧ xs[k].r.length ≤ c' := by
  obtain ⟨A', c', he, hl, h⟩ := h
  injection he with h1 h2 h3
  subst h1
  obtain ⟨b, o, rfl, hb, hlt, he⟩ := h k hk
  obtain ⟨⟨_, h1⟩, _, A2, c2, h2, h4, h3⟩ := he
  exact ⟨b, o, rfl, hb, hlt, h1, A2, c2, h2, h3, h4⟩
theorem IsSl.ruleAt {F : Nat → Prop} {w : World} {A : Option Addr} {n c : Nat} {xs : List Rule} (h : IsSl Elt.rule F w (.slice A n c) xs) (k : Nat) (hk : k < xs.length) :
    ∃ b o, A = some ⟨b, o, none⟩ ∧ F b ∧ b < w.heap.size ∧ w.cell? ⟨b, o + k * 2, none⟩ = some (.int .i64 xs[k].l) ∧
      ∃ A' c', w.cell? ⟨b, o + k * 2 + 1, none⟩ = some (.slice A' xs[k].r.length c') ∧ IsSl Elt.sym F w (.slice A' xs[k].r.length c') xs[k].r := by
  obtain ⟨b, o, h1, h2, h3, h4, A', c', h5, h6, _⟩ := h.ruleCap k hk
  exact ⟨b, o, h1, h2, h3, h4, A', c', h5, h6⟩
/-- the element k of a slice of one cell each -/
theorem IsSl.oneAt {α : Type} {enc : α → Value} {F : Nat → Prop} {w : World} {A : Option Addr} {n c : Nat} {xs : List α} (h : IsSl (Elt.one enc) F w (.slice A n c) xs) (k : Nat) (hk : k < xs.length) :
    ∃ b o, A = some ⟨b, o, none⟩ ∧ F b ∧ b < w.heap.size ∧ w.cell? ⟨b, o + k, none⟩ = some (enc xs[k]) := by
  obtain ⟨A', c', he, hl, h⟩ := h
  injection he with h1 h2 h3
  subst h1
  obtain ⟨b, o, rfl, hb, hlt, he⟩ := h k hk
  have h2 := he.2
  simp only [Elt.one, Nat.mul_one] at h2
  exact ⟨b, o, rfl, hb, hlt, h2⟩

/-- a block that was just made still reads as it was made -/
theorem box_cell {w wr : World} {cs : Array Value} {T : TypeId} (hb : Below (w.heap.size + 1) (w.alloc (.cells cs T)) wr) {j : Nat} {v : Value} (h : cs[j]? = some v) : wr.cell? ⟨w.heap.size, j, none⟩ = some v := by
  rw [hb.cell (p := ⟨w.heap.size, j, none⟩) (by show w.heap.size < w.heap.size + 1; omega)]
  rw [World.cell?, heap_alloc_new]
  exact h

def gramV (g : Gram) (vr : Value) : Value := .agg #[.int .i64 g.terms, .int .i64 g.nons, .int .i64 g.start, vr]

structure OkSym (g : Gram) (s : Sym) : Prop where
  n0 : 0 ≤ s.n
  nt : s.t = true → s.n < g.terms
  nn : s.t = false → s.n < g.nons
structure OkRule (g : Gram) (r : Rule) : Prop where
  l0 : 0 ≤ r.l
  l1 : r.l < g.nons
  len : r.r.length ≤ 4
  syms : ∀ s ∈ r.r, OkSym g s
/-- a valid grammar -/
structure Valid (g : Gram) : Prop where
  t1 : 1 ≤ g.terms
  t8 : g.terms ≤ 8
  n1 : 1 ≤ g.nons
  n10 : g.nons ≤ 10
  s0 : 0 ≤ g.start
  s1 : g.start < g.nons
  len : g.rules.length ≤ 32
  ok : ∀ r ∈ g.rules, OkRule g r
  nodup : g.rules.Nodup

end Go.Proofs.YtdbkbkopcnkgcaaGreat

open Go Go.RowKit
namespace Go.Proofs.YtdbkbkopcnkgcaaGreat

theorem bit_test (f k : Nat) (hf : f < 2 ^ 32) : (bits BinOp.and IntKind.u32 ((f : Int) / 2 ^ k) 1 == 0) = !f.testBit k := by
  have e : ((f : Int) / 2 ^ k) = ((f / 2 ^ k : Nat) : Int) := by norm_cast
  rw [e, show (1 : Int) = ((1 : Nat) : Int) from rfl, u32_and_nat _ _ (Nat.lt_of_le_of_lt (Nat.div_le_self _ _) hf) (by omega), Nat.testBit_eq_decide_div_mod_eq, Nat.and_one_is_mod]
  have := Nat.mod_two_eq_zero_or_one (f / 2 ^ k)
  rcases this with h | h <;> rw [h] <;> rfl
theorem bit_testT (f k : Nat) (hf : f < 2 ^ 32) (h : f.testBit k = true) : (bits BinOp.and IntKind.u32 ((f : Int) / 2 ^ k) 1 == 0) = false := by rw [bit_test f k hf, h]; rfl
theorem bit_testF (f k : Nat) (hf : f < 2 ^ 32) (h : f.testBit k = false) : (bits BinOp.and IntKind.u32 ((f : Int) / 2 ^ k) 1 == 0) = true := by rw [bit_test f k hf, h]; rfl
theorem bit_test1 (f k : Nat) (hf : f < 2 ^ 32) : (bits BinOp.and IntKind.u32 ((f : Int) / 2 ^ k) 1 == 1) = f.testBit k := by
  have e : ((f : Int) / 2 ^ k) = ((f / 2 ^ k : Nat) : Int) := by norm_cast
  rw [e, show (1 : Int) = ((1 : Nat) : Int) from rfl, u32_and_nat _ _ (Nat.lt_of_le_of_lt (Nat.div_le_self _ _) hf) (by omega), Nat.testBit_eq_decide_div_mod_eq, Nat.and_one_is_mod]
  have := Nat.mod_two_eq_zero_or_one (f / 2 ^ k)
  rcases this with h | h <;> rw [h] <;> rfl

theorem or_lt {a b : Nat} (ha : a < 2 ^ 32) (hb : b < 2 ^ 32) : a ||| b < 2 ^ 32 := Nat.or_lt_two_pow ha hb
theorem pow_lt13 {k : Nat} (h : k ≤ 13) : 2 ^ k < 2 ^ 32 := Nat.pow_lt_pow_right (by omega) (by omega)
theorem pow_mod13 {k : Nat} (h : k ≤ 13) : ((2 : Int) ^ k % 4294967296) = ((2 ^ k : Nat) : Int) := by
  have h1 := pow_lt13 h
  have h2 : ((2 : Int) ^ k) = ((2 ^ k : Nat) : Int) := (Int.natCast_pow 2 k).symm
  rw [h2]
  have h3 : 2 ^ k < 4294967296 := h1
  exact Int.emod_eq_of_lt (Int.natCast_nonneg _) (Int.ofNat_lt.2 h3)
theorem below_drewN {B : Nat} {w W : World} (h : Below B w W) (n : Nat) : Below B w (W.drewN n) := ⟨h.os, h.tape, h.output, h.size, h.block⟩
end Go.Proofs.YtdbkbkopcnkgcaaGreat

open Go Go.RowKit
namespace Go.Proofs.YtdbkbkopcnkgcaaGreat

def ordS (a b : Sym) : Int := if a.t && !b.t then -1 else if !a.t && b.t then 1 else if a.n < b.n then -1 else if b.n < a.n then 1 else 0
def cmpI (x y : Int) : Int := if x < y then -1 else if y < x then 1 else 0

theorem isNaN_any (x : Int) (w : World) : Calls Tryz.prog 101 #[.int .i64 x] w fun e w' => e = .returned (.bool false) ∧ w = w' := by
  go_enter Tryz.func101, Tryz.ntmps101
  go_wp2
  go_ret
  exact ⟨rfl, rfl⟩

theorem cmp_any (x y : Int) (w : World) : Calls Tryz.prog 76 #[.int .i64 x, .int .i64 y] w fun e w' => e = .returned (.int .i64 (cmpI x y)) ∧ w = w' := by
  unfold cmpI
  rcases Int.lt_trichotomy x y with h | h | h
  · go_enter Tryz.func76, Tryz.ntmps76
    go_wp2_with (go_at_call 101; refine (isNaN_any _ _).mono ?_; rintro e w' ⟨rfl, rfl⟩)
    go_ret
    exact ⟨by simp, rfl⟩
  · subst h
    go_enter Tryz.func76, Tryz.ntmps76
    go_wp2_with (go_at_call 101; refine (isNaN_any _ _).mono ?_; rintro e w' ⟨rfl, rfl⟩)
    go_ret
    exact ⟨by simp, rfl⟩
  · have h' : ¬ x < y := by omega
    go_enter Tryz.func76, Tryz.ntmps76
    go_wp2_with (go_at_call 101; refine (isNaN_any _ _).mono ?_; rintro e w' ⟨rfl, rfl⟩)
    go_ret
    exact ⟨by simp, rfl⟩

theorem order_any (a b : Sym) (w : World) :
    Calls Tryz.prog 78 #[symV a, symV b] w fun e w' => e = .returned (.int .i64 (ordS a b)) ∧ Below w.heap.size w w' := by
  obtain ⟨at_, an⟩ := a
  obtain ⟨bt, bn⟩ := b
  unfold symV
  cases at_ <;> cases bt
  all_goals
    go_enter Tryz.func78, Tryz.ntmps78
    go_wp2_with (go_at_call 76; refine (cmp_any _ _ _).mono ?_; rintro e w' ⟨rfl, rfl⟩)
    go_ret
    exact ⟨by simp [ordS, cmpI], by exact ((Below.refl _ _).alloc (Nat.le_refl _) _).alloc (by simp) _⟩

def cmpSyms : List Sym → List Sym → Int
  | [], [] => 0
  | [], _ :: _ => -1
  | _ :: _, [] => 1
  | a :: x, b :: y => if ordS a b ≠ 0 then ordS a b else cmpSyms x y

theorem cmpSyms_drop (x y : List Sym) (k : Nat) (h : k < x.length) (h' : k < y.length) : cmpSyms (x.drop k) (y.drop k) = if ordS x[k] y[k] ≠ 0 then ordS x[k] y[k] else cmpSyms (x.drop (k+1)) (y.drop (k+1)) := by
  rw [List.drop_eq_getElem_cons h, List.drop_eq_getElem_cons h']; rfl
theorem cmpSyms_long (x y : List Sym) (k : Nat) (h : k < x.length) (h' : y.length ≤ k) : cmpSyms (x.drop k) (y.drop k) = 1 := by
  rw [List.drop_eq_getElem_cons h, List.drop_eq_nil_of_le h']; rfl
theorem cmpSyms_end (x y : List Sym) (k : Nat) (h : x.length ≤ k) (h0 : k ≤ y.length) : cmpSyms (x.drop k) (y.drop k) = if k < y.length then -1 else 0 := by
  rw [List.drop_eq_nil_of_le h]
  split
  · rename_i h'; rw [List.drop_eq_getElem_cons h']; rfl
  · rw [List.drop_eq_nil_of_le (by omega)]; rfl

set_option maxHeartbeats 400000 in
theorem cmpSyms_any (F : Nat → Prop) (x y : List Sym) (A B : Option Addr) (nx ny cx cy : Nat) (w : World) (hx : IsSl Elt.sym F w (.slice A nx cx) x) (hy : IsSl Elt.sym F w (.slice B ny cy) y) :
    Calls Tryz.prog 77 #[.slice A nx cx, .slice B ny cy, .func (.func 78) #[] #[]] w fun e w' => e = .returned (.int .i64 (cmpSyms x y)) ∧ Below w.heap.size w w' := by
  obtain ⟨rfl, hnx⟩ := hx.len
  obtain ⟨rfl, hny⟩ := hy.len
  go_enter Tryz.func77, Tryz.ntmps77
  go_wp2
  go_loopw [13] (fun i wr => ∃ k : Nat, k ≤ x.length ∧ k ≤ y.length ∧ i = .int .i64 k ∧ cmpSyms x y = cmpSyms (x.drop k) (y.drop k) ∧ Below w.heap.size w wr) (fun i _ => x.length - (intOf i).toNat)
  case atStart => exact ⟨0, by omega, by omega, rfl, rfl, Below.refl _ _⟩
  case round =>
    obtain ⟨k, hk, hk', rfl, hd, hb⟩ := hrel
    have HD := Lib.hid hd
    clear hd
    by_cases hlt : k < x.length
    · obtain ⟨b1, o1, rfl, hF1, hl1, hc1, hc2⟩ := (hx.below hb).symAt k hlt
      by_cases hlt' : k < y.length
      · obtain ⟨b2, o2, rfl, hF2, hl2, hc3, hc4⟩ := (hy.below hb).symAt k hlt'
        go_wp2_with fail
        refine (order_any x[k] y[k] _).mono ?_
        rintro e w' ⟨rfl, hb2⟩
        have hst := cmpSyms_drop x y k hlt hlt'
        by_cases h0 : ordS x[k] y[k] = 0
        · rw [if_neg (by simpa using h0)] at hst
          have h0' : (ordS x[k] y[k] != 0) = false := by simp [h0]
          have HS := Lib.hid hst
          clear hst h0
          go_wp2
          go_roundw
          case rel => exact ⟨k + 1, by omega, by omega, by go_num, HD.out.trans HS.out, (((hb.alloc hb.size _).alloc (by simp; have := hb.size; omega) _).trans (hb2.mono (by simp; have := hb.size; omega)))⟩
          case measure => simp [intOf]; omega
        · rw [if_pos (by simpa using h0)] at hst
          have h0' : (ordS x[k] y[k] != 0) = true := by simp [h0]
          have HS := Lib.hid hst
          clear hst h0
          go_wp2
          go_ret
          exact ⟨ret_int (by rw [HD.out, HS.out]), (((hb.alloc hb.size _).alloc (by simp; have := hb.size; omega) _).trans (hb2.mono (by simp; have := hb.size; omega)))⟩
      · have hst := cmpSyms_long x y k hlt (by omega)
        have HS := Lib.hid hst
        clear hst
        go_wp2
        go_ret
        exact ⟨ret_int (by rw [HD.out, HS.out]), hb.alloc hb.size _⟩
    · have hst := cmpSyms_end x y k (by omega) hk'
      have HS := Lib.hid hst
      clear hst
      by_cases hlt' : x.length < y.length
      · go_wp2
        go_ret
        exact ⟨ret_int (by rw [HD.out, HS.out, if_pos (by omega)]), hb⟩
      · go_wp2
        go_ret
        exact ⟨ret_int (by rw [HD.out, HS.out, if_neg (by omega)]), hb⟩
end Go.Proofs.YtdbkbkopcnkgcaaGreat

open Go Go.RowKit
namespace Go.Proofs.YtdbkbkopcnkgcaaGreat

def cmpRule (a b : Rule) : Int := if cmpI a.l b.l ≠ 0 then cmpI a.l b.l else cmpSyms a.r b.r

theorem ordS_eq (a b : Sym) : ordS a b = 0 ↔ a = b := by
  obtain ⟨at_, an⟩ := a
  obtain ⟨bt, bn⟩ := b
  unfold ordS
  cases at_ <;> cases bt <;> simp <;> omega
theorem cmpSyms_eq : ∀ (x y : List Sym), cmpSyms x y = 0 ↔ x = y
  | [], [] => by simp [cmpSyms]
  | [], _ :: _ => by simp [cmpSyms]
  | _ :: _, [] => by simp [cmpSyms]
  | a :: x, b :: y => by
    unfold cmpSyms
    by_cases h : ordS a b = 0
    · rw [if_neg (by simpa using h), cmpSyms_eq x y, (ordS_eq a b).1 h]; simp
    · rw [if_pos (by simpa using h)]
      have : a ≠ b := fun e => h ((ordS_eq a b).2 e)
      simp [h, this]
theorem cmpRule_eq (a b : Rule) : cmpRule a b = 0 ↔ a = b := by
  obtain ⟨al, ar⟩ := a
  obtain ⟨bl, br⟩ := b
  unfold cmpRule cmpI
  by_cases h : al < bl
  · simp [h]; omega
  · by_cases h2 : bl < al
    · simp [h, h2]; omega
    · have : al = bl := by omega
      subst this
      simp [cmpSyms_eq]

theorem cmpRule_any (F : Nat → Prop) (x y : Rule) (A B : Option Addr) (nx ny cx cy : Nat) (w : World) (hx : IsSl Elt.sym F w (.slice A nx cx) x.r) (hy : IsSl Elt.sym F w (.slice B ny cy) y.r) :
    Calls Tryz.prog 61 #[.agg #[.int .i64 x.l, .slice A nx cx], .agg #[.int .i64 y.l, .slice B ny cy]] w fun e w' => e = .returned (.int .i64 (cmpRule x y)) ∧ Below w.heap.size w w' := by
  by_cases h : cmpI x.l y.l = 0
  · have h' : (cmpI x.l y.l != 0) = false := by simp [h]
    have hf : cmpRule x y = cmpSyms x.r y.r := by unfold cmpRule; rw [if_neg (by simpa using h)]
    have HF := Lib.hid hf
    clear hf h
    go_enter Tryz.func61, Tryz.ntmps61
    go_wp2_with (go_at_call 76; refine (cmp_any _ _ _).mono ?_; rintro e w' ⟨rfl, rfl⟩)
    have hb : Below w.heap.size w ((w.alloc (.cells #[.int .i64 x.l, .slice A nx cx] 99)).alloc (.cells #[.int .i64 y.l, .slice B ny cy] 99)) := ((Below.refl _ _).alloc (Nat.le_refl _) _).alloc (by simp) _
    refine (cmpSyms_any F x.r y.r A B nx ny cx cy _ (hx.below hb) (hy.below hb)).mono ?_
    rintro e w' ⟨rfl, hb2⟩
    go_wp2
    go_ret
    exact ⟨ret_int (by rw [HF.out]), hb.trans (hb2.mono (by simp; omega))⟩
  · have h' : (cmpI x.l y.l != 0) = true := by simp [h]
    have hf : cmpRule x y = cmpI x.l y.l := by unfold cmpRule; rw [if_pos (by simpa using h)]
    have HF := Lib.hid hf
    clear hf h
    go_enter Tryz.func61, Tryz.ntmps61
    go_wp2_with (go_at_call 76; refine (cmp_any _ _ _).mono ?_; rintro e w' ⟨rfl, rfl⟩)
    go_ret
    exact ⟨ret_int (by rw [HF.out]), ((Below.refl _ _).alloc (Nat.le_refl _) _).alloc (by simp) _⟩

/-- a word over the grammar's terminals -/
def OkWord (g : Gram) (x : List Int) : Prop := ∀ t ∈ x, 0 ≤ t ∧ t < g.terms

set_option maxHeartbeats 400000 in
theorem gramWord_any (F : Nat → Prop) (g : Gram) (vr : Value) (x : List Int) (A : Option Addr) (n c : Nat) (most : Int) (w : World) (hx : IsSl Elt.int F w (.slice A n c) x) (hm : (x.length : Int) ≤ most) (ho : OkWord g x) :
    Calls Tryz.prog 40 #[gramV g vr, .slice A n c, .int .i64 most] w fun e w' => e = .returned (.int .i64 0) ∧ Below w.heap.size w w' := by
  obtain ⟨rfl, hn⟩ := hx.len
  unfold gramV
  go_enter Tryz.func40, Tryz.ntmps40
  go_wp2
  go_loopw [15] (fun i wr => ∃ k : Nat, k ≤ x.length ∧ i = .int .i64 k ∧ Below (w.heap.size + 1) (w.alloc (.cells #[.int .i64 g.terms, .int .i64 g.nons, .int .i64 g.start, vr] 25)) wr) (fun i _ => x.length - (intOf i).toNat)
  case atStart => exact ⟨0, by omega, rfl, Below.refl _ _⟩
  case round =>
    obtain ⟨k, hk, rfl, hb⟩ := hrel
    have hb0 : Below w.heap.size w wr := ((Below.refl _ _).alloc (Nat.le_refl _) _).trans (hb.mono (by omega))
    have hg := box_cell hb (j := 0) rfl
    by_cases hlt : k < x.length
    · obtain ⟨b, o, rfl, hF, hl, hc⟩ := (hx.below hb0).oneAt k hlt
      have h1 := (ho x[k] (by simp)).1
      have h2 := (ho x[k] (by simp)).2
      go_wp2
      go_roundw
      case rel => exact ⟨k + 1, by omega, by go_num, hb⟩
      case measure => simp [intOf]; omega
    · go_wp2
      go_ret
      exact ⟨rfl, hb0⟩
end Go.Proofs.YtdbkbkopcnkgcaaGreat

open Go Go.RowKit
namespace Go.Proofs.YtdbkbkopcnkgcaaGreat

theorem take_sl {α : Type} {d : Elt α} {F : Nat → Prop} {w : World} {A : Option Addr} {n c m : Nat} {xs : List α} (h : IsSl d F w (.slice A n c) xs) (i : Nat) (hi : i ≤ xs.length) : IsSl d F w (.slice A i m) (xs.take i) := by
  obtain ⟨A', c', he, hl, h⟩ := h
  injection he with h1 h2 h3
  subst h1
  refine ⟨A, m, by rw [List.length_take, Nat.min_eq_left hi], by rw [List.length_take]; omega, fun k hk => ?_⟩
  rw [List.length_take] at hk
  obtain ⟨b, o, rfl, hb, hlt, he⟩ := h k (by omega)
  exact ⟨b, o, rfl, hb, hlt, by rw [List.getElem_take]; exact he⟩

set_option maxRecDepth 100000 in
set_option maxHeartbeats 1600000 in
theorem check_valid (F : Nat → Prop) (g : Gram) (A : Option Addr) (n c : Nat) (w : World) (hr : IsSl Elt.rule F w (.slice A n c) g.rules) (hv : Valid g) (hc : n ≤ c) :
    Calls Tryz.prog 38 #[gramV g (.slice A n c)] w fun e w' => e = .returned (.int .i64 0) ∧ Below w.heap.size w w' := by
  obtain ⟨rfl, hn⟩ := hr.len
  have t1 := hv.t1
  have t8 := hv.t8
  have n1 := hv.n1
  have n10 := hv.n10
  have s0 := hv.s0
  have s1 := hv.s1
  have hlen := hv.len
  unfold gramV
  go_enter Tryz.func38, Tryz.ntmps38
  go_wp2
  go_loopw [46] (fun i wr => ∃ k : Nat, k ≤ g.rules.length ∧ i = .int .i64 k ∧ Below (w.heap.size + 1) (w.alloc (.cells #[.int .i64 g.terms, .int .i64 g.nons, .int .i64 g.start, .slice A g.rules.length c] 25)) wr) (fun i _ => g.rules.length - (intOf i).toNat)
  case atStart => exact ⟨0, by omega, rfl, Below.refl _ _⟩
  case round =>
    obtain ⟨k, hk, rfl, hb⟩ := hrel
    have hb0 : Below w.heap.size w wr := ((Below.refl _ _).alloc (Nat.le_refl _) _).trans (hb.mono (by omega))
    have hg0 := box_cell hb (j := 0) rfl
    have hg1 := box_cell hb (j := 1) rfl
    have hg3 := box_cell hb (j := 3) rfl
    have hsz : w.heap.size < wr.heap.size := by have := hb.size; simp at this; omega
    by_cases hlt : k < g.rules.length
    · obtain ⟨b, o, rfl, hF, hl, hc1, A', c', hc2, hsy⟩ := (hr.below hb0).ruleAt k hlt
      obtain ⟨wo, rfl⟩ : ∃ wo : World, wo = wr := ⟨_, rfl⟩
      have hok := hv.ok g.rules[k] (by simp)
      have l0 := hok.l0
      have l1 := hok.l1
      have ln := hok.len
      go_wp2
      go_loopw [68] (fun i wr => ∃ j : Nat, j ≤ g.rules[k].r.length ∧ i = .int .i64 j ∧ Below (wo.heap.size + 1) (wo.alloc (.cells #[.int .i64 g.rules[k].l, .slice A' g.rules[k].r.length c'] 99)) wr) (fun i _ => g.rules[k].r.length - (intOf i).toNat)
      case atStart => exact ⟨0, by omega, rfl, Below.refl _ _⟩
      case round =>
        obtain ⟨j, hj, rfl, hbi⟩ := hrel
        have hbi1 : Below wo.heap.size wo wr := ((Below.refl _ _).alloc (Nat.le_refl _) _).trans (hbi.mono (by omega))
        have hbi0 : Below (w.heap.size + 1) (w.alloc (.cells #[.int .i64 g.terms, .int .i64 g.nons, .int .i64 g.start, .slice (some ⟨b, o, none⟩) g.rules.length c] 25)) wr := hb.trans (hbi1.mono hsz)
        have hj0 := box_cell hbi0 (j := 0) rfl
        have hj1 := box_cell hbi0 (j := 1) rfl
        have hj3 := box_cell hbi0 (j := 3) rfl
        have hsi : wo.heap.size < wr.heap.size := by have := hbi.size; simp at this; omega
        have hsw : w.heap.size < wr.heap.size := by omega
        by_cases hlt2 : j < g.rules[k].r.length
        · obtain ⟨b2, o2, rfl, hF2, hl2, hc3, hc4⟩ := (hsy.below hbi1).symAt j hlt2
          have hs := hok.syms g.rules[k].r[j] (by simp)
          have hs0 := hs.n0
          have hs1 := hs.nt
          have hs2 := hs.nn
          generalize g.rules[k].r[j] = y at hs0 hs1 hs2 hc3 hc4
          clear hs
          obtain ⟨yt, yn⟩ := y
          cases yt
          · have hs3 := hs2 rfl
            simp only at hs0 hs3 hc3 hc4
            clear hs1 hs2
            go_wp2
            go_roundw
            case rel => exact ⟨j + 1, by omega, by go_num, hbi.alloc hsi _⟩
            case measure => simp [intOf]; omega
          · have hs3 := hs1 rfl
            simp only at hs0 hs3 hc3 hc4
            clear hs1 hs2
            go_wp2
            go_roundw
            case rel => exact ⟨j + 1, by omega, by go_num, hbi.alloc hsi _⟩
            case measure => simp [intOf]; omega
        · have hq0 := box_cell hbi (j := 0) rfl
          have hq1 := box_cell hbi (j := 1) rfl
          go_wp2
          obtain ⟨wi, rfl⟩ : ∃ wi : World, wi = wr := ⟨_, rfl⟩
          go_loopw [104] (fun i wr => ∃ m : Nat, m ≤ k ∧ i = .int .i64 m ∧ Below wi.heap.size wi wr) (fun i _ => k - (intOf i).toNat)
          case atStart => exact ⟨0, by omega, rfl, Below.refl _ _⟩
          case round =>
            obtain ⟨m, hm, rfl, hbm⟩ := hrel
            have hq0 := (hbm.cell (p := ⟨wo.heap.size, 0, none⟩) hsi).trans hq0
            have hq1 := (hbm.cell (p := ⟨wo.heap.size, 1, none⟩) hsi).trans hq1
            have hsr := hbm.size
            have hsr2 : wo.heap.size < wr.heap.size := by omega
            have hbm0 : Below w.heap.size w wr := hb0.trans (((hbi1.mono (by omega))).trans (hbm.mono (by omega)))
            by_cases hlt3 : m < k
            · obtain ⟨b3, o3, he3, hF3, hl3, hc5, A3, c3, hc6, hs6⟩ := (hr.below hbm0).ruleAt m (by omega)
              injection he3 with he3
              injection he3 with he3 he4
              subst he3
              subst he4
              have hsy3 := hsy.below (hbi1.trans (hbm.mono (by omega)))
              have hne : cmpRule g.rules[m] g.rules[k] ≠ 0 := by
                rw [Ne, cmpRule_eq]
                exact List.pairwise_iff_getElem.1 hv.nodup m k (by omega) hlt hlt3
              have hne' : (cmpRule g.rules[m] g.rules[k] == 0) = false := by simpa using hne
              clear hne
              go_wp2_with fail
              refine (cmpRule_any F g.rules[m] g.rules[k] A3 A' _ _ c3 c' _ (hs6.below ((Below.refl _ _).alloc (Nat.le_refl _) _)) (hsy3.below ((Below.refl _ _).alloc (Nat.le_refl _) _))).mono ?_
              rintro e w' ⟨rfl, hb2⟩
              go_wp2
              go_roundw
              case rel => exact ⟨m + 1, by omega, by go_num, (hbm.alloc hsr _).trans (hb2.mono (by simp; omega))⟩
              case measure => simp [intOf]; omega
            · go_wp2
              go_roundw
              case rel => exact ⟨k + 1, by omega, by go_num, hb.trans (hbi1.mono (by omega) |>.trans (hbm.mono (by omega)))⟩
              case measure => simp [intOf]; omega
    · go_wp2
      go_ret
      exact ⟨rfl, hb0⟩

theorem check_ok (F : Nat → Prop) (g : Gram) (A : Option Addr) (n c : Nat) (x : List Int) (B : Option Addr) (m d : Nat) (w : World) (hr : IsSl Elt.rule F w (.slice A n c) g.rules) (hv : Valid g) (hc : n ≤ c)
    (hx : IsSl Elt.int F w (.slice B m d) x) (ho : OkWord g x) (hm : x.length ≤ 12) :
    Calls Tryz.prog 21 #[gramV g (.slice A n c), .slice B m d] w fun e w' => e = .returned (.int .i64 0) ∧ Below w.heap.size w w' := by
  have hm2 : (x.length : Int) ≤ 12 := by omega
  go_enter Tryz.func21, Tryz.ntmps21
  unfold gramV
  go_wp2_with fail
  have hb1 : Below w.heap.size w (w.alloc (.cells #[.int .i64 g.terms, .int .i64 g.nons, .int .i64 g.start, .slice A n c] 25)) := (Below.refl _ _).alloc (Nat.le_refl _) _
  refine (check_valid F g A n c _ (hr.below hb1) hv hc).mono ?_
  rintro e w' ⟨rfl, hb2⟩
  have hb3 : Below w.heap.size w w' := hb1.trans (hb2.mono (by simp))
  have h0 := box_cell (w := w) (wr := w') (hb2.mono (by simp)) (j := 0) rfl
  have h1 := box_cell (w := w) (wr := w') (hb2.mono (by simp)) (j := 1) rfl
  have h2 := box_cell (w := w) (wr := w') (hb2.mono (by simp)) (j := 2) rfl
  have h3 := box_cell (w := w) (wr := w') (hb2.mono (by simp)) (j := 3) rfl
  go_wp2_with fail
  refine (gramWord_any F g _ x B m d 12 _ (hx.below hb3) (by omega) ho).mono ?_
  rintro e w2 ⟨rfl, hb4⟩
  go_wp2
  go_ret
  exact ⟨rfl, hb3.trans (hb4.mono hb3.size)⟩
end Go.Proofs.YtdbkbkopcnkgcaaGreat
