import Derived.WalkKit
import Derived.Lib.Hide
open Go Go.RowKit
namespace Go.Proofs.Ytdbkbkopcnkgcaa

/-- A way to read one element of a slice: how many cells, and what they hold. -/
structure Elt (α : Type) where
  sz : Nat
  E : (Nat → Prop) → World → Nat → Nat → α → Prop
  keep : ∀ {F : Nat → Prop} {w w' : World} {b o : Nat} {x : α}, (∀ k, F k → w'.heap[k]? = w.heap[k]?) → E F w b o x → E F w' b o x
  weak : ∀ {F G : Nat → Prop} {w : World} {b o : Nat} {x : α}, (∀ k, F k → G k) → E F w b o x → E G w b o x
  old : ∀ {F : Nat → Prop} {w : World} {b o : Nat} {x : α}, E F w b o x → E (fun k => F k ∧ k < w.heap.size) w b o x

/-- The value v is a slice with the elements xs. -/
def IsSl {α : Type} (d : Elt α) (F : Nat → Prop) (w : World) (v : Value) (xs : List α) : Prop :=
  ∃ A c, v = .slice A xs.length c ∧ xs.length ≤ 9223372036854775807 ∧ ∀ k (h : k < xs.length), ∃ b o, A = some ⟨b, o, none⟩ ∧ F b ∧ b < w.heap.size ∧ d.E F w b (o + k * d.sz) xs[k]

theorem IsSl.keep {α : Type} {d : Elt α} {F : Nat → Prop} {w w' : World} {v : Value} {xs : List α} (hk : ∀ k, F k → w'.heap[k]? = w.heap[k]?) (hs : w.heap.size ≤ w'.heap.size) (h : IsSl d F w v xs) : IsSl d F w' v xs := by
  obtain ⟨A, c, rfl, hl, h⟩ := h
  refine ⟨A, c, rfl, hl, fun k hk' => ?_⟩
  obtain ⟨b, o, rfl, hb, hlt, he⟩ := h k hk'
  exact ⟨b, o, rfl, hb, by omega, d.keep hk he⟩

theorem IsSl.weak {α : Type} {d : Elt α} {F G : Nat → Prop} {w : World} {v : Value} {xs : List α} (hk : ∀ k, F k → G k) (h : IsSl d F w v xs) : IsSl d G w v xs := by
  obtain ⟨A, c, rfl, hl, h⟩ := h
  refine ⟨A, c, rfl, hl, fun k hk' => ?_⟩
  obtain ⟨b, o, rfl, hb, hlt, he⟩ := h k hk'
  exact ⟨b, o, rfl, hk _ hb, hlt, d.weak hk he⟩

theorem IsSl.old {α : Type} {d : Elt α} {F : Nat → Prop} {w : World} {v : Value} {xs : List α} (h : IsSl d F w v xs) : IsSl d (fun k => F k ∧ k < w.heap.size) w v xs := by
  obtain ⟨A, c, rfl, hl, h⟩ := h
  refine ⟨A, c, rfl, hl, fun k hk' => ?_⟩
  obtain ⟨b, o, rfl, hb, hlt, he⟩ := h k hk'
  exact ⟨b, o, rfl, ⟨hb, hlt⟩, hlt, d.old he⟩

/-- What lay there before stays readable when only blocks below are kept. -/
theorem IsSl.below {α : Type} {d : Elt α} {F : Nat → Prop} {w w' : World} {v : Value} {xs : List α} (hb : Below w.heap.size w w') (h : IsSl d F w v xs) : IsSl d F w' v xs :=
  ((h.old).keep (fun k hk => hb.block k hk.2) hb.size).weak (fun _ hk => hk.1)

theorem cell_keep {F : Nat → Prop} {w w' : World} {b o : Nat} {v : Value} (hk : ∀ k, F k → w'.heap[k]? = w.heap[k]?) (hb : F b) (h : w.cell? ⟨b, o, none⟩ = some v) : w'.cell? ⟨b, o, none⟩ = some v :=
  (World.cell?_of_block (w := w) (hk b hb)).trans h
theorem cell_lt {w : World} {b o : Nat} {v : Value} (h : w.cell? ⟨b, o, none⟩ = some v) : b < w.heap.size := World.block_lt_of_cell? w _ h

/-- one cell, by an encoding -/
def Elt.one {α : Type} (enc : α → Value) : Elt α where
  sz := 1
  E F w b o x := F b ∧ w.cell? ⟨b, o, none⟩ = some (enc x)
  keep hk h := ⟨h.1, cell_keep hk h.1 h.2⟩
  weak hk h := ⟨hk _ h.1, h.2⟩
  old h := ⟨⟨h.1, cell_lt h.2⟩, h.2⟩
def Elt.int : Elt Int := Elt.one (Value.int .i64)
def Elt.u32 : Elt Nat := Elt.one (fun n => Value.int .u32 n)
def Elt.bool : Elt Bool := Elt.one Value.bool

/-- a slice inside; its capacity is at least its length -/
def Elt.sl {α : Type} (d : Elt α) : Elt (List α) where
  sz := 1
  E F w b o x := F b ∧ ∃ A c, w.cell? ⟨b, o, none⟩ = some (.slice A x.length c) ∧ x.length ≤ c ∧ IsSl d F w (.slice A x.length c) x
  keep hk h := by
    obtain ⟨hb, A0, c0, hc, hcap, h⟩ := h
    refine ⟨hb, A0, c0, cell_keep hk hb hc, hcap, ?_⟩
    obtain ⟨A, c, he, hl, h⟩ := h
    refine ⟨A, c, he, hl, fun k hk' => ?_⟩
    obtain ⟨b, o, rfl, hb, hlt, he⟩ := h k hk'
    refine ⟨b, o, rfl, hb, ?_, d.keep hk he⟩
    have := hk b hb
    rw [Array.getElem?_eq_getElem hlt] at this
    exact (Array.getElem?_eq_some_iff.1 this).1
  weak hk h := by obtain ⟨hb, A, c, hc, hcap, h⟩ := h; exact ⟨hk _ hb, A, c, hc, hcap, h.weak hk⟩
  old h := by obtain ⟨hb, A, c, hc, hcap, h⟩ := h; exact ⟨⟨hb, cell_lt hc⟩, A, c, hc, hcap, h.old⟩

/-- two parts -/
def Elt.pair {α β : Type} (d : Elt α) (e : Elt β) : Elt (α × β) where
  sz := d.sz + e.sz
  E F w b o x := d.E F w b o x.1 ∧ e.E F w b (o + d.sz) x.2
  keep hk h := ⟨d.keep hk h.1, e.keep hk h.2⟩
  weak hk h := ⟨d.weak hk h.1, e.weak hk h.2⟩
  old h := ⟨d.old h.1, e.old h.2⟩

/-- another type with the same parts -/
def Elt.map {α β : Type} (d : Elt α) (f : β → α) : Elt β where
  sz := d.sz
  E F w b o x := d.E F w b o (f x)
  keep hk h := d.keep hk h
  weak hk h := d.weak hk h
  old h := d.old h

theorem ret_int {k : IntKind} {a b : Int} (h : a = b) : Ending.returned (.int k a) = .returned (.int k b) := by rw [h]
theorem ret_bool {a b : Bool} (h : a = b) : Ending.returned (.bool a) = .returned (.bool b) := by rw [h]
theorem ret_val {a b : Value} (h : a = b) : Ending.returned a = .returned b := by rw [h]

structure Sym where
  t : Bool
  n : Int
deriving DecidableEq, Repr, Inhabited
structure Rule where
  l : Int
  r : List Sym
deriving DecidableEq, Repr, Inhabited
structure Gram where
  terms : Int
  nons : Int
  start : Int
  rules : List Rule
deriving DecidableEq, Repr, Inhabited

def Elt.sym : Elt Sym := (Elt.bool.pair Elt.int).map fun s => (s.t, s.n)
def Elt.rule : Elt Rule := (Elt.int.pair Elt.sym.sl).map fun s => (s.l, s.r)
def symV (s : Sym) : Value := .agg #[.bool s.t, .int .i64 s.n]

/-- the element k of a slice of symbols -/
theorem IsSl.symAt {F : Nat → Prop} {w : World} {A : Option Addr} {n c : Nat} {xs : List Sym} (h : IsSl Elt.sym F w (.slice A n c) xs) (k : Nat) (hk : k < xs.length) :
    ∃ b o, A = some ⟨b, o, none⟩ ∧ F b ∧ b < w.heap.size ∧ w.cell? ⟨b, o + k * 2, none⟩ = some (.bool xs[k].t) ∧ w.cell? ⟨b, o + k * 2 + 1, none⟩ = some (.int .i64 xs[k].n) := by
  obtain ⟨A', c', he, hl, h⟩ := h
  injection he with h1 h2 h3
  subst h1
  obtain ⟨b, o, rfl, hb, hlt, he⟩ := h k hk
  exact ⟨b, o, rfl, hb, hlt, he.1.2, he.2.2⟩
theorem IsSl.len {α : Type} {d : Elt α} {F : Nat → Prop} {w : World} {A : Option Addr} {n c : Nat} {xs : List α} (h : IsSl d F w (.slice A n c) xs) : n = xs.length ∧ n ≤ 9223372036854775807 := by
  obtain ⟨A', c', he, hl, h⟩ := h
  injection he with h1 h2 h3
  exact ⟨h2, by omega⟩
theorem IsSl.form {α : Type} {d : Elt α} {F : Nat → Prop} {w : World} {v : Value} {xs : List α} (h : IsSl d F w v xs) : ∃ A c, v = .slice A xs.length c := by
  obtain ⟨A', c', he, hl, h⟩ := h
  exact ⟨A', c', he⟩

/-- the element k of a slice of rules -/
theorem IsSl.ruleCap {F : Nat → Prop} {w : World} {A : Option Addr} {n c : Nat} {xs : List Rule} (h : IsSl Elt.rule F w (.slice A n c) xs) (k : Nat) (hk : k < xs.length) :
    ∃ b o, A = some ⟨b, o, none⟩ ∧ F b ∧ b < w.heap.size ∧ w.cell? ⟨b, o + k * 2, none⟩ = some (.int .i64 xs[k].l) ∧
      ∃ A' c', w.cell? ⟨b, o + k * 2 + 1, none⟩ = some (.slice A' xs[k].r.length c') ∧ IsSl Elt.sym F w (.slice A' xs[k].r.length c') xs[k].r ∧ xs[k].r.length ≤ c' := by
  obtain ⟨A', c', he, hl, h⟩ := h
  injection he with h1 h2 h3
  subst h1
  obtain ⟨b, o, rfl, hb, hlt, he⟩ := h k hk
  obtain ⟨⟨_, h1⟩, _, A2, c2, h2, h4, h3⟩ := he
  exact ⟨b, o, rfl, hb, hlt, h1, A2, c2, h2, h3, h4⟩
theorem IsSl.ruleAt {F : Nat → Prop} {w : World} {A : Option Addr} {n c : Nat} {xs : List Rule} (h : IsSl Elt.rule F w (.slice A n c) xs) (k : Nat) (hk : k < xs.length) :
    ∃ b o, A = some ⟨b, o, none⟩ ∧ F b ∧ b < w.heap.size ∧ w.cell? ⟨b, o + k * 2, none⟩ = some (.int .i64 xs[k].l) ∧
      ∃ A' c', w.cell? ⟨b, o + k * 2 + 1, none⟩ = some (.slice A' xs[k].r.length c') ∧ IsSl Elt.sym F w (.slice A' xs[k].r.length c') xs[k].r := by
  obtain ⟨b, o, h1, h2, h3, h4, A', c', h5, h6, _⟩ := h.ruleCap k hk
  exact ⟨b, o, h1, h2, h3, h4, A', c', h5, h6⟩
/-- the element k of a slice of one cell each -/
theorem IsSl.oneAt {α : Type} {enc : α → Value} {F : Nat → Prop} {w : World} {A : Option Addr} {n c : Nat} {xs : List α} (h : IsSl (Elt.one enc) F w (.slice A n c) xs) (k : Nat) (hk : k < xs.length) :
    ∃ b o, A = some ⟨b, o, none⟩ ∧ F b ∧ b < w.heap.size ∧ w.cell? ⟨b, o + k, none⟩ = some (enc xs[k]) := by
  obtain ⟨A', c', he, hl, h⟩ := h
  injection he with h1 h2 h3
  subst h1
  obtain ⟨b, o, rfl, hb, hlt, he⟩ := h k hk
  have h2 := he.2
  simp only [Elt.one, Nat.mul_one] at h2
  exact ⟨b, o, rfl, hb, hlt, h2⟩

/-- a block that was just made still reads as it was made -/
theorem box_cell {w wr : World} {cs : Array Value} {T : TypeId} (hb : Below (w.heap.size + 1) (w.alloc (.cells cs T)) wr) {j : Nat} {v : Value} (h : cs[j]? = some v) : wr.cell? ⟨w.heap.size, j, none⟩ = some v := by
  rw [hb.cell (p := ⟨w.heap.size, j, none⟩) (by show w.heap.size < w.heap.size + 1; omega)]
  rw [World.cell?, heap_alloc_new]
  exact h

def gramV (g : Gram) (vr : Value) : Value := .agg #[.int .i64 g.terms, .int .i64 g.nons, .int .i64 g.start, vr]

structure OkSym (g : Gram) (s : Sym) : Prop where
  n0 : 0 ≤ s.n
  nt : s.t = true → s.n < g.terms
  nn : s.t = false → s.n < g.nons
structure OkRule (g : Gram) (r : Rule) : Prop where
  l0 : 0 ≤ r.l
  l1 : r.l < g.nons
  len : r.r.length ≤ 4
  syms : ∀ s ∈ r.r, OkSym g s
/-- a valid grammar -/
structure Valid (g : Gram) : Prop where
  t1 : 1 ≤ g.terms
  t8 : g.terms ≤ 8
  n1 : 1 ≤ g.nons
  n10 : g.nons ≤ 10
  s0 : 0 ≤ g.start
  s1 : g.start < g.nons
  len : g.rules.length ≤ 32
  ok : ∀ r ∈ g.rules, OkRule g r
  nodup : g.rules.Nodup

end Go.Proofs.Ytdbkbkopcnkgcaa
