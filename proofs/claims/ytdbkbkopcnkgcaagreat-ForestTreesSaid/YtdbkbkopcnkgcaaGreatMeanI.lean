import Derived.Test.YtdbkbkopcnkgcaaGreatMeanG
import Derived.Test.YtdbkbkopcnkgcaaGreatShape
import Derived.Test.YtdbkbkopcnkgcaaGreatWorld
open Go Go.RowKit
namespace Go.Proofs.YtdbkbkopcnkgcaaGreat

/-! ### from where the symbols reach the end: plain -/
section
variable {x : List Int} {M : List (List Nat)} {j : Nat}

def rchTo (x : List Int) (M : List (List Nat)) (y : Sym) (r : Nat) : Nat → Nat
  | 0 => 0
  | p + 1 => if aftTo x M y (2 ^ p) (x.length + 1) &&& r ≠ 0 then rchTo x M y r p ||| 2 ^ p else rchTo x M y r p
def rchS (x : List Int) (M : List (List Nat)) (j : Nat) : List Sym → Nat
  | [] => 2 ^ j
  | y :: l => rchTo x M y (rchS x M j l) (j + 1)

theorem and_ne {a b : Nat} : a &&& b ≠ 0 ↔ ∃ z, a.testBit z = true ∧ b.testBit z = true := by
  refine ⟨fun h => ?_, fun ⟨z, h1, h2⟩ e => ?_⟩
  · obtain ⟨z, hz⟩ := Nat.exists_testBit_of_ne_zero h
    rw [Nat.testBit_and, Bool.and_eq_true] at hz
    exact ⟨z, hz⟩
  · have := congrArg (Nat.testBit · z) e
    simp [h1, h2] at this

theorem rchTo_bit {y : Sym} {r : Nat} : ∀ q, q ≤ x.length + 1 → ∀ p, (rchTo x M y r q).testBit p = true ↔ p < q ∧ ∃ z, (aft1 x M y p).testBit z = true ∧ r.testBit z = true
  | 0, _, p => by unfold rchTo; simp
  | q + 1, hq, p => by
    have ih := rchTo_bit (y := y) (r := r) q (by omega) p
    have haft : ∀ z, (aftTo x M y (2 ^ q) (x.length + 1)).testBit z = true ↔ (aft1 x M y q).testBit z = true := fun z => by
      rw [aftTo_bit]
      exact ⟨fun ⟨i, _, h2, h3⟩ => by rw [pow_bit h2]; exact h3, fun h => ⟨q, by omega, pow_self q, h⟩⟩
    unfold rchTo
    split
    · rename_i h
      obtain ⟨z, h1, h2⟩ := and_ne.1 h
      rw [Nat.testBit_or, Bool.or_eq_true, ih]
      refine ⟨fun h3 => ?_, fun ⟨h3, h4⟩ => ?_⟩
      · rcases h3 with ⟨h3, h4⟩ | h3
        · exact ⟨by omega, h4⟩
        · have := pow_bit h3
          subst this
          exact ⟨by omega, z, (haft z).1 h1, h2⟩
      · by_cases e : p = q
        · right; subst e; exact pow_self p
        · left; exact ⟨by omega, h4⟩
    · rename_i h
      rw [ih]
      refine ⟨fun ⟨h3, h4⟩ => ⟨by omega, h4⟩, fun ⟨h3, z, h4, h5⟩ => ⟨?_, z, h4, h5⟩⟩
      by_cases e : p = q
      · subst e
        exact absurd (and_ne.2 ⟨z, (haft z).2 h4, h5⟩) h
      · omega

theorem rchS_bit (hlow : MLow M) (hj : j ≤ x.length) : ∀ (l : List Sym) (p : Nat), (rchS x M j l).testBit p = true ↔ p ≤ j ∧ (seqEnds x M l (2 ^ p)).testBit j = true
  | [], p => by
    unfold rchS
    refine ⟨fun h => ?_, fun ⟨_, h⟩ => ?_⟩
    · have := pow_bit h; subst this; exact ⟨Nat.le_refl _, pow_self _⟩
    · have : p = j := pow_bit h
      subst this
      exact pow_self _
  | y :: l, p => by
    unfold rchS
    rw [rchTo_bit _ (by omega), seq_cons]
    refine ⟨fun ⟨h1, z, h2, h3⟩ => ?_, fun ⟨h1, _, z, h2, h3⟩ => ?_⟩
    · have := (rchS_bit hlow hj l z).1 h3
      exact ⟨by omega, by omega, z, h2, this.2⟩
    · refine ⟨by omega, z, h2, (rchS_bit hlow hj l z).2 ⟨?_, h3⟩⟩
      exact seq_low hlow l (2 ^ z) z j (fun k hk => by have := pow_bit hk; omega) h3

theorem rchTo_lt {y : Sym} {r : Nat} : ∀ q, q ≤ 13 → rchTo x M y r q < 2 ^ 32
  | 0, _ => by unfold rchTo; decide
  | q + 1, hq => by
    have := rchTo_lt (y := y) (r := r) q (by omega)
    unfold rchTo
    split
    · exact or_lt this (pow_lt13 (by omega))
    · exact this
theorem rchS_lt (hj : j ≤ 12) : ∀ l : List Sym, rchS x M j l < 2 ^ 32
  | [] => by unfold rchS; exact pow_lt13 (by omega)
  | y :: l => by unfold rchS; exact rchTo_lt _ (by omega)

/-- the row of reach, filled from q on -/
def rchL (x : List Int) (M : List (List Nat)) (j : Nat) (l : List Sym) (q : Nat) : List Nat := (List.range (l.length + 1)).map fun i => if q ≤ i then rchS x M j (l.drop i) else 0
theorem rchL_len {l : List Sym} {q : Nat} : (rchL x M j l q).length = l.length + 1 := by unfold rchL; simp
theorem rchL_get {l : List Sym} {q i : Nat} (hi : i ≤ l.length) : (rchL x M j l q)[i]? = some (if q ≤ i then rchS x M j (l.drop i) else 0) := by
  unfold rchL
  rw [List.getElem?_map, List.getElem?_range (by omega)]
  rfl
theorem rchL_set {l : List Sym} {q : Nat} (hq : q ≤ l.length) : (rchL x M j l (q + 1)).set q (rchS x M j (l.drop q)) = rchL x M j l q := by
  refine List.ext_getElem? fun i => ?_
  rw [List.getElem?_set]
  by_cases e : q = i
  · subst e
    rw [if_pos rfl, if_pos (by rw [rchL_len]; omega), rchL_get hq, if_pos (Nat.le_refl _)]
  · rw [if_neg e]
    by_cases hi : i ≤ l.length
    · rw [rchL_get hi, rchL_get hi]
      by_cases h : q ≤ i
      · rw [if_pos h, if_pos (by omega)]
      · rw [if_neg h, if_neg (by omega)]
    · rw [List.getElem?_eq_none (by rw [rchL_len]; omega), List.getElem?_eq_none (by rw [rchL_len]; omega)]
end
end Go.Proofs.YtdbkbkopcnkgcaaGreat

open Go Go.RowKit
namespace Go.Proofs.YtdbkbkopcnkgcaaGreat

theorem Tryz.infoIntM : (Tryz.prog.info? 3).map (fun i => (i.zero, i.size, i.bytes)) = some (some (.int .i64 0), 1, 8) := by kernel_rfl

theorem six_new {w W : World} {o0 o1 o2 o3 o4 o5 : Obj} (hW : (((((w.alloc o0).alloc o1).alloc o2).alloc o3).alloc o4).alloc o5 = W) : Below w.heap.size w W ∧ W.heap.size = w.heap.size + 1 + 1 + 1 + 1 + 1 + 1 ∧ W.heap[w.heap.size]? = some o0 ∧ W.heap[w.heap.size + 1]? = some o1 ∧ W.heap[w.heap.size + 1 + 1]? = some o2 ∧ W.heap[w.heap.size + 1 + 1 + 1]? = some o3 ∧ W.heap[w.heap.size + 1 + 1 + 1 + 1]? = some o4 ∧ W.heap[w.heap.size + 1 + 1 + 1 + 1 + 1]? = some o5 := by
  subst hW
  have z1 := World.size_alloc w o0
  have z2 := World.size_alloc (w.alloc o0) o1
  have z3 := World.size_alloc ((w.alloc o0).alloc o1) o2
  have z4 := World.size_alloc (((w.alloc o0).alloc o1).alloc o2) o3
  have z5 := World.size_alloc ((((w.alloc o0).alloc o1).alloc o2).alloc o3) o4
  have z6 := World.size_alloc (((((w.alloc o0).alloc o1).alloc o2).alloc o3).alloc o4) o5
  refine ⟨?_, by omega, ?_, ?_, ?_, ?_, ?_, ?_⟩
  · exact ((((((Below.refl w.heap.size w).alloc (by omega) _).alloc (by omega) _).alloc (by omega) _).alloc (by omega) _).alloc (by omega) _).alloc (by omega) _
  · rw [Below.heap_alloc _ _ _ (by omega), Below.heap_alloc _ _ _ (by omega), Below.heap_alloc _ _ _ (by omega), Below.heap_alloc _ _ _ (by omega), Below.heap_alloc _ _ _ (by omega)]; exact blk_new' rfl o0
  · rw [Below.heap_alloc _ _ _ (by omega), Below.heap_alloc _ _ _ (by omega), Below.heap_alloc _ _ _ (by omega), Below.heap_alloc _ _ _ (by omega)]; exact blk_new' (by omega) o1
  · rw [Below.heap_alloc _ _ _ (by omega), Below.heap_alloc _ _ _ (by omega), Below.heap_alloc _ _ _ (by omega)]; exact blk_new' (by omega) o2
  · rw [Below.heap_alloc _ _ _ (by omega), Below.heap_alloc _ _ _ (by omega)]; exact blk_new' (by omega) o3
  · rw [Below.heap_alloc _ _ _ (by omega)]; exact blk_new' (by omega) o4
  · exact blk_new' (by omega) o5

/-- reach while it is filled -/
structure RSt (w wr : World) (be : Nat) (R : Option Addr) (rc : Nat) (l : List Sym) (j : Nat) (fv : Value) (RL : List Nat) : Prop where
  below : Below w.heap.size w wr
  e : wr.heap[w.heap.size]? = some (.cells #[.pointer (some ⟨be, 0, none⟩)] 66 (0, 0))
  r : wr.heap[w.heap.size + 1]? = some (.cells #[.slice R l.length rc] 97 (0, 0))
  jj : wr.heap[w.heap.size + 1 + 1]? = some (.cells #[.int .i64 j] 3 (0, 0))
  f : wr.heap[w.heap.size + 1 + 1 + 1]? = some (.cells #[fv] 123 (0, 0))
  hd : wr.heap[w.heap.size + 1 + 1 + 1 + 1 + 1]? = some (.cells #[.slice (some ⟨w.heap.size + 1 + 1 + 1 + 1, 0, none⟩) (l.length + 1) (l.length + 1)] 102 (0, 0))
  arr : wr.heap[w.heap.size + 1 + 1 + 1 + 1]? = some (.cells (RL.map fun v : Nat => Value.int .u32 v).toArray 103 (0, 0))
theorem RSt.keep {w wr wr' : World} {be : Nat} {R : Option Addr} {rc : Nat} {l : List Sym} {j : Nat} {fv : Value} {RL : List Nat} (h : RSt w wr be R rc l j fv RL) (hb : Below wr.heap.size wr wr') : RSt w wr' be R rc l j fv RL :=
  ⟨h.below.trans (hb.mono h.below.size), blk_below hb (blk_lt h.e) h.e, blk_below hb (blk_lt h.r) h.r, blk_below hb (blk_lt h.jj) h.jj, blk_below hb (blk_lt h.f) h.f, blk_below hb (blk_lt h.hd) h.hd, blk_below hb (blk_lt h.arr) h.arr⟩
theorem RSt.set {w wr : World} {be : Nat} {R : Option Addr} {rc : Nat} {l : List Sym} {j : Nat} {fv : Value} {RL : List Nat} (h : RSt w wr be R rc l j fv RL) (i v : Nat) : RSt w (wr.setCell ⟨w.heap.size + 1 + 1 + 1 + 1, i, none⟩ (.int .u32 v)) be R rc l j fv (RL.set i v) := by
  refine ⟨h.below.setCell (by show w.heap.size ≤ w.heap.size + 1 + 1 + 1 + 1; omega) _, ?_, ?_, ?_, ?_, ?_, ?_⟩
  · rw [heap_set_ne (by omega)]; exact h.e
  · rw [heap_set_ne (by omega)]; exact h.r
  · rw [heap_set_ne (by omega)]; exact h.jj
  · rw [heap_set_ne (by omega)]; exact h.f
  · rw [heap_set_ne (by omega)]; exact h.hd
  · rw [heap_set h.arr]
    simp [List.map_set]

/-- splits, and the callback: what is asked; K: the blocks that the callback leaves alone -/
structure SpCallK {σ : Type} (Inv : (Nat → Prop) → σ → World → Prop) (st : σ → List Nat → σ) (P : σ → List Nat → Prop) (F : Nat → Prop) (w : World) (id : FuncId) (caps : Array Value) (be : Nat) (g : Gram) (x : List Int) (M : List (List Nat)) (A : Option Addr) (n c : Nat) (B : Option Addr) (m d : Nat) (C : Option Addr) (p q : Nat) (R : Option Addr) (rc : Nat) (l : List Sym) (i j : Nat) : Prop where
  enter : ∀ (args : Array Value) (w : World), Sem.run Tryz.prog (callFunc id args) w = .ok (.enter id args) w
  x12 : x.length ≤ 12
  sy : ∀ y ∈ l, 0 ≤ y.n ∧ (y.t = false → y.n < M.length)
  rows : ∀ r ∈ M, r.length = x.length + 1
  small : ∀ r ∈ M, ∀ v ∈ r, v < 2 ^ 32
  short : Short x M
  low : MLow M
  il : i ≤ x.length
  jl : j ≤ x.length
  l4 : l.length ≤ 4
  ends : IsEnds F w be g x M A n c B m d C p q
  syms : IsSl Elt.sym F w (.slice R l.length rc) l
  invK : ∀ K K' s W, Inv K s W → (∀ b, K' b → b < W.heap.size → K b) → Inv K' s W
  invB : ∀ K s w w', Inv K s w → Below w.heap.size w w' → Inv K s w'
  invS : ∀ K s W b i v, w.heap.size ≤ b → K b → Inv K s W → Inv K s (W.setCell ⟨b, i, none⟩ v)
  call : ∀ K s W L b, L ∈ splL x M j l i → P s L → (∀ b, F b → b < w.heap.size → K b) → (∀ b, K b → b < W.heap.size) → Inv K s W → w.heap.size ≤ b → K b → W.heap[b]? = some (.cells (L.map fun v : Nat => Value.int .i64 v).toArray 3 (0, 0)) → IsEnds F W be g x M A n c B m d C p q → IsSl Elt.sym F W (.slice R l.length rc) l →
    Calls Tryz.prog id (#[.slice (some ⟨b, 0, none⟩) l.length l.length] ++ caps) W fun e w' => e = .returned (.tuple #[]) ∧ Inv K (st s L) w' ∧ Away W.heap.size (fun b => ¬ K b) W w'

theorem ends_weak {F F2 : Nat → Prop} {w : World} {be : Nat} {g : Gram} {x : List Int} {M : List (List Nat)} {A : Option Addr} {n c : Nat} {B : Option Addr} {m d : Nat} {C : Option Addr} {p q : Nat} (h : IsEnds F w be g x M A n c B m d C p q) (hk : ∀ b, F b → F2 b) : IsEnds F2 w be g x M A n c B m d C p q :=
  ⟨hk _ h.fb, h.c0, h.c1, h.c2, h.c3, h.c4, h.c5, h.rules.weak hk, h.word.weak hk, h.mat.weak hk⟩
theorem ends_old {F : Nat → Prop} {w : World} {be : Nat} {g : Gram} {x : List Int} {M : List (List Nat)} {A : Option Addr} {n c : Nat} {B : Option Addr} {m d : Nat} {C : Option Addr} {p q : Nat} (h : IsEnds F w be g x M A n c B m d C p q) : IsEnds (fun b => F b ∧ b < w.heap.size) w be g x M A n c B m d C p q :=
  ⟨⟨h.fb, cell_lt h.c0⟩, h.c0, h.c1, h.c2, h.c3, h.c4, h.c5, h.rules.old, h.word.old, h.mat.old⟩

/-- the boxes of splits are laid: the run over the ends -/
theorem sp_call {σ : Type} {Inv : (Nat → Prop) → σ → World → Prop} {st : σ → List Nat → σ} {P : σ → List Nat → Prop} {F : Nat → Prop} {w wo W6 : World} {id : FuncId} {caps : Array Value} {be : Nat} {g : Gram} {x : List Int} {M : List (List Nat)} {A : Option Addr} {n c : Nat} {B : Option Addr} {m d : Nat} {C : Option Addr} {p q : Nat} {R : Option Addr} {rc : Nat} {l : List Sym} {i j : Nat} {s fin : σ}
    (H : SpCallK Inv st P F w id caps be g x M A n c B m d C p q R rc l i j) (hI : Inv (fun b => F b ∧ b < w.heap.size) s w) (hP : AllP st P s (splL x M j l i)) (hR : RSt w wo be R rc l j (.func (.func id) #[] caps) (rchL x M j l 0)) (hsw : w.heap.size + 1 + 1 + 1 + 1 + 1 < wo.heap.size) (hfin : (splL x M j l i).foldl st s = fin)
    (hb6 : Below wo.heap.size wo W6) (k0 : W6.heap[wo.heap.size]? = some (Obj.cells (madeCells #[Value.int IntKind.i64 0] l.length) 3)) (k1 : W6.heap[wo.heap.size + 1]? = some (Obj.cells #[Value.slice (some ⟨wo.heap.size, 0, none⟩) l.length l.length] 22)) (k2 : W6.heap[wo.heap.size + 1 + 1]? = some (Obj.cells #[Value.func (Fn.func 63) #[] (OnB.caps ⟨w.heap.size + 1, w.heap.size + 1 + 1 + 1, wo.heap.size + 1, w.heap.size, w.heap.size + 1 + 1 + 1 + 1 + 1, w.heap.size + 1 + 1, wo.heap.size + 1 + 1, wo.heap.size, w.heap.size + 1 + 1 + 1 + 1⟩)] 146)) :
    Calls Tryz.prog 63 (#[.int .i64 0, .int .i64 i] ++ OnB.caps ⟨w.heap.size + 1, w.heap.size + 1 + 1 + 1, wo.heap.size + 1, w.heap.size, w.heap.size + 1 + 1 + 1 + 1 + 1, w.heap.size + 1 + 1, wo.heap.size + 1 + 1, wo.heap.size, w.heap.size + 1 + 1 + 1 + 1⟩) W6 fun e w' => e = .returned (.tuple #[]) ∧ Inv (fun b => F b ∧ b < w.heap.size) fin w' := by
  have hbw : Below w.heap.size w W6 := hR.below.trans (hb6.mono hR.below.size)
  have hR6 := hR.keep hb6
  obtain ⟨k, hk⟩ : ∃ k : OnB, k = ⟨w.heap.size + 1, w.heap.size + 1 + 1 + 1, wo.heap.size + 1, w.heap.size, w.heap.size + 1 + 1 + 1 + 1 + 1, w.heap.size + 1 + 1, wo.heap.size + 1 + 1, wo.heap.size, w.heap.size + 1 + 1 + 1 + 1⟩ := ⟨_, rfl⟩
  rw [← hk] at k2 ⊢
  have hkeep : ∀ b, k.keep (fun b => F b ∧ b < w.heap.size) b → (F b ∧ b < w.heap.size) ∨ (w.heap.size ≤ b ∧ b ≠ wo.heap.size) := fun b hb => by
    unfold OnB.keep at hb
    rw [hk] at hb
    simp only at hb
    rcases hb with hb | hb
    · exact .inl hb
    · right; omega
  have hbL : k.bL = wo.heap.size := by rw [hk]
  obtain ⟨K, hK⟩ : ∃ K : Nat → Prop, K = fun b => (F b ∧ b < w.heap.size) ∨ (w.heap.size ≤ b ∧ b ≤ wo.heap.size + 1 + 1) := ⟨_, rfl⟩
  have hkK : ∀ b, k.keep (fun b => F b ∧ b < w.heap.size) b ∨ b = k.bL → K b := fun b hb => by
    rw [hK]
    unfold OnB.keep at hb
    rw [hk] at hb
    simp only at hb
    rcases hb with (hb | hb) | hb
    · exact .inl hb
    · right; omega
    · right; omega
  have hFK : ∀ b, F b → b < w.heap.size → K b := fun b h1 h2 => by rw [hK]; exact .inl ⟨h1, h2⟩
  have hIK : Inv K s w := H.invK _ _ _ _ hI fun b h1 h2 => by
    rw [hK] at h1
    rcases h1 with h1 | h1
    · exact h1
    · omega
  have hends : IsEnds (fun b => F b ∧ b < w.heap.size) W6 be g x M A n c B m d C p q := ends_keep (ends_old H.ends) (fun b hb hlt => hbw.block b hb.2) hbw.size
  have hsyms : IsSl Elt.sym (fun b => F b ∧ b < w.heap.size) W6 (.slice R l.length rc) l := H.syms.old.keep (fun b hb => hbw.block b hb.2) hbw.size
  have hO : OnAt (fun b => F b ∧ b < w.heap.size) W6 k (.func (.func id) #[] caps) be g x M A n c B m d C p q R rc l j (rchL x M j l 0) (List.replicate l.length 0) := by
    refine ⟨?_, hsyms, ?_, ?_, ?_, hends, ?_, ?_, ?_, ?_, ?_, by simp, rchL_len⟩
    · rw [hk]; exact blk_cell hR6.r rfl
    · rw [hk]; exact blk_cell hR6.f rfl
    · rw [hk]; exact blk_cell k1 rfl
    · rw [hk]; exact blk_cell hR6.e rfl
    · rw [hk]; exact blk_cell hR6.hd rfl
    · rw [hk]; exact blk_cell hR6.jj rfl
    · have h := blk_cell k2 (i := 0) rfl
      rw [hk] at h ⊢; exact h
    · rw [hbL, k0, made_one]; simp
    · rw [hk]; exact hR6.arr
  have HC : OnCall (Inv K) st (fun b => F b ∧ b < w.heap.size) (fun b => ¬ K b) k id caps be g x M A n c B m d C p q R rc l j (rchL x M j l 0) (fun s L => L ∈ splL x M j l i ∧ P s L) := by
    refine ⟨H.enter, H.x12, H.sy, H.rows, H.small, H.short, H.jl, H.l4, fun kk hkk z => ?_, fun v hv => ?_, fun b hb => ?_, fun hb => ?_, H.invB K, fun s W t v hI => H.invS K s W _ t v (by rw [hbL]; omega) (hkK _ (.inr rfl)) hI, fun s W L hL hI hO => ?_⟩
    · rw [List.getD_eq_getElem?_getD, rchL_get hkk, if_pos (Nat.zero_le _)]
      exact rchS_bit H.low H.jl _ z
    · unfold rchL at hv
      rw [List.mem_map] at hv
      obtain ⟨t, _, rfl⟩ := hv
      split
      · exact rchS_lt (by have := H.jl; have := H.x12; omega) _
      · decide
    · exact ⟨fun h2 => hb (hkK b (.inl h2)), fun h2 => hb (hkK b (.inr h2))⟩
    · rcases hkeep _ hb with h3 | h3
      · rw [hbL] at h3; omega
      · exact h3.2 hbL
    · have hKW : ∀ b, K b → b < W.heap.size := fun b hb => by
        have h := cell_lt hO.on
        rw [hk] at h
        simp only at h
        rw [hK] at hb
        rcases hb with hb | hb <;> omega
      have hcall := H.call K s W L k.bL hL.1 hL.2 hFK hKW hI (by rw [hbL]; omega) (hkK _ (.inr rfl)) hO.arr (ends_weak hO.ends fun b hb => hb.1) (hO.syms.weak fun b hb => hb.1)
      exact hcall
  have hon := on_any HC l 0 i (List.replicate l.length 0) s W6 rfl (Nat.zero_le _) H.il (H.invB _ _ _ _ hIK hbw) hO (by
    rw [show (splL x M j l i).map ((List.replicate l.length 0).take 0 ++ ·) = splL x M j l i by simp]
    exact hP.mem fun _ h => h)
  refine hon.mono ?_
  rintro e w' ⟨rfl, L', _, _, hI', ha'⟩
  refine ⟨rfl, ?_⟩
  have e2 : (splL x M j l i).map ((List.replicate l.length 0).take 0 ++ ·) = splL x M j l i := by simp
  rw [e2, hfin] at hI'
  exact H.invK _ _ _ _ hI' fun b h1 _ => hFK b h1.1 h1.2

section
variable {σ : Type} {Inv : (Nat → Prop) → σ → World → Prop} {st : σ → List Nat → σ} {P : σ → List Nat → Prop} {F : Nat → Prop} {id : FuncId} {caps : Array Value} {be : Nat} {g : Gram} {x : List Int} {M : List (List Nat)} {A : Option Addr} {n c : Nat} {B : Option Addr} {m d : Nat} {C : Option Addr} {p q : Nat} {R : Option Addr} {rc : Nat} {l : List Sym} {i j : Nat}

set_option maxRecDepth 100000 in
set_option maxHeartbeats 1600000 in
theorem splits_anyK (w : World) (s : σ) (H : SpCallK Inv st P F w id caps be g x M A n c B m d C p q R rc l i j) (hI : Inv (fun b => F b ∧ b < w.heap.size) s w) (hP : AllP st P s (if (rchS x M j l).testBit i = true then splL x M j l i else [])) :
    Calls Tryz.prog 42 #[.pointer (some ⟨be, 0, none⟩), .slice R l.length rc, .int .i64 i, .int .i64 j, .func (.func id) #[] caps] w fun e w' => e = .returned (.tuple #[]) ∧ Inv (fun b => F b ∧ b < w.heap.size) ((if (rchS x M j l).testBit i = true then splL x M j l i else []).foldl st s) w' := by
  have hl4 := H.l4
  have hx12 := H.x12
  have hj := H.jl
  have hi12 : i ≤ 12 := by have := H.il; omega
  have HI := Lib.hid hI
  have HH := Lib.hid H
  have HPP := Lib.hid hP
  clear hI H hP
  generalize hfin : (if (rchS x M j l).testBit i = true then splL x M j l i else []).foldl st s = fin
  have HFIN := Lib.hid hfin
  clear hfin
  have hmkU := run_make_row' (P := Tryz.prog) 102 103 (.int .u32 0) 4 Tryz.underlying102 Tryz.infoU32 rfl .i64 .i64 (l.length + 1) (by omega) (by omega)
  have hmkI := run_make_row' (P := Tryz.prog) 22 3 (.int .i64 0) 8 Tryz.underlying22 Tryz.infoIntM rfl .i64 .i64 l.length (by omega) (by omega)
  simp only [Int.natCast_add, Int.natCast_one] at hmkU
  go_enter Tryz.func42, Tryz.ntmps42
  go_wp2_with fail
  clear hmkU
  generalize hW : ((((((w.alloc (Obj.cells #[Value.pointer (some ⟨be, 0, none⟩)] 66)).alloc (Obj.cells #[Value.slice R l.length rc] 97)).alloc (Obj.cells #[Value.int IntKind.i64 j] 3)).alloc (Obj.cells #[Value.func (Fn.func id) #[] caps] 123)).alloc (Obj.cells (madeCells #[Value.int IntKind.u32 0] (l.length + 1)) 103)).alloc (Obj.cells #[Value.slice (some ⟨w.heap.size + 1 + 1 + 1 + 1, 0, none⟩) (l.length + 1) (l.length + 1)] 102)) = W1
  obtain ⟨hb1, hsz1, h0, h1, h2, h3, h4, h5⟩ := six_new hW
  clear hW
  have c1 := blk_cell h1 (i := 0) rfl
  have c2 := blk_cell h2 (i := 0) rfl
  have c5 := blk_cell h5 (i := 0) rfl
  have hz4 : W1.heap[w.heap.size + 1 + 1 + 1 + 1]? = some (.cells ((rchL x M j l (l.length + 1)).map fun v : Nat => Value.int .u32 v).toArray 103 (0, 0)) := by
    rw [h4, made_one]
    congr 2
    refine congrArg List.toArray (List.ext_getElem? fun k => ?_)
    rw [List.getElem?_map]
    by_cases hk : k ≤ l.length
    · rw [rchL_get hk, if_neg (by omega), List.getElem?_replicate, if_pos (by omega)]
      rfl
    · rw [List.getElem?_eq_none (by rw [List.length_replicate]; omega), List.getElem?_eq_none (by rw [rchL_len]; omega)]
      rfl
  have q4 : W1.cell? ⟨w.heap.size + 1 + 1 + 1 + 1, l.length, none⟩ = some (.int .u32 0) := blk_cell hz4 (by
    rw [List.getElem?_toArray, List.getElem?_map, rchL_get (Nat.le_refl _), if_neg (by omega)]
    rfl)
  have q5 : W1.frozen? ⟨w.heap.size + 1 + 1 + 1 + 1, l.length, none⟩ = false := blk_free hz4
  have hp : IntKind.u32.wrap ((2 : Int) ^ j) = (2 : Int) ^ j := by
    have := (wrap_u32 _).trans (pow_mod13 (k := j) (by omega))
    rw [this]; simp
  have hR1 : RSt w W1 be R rc l j (.func (.func id) #[] caps) (rchL x M j l (l.length + 1)) := ⟨hb1, h0, h1, h2, h3, h5, hz4⟩
  clear hb1 h0 h1 h2 h3 h4 h5 hz4
  go_wp2_with fail
  go_region
  have hpw : ((2 ^ j : Nat) : Int) = (2 : Int) ^ j := by simp
  have hR2 := (hR1.set l.length (2 ^ j)).keep (Below.refl _ _).drew
  rw [hpw] at hR2
  have hset : (rchL x M j l (l.length + 1)).set l.length (2 ^ j) = rchL x M j l l.length := by
    have := rchL_set (x := x) (M := M) (j := j) (l := l) (q := l.length) (Nat.le_refl _)
    rw [List.drop_length] at this
    exact this
  rw [hset] at hR2
  clear c1 c2 c5 q4 q5 hp hpw hset hR1 hsz1
  generalize (W1.setCell ⟨w.heap.size + 1 + 1 + 1 + 1, l.length, none⟩ (Value.int IntKind.u32 (2 ^ j))).drew = W2 at hR2 ⊢
  clear W1
  have d1 := blk_cell hR2.r (i := 0) rfl
  go_wp2_with fail
  clear d1
  go_loopg [11] l.length (fun gk i wr => ∃ z : Int, gk ≤ l.length ∧ i = .int .i64 z ∧ z + 1 = (gk : Int) ∧ RSt w wr be R rc l j (.func (.func id) #[] caps) (rchL x M j l gk))
  case atStart => exact ⟨_, Nat.le_refl _, rfl, by omega, hR2⟩
  case round =>
    clear hR2
    obtain ⟨z, hq, rfl, hzq, hR⟩ := hrel
    obtain ⟨wo, rfl⟩ : ∃ wo : World, wo = wr := ⟨_, rfl⟩
    rcases Nat.eq_zero_or_pos gk with rfl | hpos
    · obtain rfl : z = -1 := by omega
      have d5 := blk_cell hR.hd (i := 0) rfl
      have d4 : wo.cell? ⟨w.heap.size + 1 + 1 + 1 + 1, 0, none⟩ = some (.int .u32 (rchS x M j l)) := blk_cell hR.arr (by
        rw [List.getElem?_toArray, List.getElem?_map, rchL_get (Nat.zero_le _), if_pos (Nat.zero_le _)]
        rfl)
      have hr32 : rchS x M j l < 2 ^ 32 := rchS_lt (by omega) l
      have htest := bit_test (rchS x M j l) i hr32
      cases hbit : (rchS x M j l).testBit i
      · have hbt : (bits BinOp.and IntKind.u32 (((rchS x M j l : Nat) : Int) / 2 ^ i) 1 == 0) = true := by rw [htest, hbit]; rfl
        have hs0 : fin = s := by
          have h := HFIN.out
          rw [hbit, if_neg (by decide)] at h
          exact h.symm
        have HS0 := Lib.hid hs0
        clear htest hs0 hbit
        go_wp2_with fail
        refine bodyPost_ret (v := .tuple #[]) (by kernel_rfl) rfl ⟨rfl, ?_⟩
        rw [HS0.out]
        exact HH.out.invB _ _ _ _ HI.out hR.below
      · have hbt : (bits BinOp.and IntKind.u32 (((rchS x M j l : Nat) : Int) / 2 ^ i) 1 == 0) = false := by rw [htest, hbit]; rfl
        have d1 := blk_cell hR.r (i := 0) rfl
        have hf0 : (splL x M j l i).foldl st s = fin := by
          have h := HFIN.out
          rw [hbit, if_pos rfl] at h
          exact h
        have HF0 := Lib.hid hf0
        have hp0 : AllP st P s (splL x M j l i) := by
          have h := HPP.out
          rw [hbit, if_pos rfl] at h
          exact h
        have HP0 := Lib.hid hp0
        clear htest hf0 hbit HFIN hp0 HPP
        have hrs : ∀ (W : World) (ad : Addr) (cs : Array Value), (store ad (.func (.func 63) #[] cs)).run Tryz.prog W = stored Tryz.prog W ad (.func (.func 63) #[] cs) .plain := fun W ad cs => run_store _ W ad _ .plain rfl
        have hnb : ∀ o o' : Obj, (((wo.alloc o).alloc o').alloc (.cells #[.nilFunc] 146)).heap[wo.heap.size + 1 + 1]? = some (.cells #[.nilFunc] 146 (0, 0)) := fun o o' => blk_new' (by rw [World.size_alloc, World.size_alloc]) _
        have es : ∀ o o' : Obj, (((wo.alloc o).alloc o').alloc (.cells #[.nilFunc] 146)).cell? ⟨wo.heap.size + 1 + 1, 0, none⟩ = some .nilFunc := fun o o' => blk_cell (hnb o o') rfl
        have ef : ∀ o o' : Obj, (((wo.alloc o).alloc o').alloc (.cells #[.nilFunc] 146)).frozen? ⟨wo.heap.size + 1 + 1, 0, none⟩ = false := fun o o' => blk_free (hnb o o')
        have eg : ∀ (o o' : Obj) (v : Value), ((((wo.alloc o).alloc o').alloc (.cells #[.nilFunc] 146)).setCell ⟨wo.heap.size + 1 + 1, 0, none⟩ v).cell? ⟨wo.heap.size + 1 + 1, 0, none⟩ = some v := fun o o' v => blk_cell (heap_set (hnb o o') 0 v) rfl
        go_wp2_with fail
        clear hrs es ef eg hnb
        have hsw := blk_lt hR.hd
        have hbw : Below wo.heap.size wo (((wo.alloc (Obj.cells (madeCells #[Value.int IntKind.i64 0] l.length) 3)).alloc (Obj.cells #[Value.slice (some ⟨wo.heap.size, 0, none⟩) l.length l.length] 22)).alloc (Obj.cells #[Value.func (Fn.func 63) #[] (OnB.caps ⟨w.heap.size + 1, w.heap.size + 1 + 1 + 1, wo.heap.size + 1, w.heap.size, w.heap.size + 1 + 1 + 1 + 1 + 1, w.heap.size + 1 + 1, wo.heap.size + 1 + 1, wo.heap.size, w.heap.size + 1 + 1 + 1 + 1⟩)] 146)) := below3 _ _ _ _
        have g0 := blk_new2 (w := wo) rfl (Obj.cells (madeCells #[Value.int IntKind.i64 0] l.length) 3) (Obj.cells #[Value.slice (some ⟨wo.heap.size, 0, none⟩) l.length l.length] 22) (Obj.cells #[Value.func (Fn.func 63) #[] (OnB.caps ⟨w.heap.size + 1, w.heap.size + 1 + 1 + 1, wo.heap.size + 1, w.heap.size, w.heap.size + 1 + 1 + 1 + 1 + 1, w.heap.size + 1 + 1, wo.heap.size + 1 + 1, wo.heap.size, w.heap.size + 1 + 1 + 1 + 1⟩)] 146)
        have g1 := blk_new1 (w := wo.alloc (Obj.cells (madeCells #[Value.int IntKind.i64 0] l.length) 3)) (a := wo.heap.size + 1) (by rw [World.size_alloc]) (Obj.cells #[Value.slice (some ⟨wo.heap.size, 0, none⟩) l.length l.length] 22) (Obj.cells #[Value.func (Fn.func 63) #[] (OnB.caps ⟨w.heap.size + 1, w.heap.size + 1 + 1 + 1, wo.heap.size + 1, w.heap.size, w.heap.size + 1 + 1 + 1 + 1 + 1, w.heap.size + 1 + 1, wo.heap.size + 1 + 1, wo.heap.size, w.heap.size + 1 + 1 + 1 + 1⟩)] 146)
        have g2 := blk_new' (w := (wo.alloc (Obj.cells (madeCells #[Value.int IntKind.i64 0] l.length) 3)).alloc (Obj.cells #[Value.slice (some ⟨wo.heap.size, 0, none⟩) l.length l.length] 22)) (a := wo.heap.size + 1 + 1) (by rw [World.size_alloc, World.size_alloc]) (Obj.cells #[Value.func (Fn.func 63) #[] (OnB.caps ⟨w.heap.size + 1, w.heap.size + 1 + 1 + 1, wo.heap.size + 1, w.heap.size, w.heap.size + 1 + 1 + 1 + 1 + 1, w.heap.size + 1 + 1, wo.heap.size + 1 + 1, wo.heap.size, w.heap.size + 1 + 1 + 1 + 1⟩)] 146)
        have hgo : ∀ W6 : World, Below wo.heap.size wo W6 → W6.heap[wo.heap.size]? = some (Obj.cells (madeCells #[Value.int IntKind.i64 0] l.length) 3) → W6.heap[wo.heap.size + 1]? = some (Obj.cells #[Value.slice (some ⟨wo.heap.size, 0, none⟩) l.length l.length] 22) → W6.heap[wo.heap.size + 1 + 1]? = some (Obj.cells #[Value.func (Fn.func 63) #[] (OnB.caps ⟨w.heap.size + 1, w.heap.size + 1 + 1 + 1, wo.heap.size + 1, w.heap.size, w.heap.size + 1 + 1 + 1 + 1 + 1, w.heap.size + 1 + 1, wo.heap.size + 1 + 1, wo.heap.size, w.heap.size + 1 + 1 + 1 + 1⟩)] 146) →
            Calls Tryz.prog 63 (#[.int .i64 0, .int .i64 i] ++ OnB.caps ⟨w.heap.size + 1, w.heap.size + 1 + 1 + 1, wo.heap.size + 1, w.heap.size, w.heap.size + 1 + 1 + 1 + 1 + 1, w.heap.size + 1 + 1, wo.heap.size + 1 + 1, wo.heap.size, w.heap.size + 1 + 1 + 1 + 1⟩) W6 fun e w' => e = .returned (.tuple #[]) ∧ Inv (fun b => F b ∧ b < w.heap.size) fin w' := fun W6 hb6 k0 k1 k2 => sp_call HH.out HI.out HP0.out hR hsw HF0.out hb6 k0 k1 k2
        have hfinal := hgo _ hbw g0 g1 g2
        unfold OnB.caps at hfinal
        clear hgo g0 g1 g2 hbw
        refine hfinal.mono ?_
        rintro e9 w9 ⟨rfl, hI9⟩
        go_wp2
        exact bodyPost_end (v := .tuple #[]) (by kernel_rfl) rfl ⟨rfl, hI9⟩
    · obtain ⟨t, rfl⟩ : ∃ t, gk = t + 1 := ⟨gk - 1, by omega⟩
      obtain rfl : z = (t : Int) := by omega
      clear hzq hpos
      have ht : t < l.length := by omega
      have hq0 : (0 : Int) ≤ (t : Int) := by omega
      have hset0 : (rchL x M j l (t + 1)).set t 0 = rchL x M j l (t + 1) := by
        refine List.ext_getElem? fun u => ?_
        rw [List.getElem?_set]
        by_cases e : t = u
        · subst e
          rw [if_pos rfl, if_pos (by rw [rchL_len]; omega), rchL_get (by omega), if_neg (by omega)]
        · rw [if_neg e]
      obtain ⟨b, o, hA, hF, hbl, hc1, hc2⟩ := HH.out.syms.symAt t ht
      subst hA
      have hdr : l.drop t = l[t] :: l.drop (t + 1) := List.drop_eq_getElem_cons ht
      have hsy := HH.out.sy l[t] (List.getElem_mem ht)
      generalize l[t] = y at hc1 hc2 hdr hsy
      have hrt : rchS x M j (l.drop t) = rchTo x M y (rchS x M j (l.drop (t + 1))) (j + 1) := by rw [hdr]; rfl
      have hr32 : rchS x M j (l.drop (t + 1)) < 2 ^ 32 := rchS_lt (by omega) _
      have hin : ∀ v : Nat, ((rchL x M j l (t + 1)).set t v)[t + 1]? = some (rchS x M j (l.drop (t + 1))) ∧ ((rchL x M j l (t + 1)).set t v)[t]? = some v := fun v => by
        refine ⟨?_, ?_⟩
        · rw [List.getElem?_set, if_neg (by omega), rchL_get (by omega), if_pos (Nat.le_refl _)]
        · rw [List.getElem?_set, if_pos rfl, if_pos (by rw [rchL_len]; omega)]
      generalize hrv : rchS x M j (l.drop (t + 1)) = rv at hrt hr32 hin
      have HRT := Lib.hid hrt
      have HSET := Lib.hid (rchL_set (x := x) (M := M) (j := j) (l := l) (q := t) (by omega))
      clear hrt hdr hrv
      have hR0 : RSt w wo be (some ⟨b, o, none⟩) rc l j (.func (.func id) #[] caps) ((rchL x M j l (t + 1)).set t (rchTo x M y rv 0)) := by
        show RSt w wo be _ rc l j _ ((rchL x M j l (t + 1)).set t 0)
        rw [hset0]
        exact hR
      clear hset0 hR
      go_wp2_with fail
      go_loopg [12] (j + 1) (fun gk i wr => ∃ u : Nat, u ≤ j + 1 ∧ gk = j + 1 - u ∧ i = .int .i64 u ∧ RSt w wr be (some ⟨b, o, none⟩) rc l j (.func (.func id) #[] caps) ((rchL x M j l (t + 1)).set t (rchTo x M y rv u)))
      case atStart => exact ⟨0, by omega, rfl, rfl, hR0⟩
      case round =>
        clear hR0
        obtain ⟨u, hu, rfl, rfl, hR⟩ := hrel
        obtain ⟨wi, rfl⟩ : ∃ wi : World, wi = wr := ⟨_, rfl⟩
        have dj := blk_cell hR.jj (i := 0) rfl
        by_cases hlt : u ≤ j
        · have huj : (u : Int) ≤ (j : Int) := by omega
          have hu12 : u ≤ 12 := by omega
          have htl : (t : Int) < (l.length : Int) := by omega
          have htl2 : (t : Int) + 1 < (l.length : Int) + 1 := by omega
          have htl3 : (t : Int) < (l.length : Int) + 1 := by omega
          have v32 : rchTo x M y rv u < 2 ^ 32 := rchTo_lt _ (by omega)
          have hstep : rchTo x M y rv (u + 1) = if aftTo x M y (2 ^ u) (x.length + 1) &&& rv ≠ 0 then rchTo x M y rv u ||| 2 ^ u else rchTo x M y rv u := rfl
          have e1 := cell_behind (blk_cell hR.e (i := 0) rfl)
          have e2 := cell_behind (blk_cell hR.r (i := 0) rfl)
          have e3 := cell_behind (blk_cell hR.hd (i := 0) rfl)
          have e4 := cell_behind ((hR.below.cell (p := ⟨b, o + t * 2, none⟩) hbl).trans hc1)
          have e5 := cell_behind ((hR.below.cell (p := ⟨b, o + t * 2 + 1, none⟩) hbl).trans hc2)
          have hr1 : wi.cell? ⟨w.heap.size + 1 + 1 + 1 + 1, t + 1, none⟩ = some (.int .u32 rv) := blk_cell hR.arr (by rw [List.getElem?_toArray, List.getElem?_map, (hin _).1]; rfl)
          have e6 := cell_behind hr1
          have haf32 : aftTo x M y (2 ^ u) (x.length + 1) < 2 ^ 32 := aftTo_lt x M y _ HH.out.small _ (by omega)
          have hand := u32_and_nat (aftTo x M y (2 ^ u) (x.length + 1)) rv haf32 hr32
          have hp : IntKind.u32.wrap ((2 : Int) ^ u) = ((2 ^ u : Nat) : Int) := (wrap_u32 _).trans (pow_mod13 (by omega))
          have hcall := fun P : Behind wi => Calls.behind (after_any F be g x M A n c B m d C p q y (2 ^ u) P.w' (ends_keep HH.out.ends (fun b _ hlt => (hR.below.trans (P.h.mono hR.below.size)).block b hlt) (hR.below.trans (P.h.mono hR.below.size)).size) HH.out.x12 hsy.1 hsy.2 HH.out.rows HH.out.small (pow_lt13 (by omega)))
          have hpw : ((2 ^ u : Nat) : Int) = (2 : Int) ^ u := by simp
          unfold symV at hcall
          rw [hpw] at hcall
          have HCALL := Lib.hid hcall
          have HSTEP := Lib.hid hstep
          have HR := Lib.hid hR
          have HP := Lib.hid hp
          have HPW := Lib.hid hpw
          clear hcall hstep hpw haf32 hr1 hlt
          by_cases hnz : aftTo x M y (2 ^ u) (x.length + 1) &&& rv = 0
          · have hnz' : ((((aftTo x M y (2 ^ u) (x.length + 1) &&& rv : Nat)) : Int) != 0) = false := by rw [hnz]; rfl
            have HNZ := Lib.hid hnz
            clear hnz
            go_wp2_with fail
            refine wp_region_behind (by kernel_rfl) (by kernel_rfl) ?_
            repeat (go_big_quiet_step ((with_reducible exact HCALL.out _)))
            refine wpQuiet_nil ?_
            intro _ hw'
            obtain ⟨P2, hw''⟩ := hw'
            subst hw''
            have hR3 := HR.out.keep P2.h
            go_wp2_with fail
            go_roundg (j + 1 - (u + 1))
            case measure => omega
            case rel => exact ⟨u + 1, by omega, rfl, by go_num, by rw [HSTEP.out, if_neg (by rw [HNZ.out]; simp)]; exact hR3⟩
          · have hnz' : ((((aftTo x M y (2 ^ u) (x.length + 1) &&& rv : Nat)) : Int) != 0) = true := by
              simp only [bne_iff_ne, ne_eq]; omega
            have HNZ := Lib.hid hnz
            clear hnz
            go_wp2_with fail
            refine wp_region_behind (by kernel_rfl) (by kernel_rfl) ?_
            repeat (go_big_quiet_step ((with_reducible exact HCALL.out _)))
            refine wpQuiet_nil ?_
            intro _ hw'
            obtain ⟨P2, hw''⟩ := hw'
            subst hw''
            have hR3 := HR.out.keep P2.h
            generalize P2.w' = W3 at hR3 ⊢
            clear e1 e2 e3 e4 e5 e6 hand hnz' P2 hp
            go_wp2_with fail
            have f1 := blk_cell hR3.hd (i := 0) rfl
            have f2 : W3.cell? ⟨w.heap.size + 1 + 1 + 1 + 1, t, none⟩ = some (.int .u32 (rchTo x M y rv u)) := blk_cell hR3.arr (by rw [List.getElem?_toArray, List.getElem?_map, (hin _).2]; rfl)
            have f3 : W3.frozen? ⟨w.heap.size + 1 + 1 + 1 + 1, t, none⟩ = false := blk_free hR3.arr
            have hor := u32_or_nat (rchTo x M y rv u) (2 ^ u) v32 (pow_lt13 (by omega))
            rw [HPW.out] at hor
            have hp2 : IntKind.u32.wrap ((2 : Int) ^ u) = (2 : Int) ^ u := HP.out.trans HPW.out
            go_region
            have hR4 := (hR3.set t (rchTo x M y rv u ||| 2 ^ u)).keep (Below.refl _ _).drew
            rw [List.set_set] at hR4
            go_wp2_with fail
            go_roundg (j + 1 - (u + 1))
            case measure => omega
            case rel => exact ⟨u + 1, by omega, rfl, by go_num, by rw [HSTEP.out, if_pos HNZ.out]; exact hR4⟩
        · obtain rfl : u = j + 1 := by omega
          have huj : decide (((j : Int) + 1) ≤ (j : Int)) = false := by simp; omega
          rw [← HRT.out, HSET.out] at hR
          go_wp2_with fail
          go_roundg t
          case measure => omega
          case rel => exact ⟨(t : Int) - 1, by omega, by go_num, by omega, hR⟩
end

/-- splits with a callback that turns the blocks G alone -/
structure SpCall {σ : Type} (Inv : σ → World → Prop) (st : σ → List Nat → σ) (P : σ → List Nat → Prop) (F G : Nat → Prop) (w : World) (id : FuncId) (caps : Array Value) (be : Nat) (g : Gram) (x : List Int) (M : List (List Nat)) (A : Option Addr) (n c : Nat) (B : Option Addr) (m d : Nat) (C : Option Addr) (p q : Nat) (R : Option Addr) (rc : Nat) (l : List Sym) (i j : Nat) : Prop where
  enter : ∀ (args : Array Value) (w : World), Sem.run Tryz.prog (callFunc id args) w = .ok (.enter id args) w
  x12 : x.length ≤ 12
  sy : ∀ y ∈ l, 0 ≤ y.n ∧ (y.t = false → y.n < M.length)
  rows : ∀ r ∈ M, r.length = x.length + 1
  small : ∀ r ∈ M, ∀ v ∈ r, v < 2 ^ 32
  short : Short x M
  low : MLow M
  il : i ≤ x.length
  jl : j ≤ x.length
  l4 : l.length ≤ 4
  apart : ∀ b, G b → b < w.heap.size ∧ ¬ F b
  ends : IsEnds F w be g x M A n c B m d C p q
  syms : IsSl Elt.sym F w (.slice R l.length rc) l
  invB : ∀ s w w', Inv s w → Below w.heap.size w w' → Inv s w'
  invS : ∀ s W b i v, w.heap.size ≤ b → Inv s W → Inv s (W.setCell ⟨b, i, none⟩ v)
  call : ∀ s W L b, L ∈ splL x M j l i → P s L → Inv s W → w.heap.size ≤ b → W.heap[b]? = some (.cells (L.map fun v : Nat => Value.int .i64 v).toArray 3 (0, 0)) → IsEnds F W be g x M A n c B m d C p q → IsSl Elt.sym F W (.slice R l.length rc) l →
    Calls Tryz.prog id (#[.slice (some ⟨b, 0, none⟩) l.length l.length] ++ caps) W fun e w' => e = .returned (.tuple #[]) ∧ Inv (st s L) w' ∧ Away W.heap.size G W w'

theorem splits_any {σ : Type} {Inv : σ → World → Prop} {st : σ → List Nat → σ} {P : σ → List Nat → Prop} {F G : Nat → Prop} {id : FuncId} {caps : Array Value} {be : Nat} {g : Gram} {x : List Int} {M : List (List Nat)} {A : Option Addr} {n c : Nat} {B : Option Addr} {m d : Nat} {C : Option Addr} {p q : Nat} {R : Option Addr} {rc : Nat} {l : List Sym} {i j : Nat} (w : World) (s : σ) (H : SpCall Inv st P F G w id caps be g x M A n c B m d C p q R rc l i j) (hI : Inv s w) (hP : AllP st P s (if (rchS x M j l).testBit i = true then splL x M j l i else [])) :
    Calls Tryz.prog 42 #[.pointer (some ⟨be, 0, none⟩), .slice R l.length rc, .int .i64 i, .int .i64 j, .func (.func id) #[] caps] w fun e w' => e = .returned (.tuple #[]) ∧ Inv ((if (rchS x M j l).testBit i = true then splL x M j l i else []).foldl st s) w' ∧ Away w.heap.size G w w' := by
  have HK : SpCallK (fun K s W => Inv s W ∧ (∀ b, G b → ¬ K b) ∧ Away w.heap.size G w W) st P F w id caps be g x M A n c B m d C p q R rc l i j := by
    refine ⟨H.enter, H.x12, H.sy, H.rows, H.small, H.short, H.low, H.il, H.jl, H.l4, H.ends, H.syms, fun K K' s W h hk => ⟨h.1, fun b hb hkb => h.2.1 b hb (hk b hkb (Nat.lt_of_lt_of_le (H.apart b hb).1 h.2.2.size)), h.2.2⟩, fun K s w1 w2 h hb => ⟨H.invB _ _ _ h.1 hb, h.2.1, h.2.2.trans (Away.ofBelow (hb.mono h.2.2.size))⟩, fun K s W b i v hb _ h => ⟨H.invS _ _ _ _ _ hb h.1, h.2.1, h.2.2.trans (Away.setCell _ _ _ _ (.inr hb))⟩, fun K s W L b hL hP _ _ h hb _ harr he hs => ?_⟩
    refine (H.call s W L b hL hP h.1 hb harr he hs).mono ?_
    rintro e w' ⟨rfl, h1, h2⟩
    exact ⟨rfl, ⟨h1, h.2.1, h.2.2.trans (h2.mono h.2.2.size fun _ _ hg => hg)⟩, h2.mono (Nat.le_refl _) fun b _ hg => h.2.1 b hg⟩
  refine (splits_anyK w s HK ⟨hI, fun b hb hf => (H.apart b hb).2 hf.1, Away.refl _ _ _⟩ hP).mono ?_
  rintro e w' ⟨rfl, h1, _, h3⟩
  exact ⟨rfl, h1, h3⟩
end Go.Proofs.YtdbkbkopcnkgcaaGreat
