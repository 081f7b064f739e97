import Derived.Test.YtdbkbkopcnkgcaaGreatWoodA
import Derived.Test.YtdbkbkopcnkgcaaGreatMeanD
import Derived.Test.YtdbkbkopcnkgcaaGreatForG
import Derived.Test.YtdbkbkopcnkgcaaGreatOwn
open Go Go.RowKit
namespace Go.Proofs.YtdbkbkopcnkgcaaGreat

/-! ### the numbers of trees: products and sums -/
set_option maxRecDepth 100000 in
theorem times_any (a b : Int) (ha : CntV a) (hb : CntV b) (w : World) : Calls Tryz.prog 44 #[.int .i64 a, .int .i64 b] w fun e w' => e = .returned (.int .i64 (mulC a b)) ∧ w' = w := by
  unfold CntV maxCount at ha hb
  by_cases h1 : a = -1
  · have h1' : (a == -1) = true := by simp [h1]
    have hm : mulC a b = -1 := by unfold mulC; rw [if_pos (.inr h1)]
    have HM := Lib.hid hm
    clear hm h1
    go_enter Tryz.func44, Tryz.ntmps44
    go_wp2_with fail
    go_ret
    exact ⟨ret_int HM.out.symm, rfl⟩
  · have h1' : (a == -1) = false := by simp [h1]
    by_cases h2 : b = -1
    · have h2' : (b == -1) = true := by simp [h2]
      have hm : mulC a b = -1 := by unfold mulC; rw [if_pos (.inl h2)]
      have HM := Lib.hid hm
      clear hm h1 h2
      go_enter Tryz.func44, Tryz.ntmps44
      go_wp2_with fail
      go_ret
      exact ⟨ret_int HM.out.symm, rfl⟩
    · have h2' : (b == -1) = false := by simp [h2]
      have hm : mulC a b = min (a * b) maxCount := by unfold mulC; rw [if_neg (by omega)]
      have h3 : 0 ≤ a * b := Int.mul_nonneg (by omega) (by omega)
      have h4 : a * b ≤ 1000000000 * 1000000000 := Int.mul_le_mul (by omega) (by omega) (by omega) (by omega)
      have hw : IntKind.i64.wrap (a * b) = a * b := IntWalk.i64_in _ (by omega)
      have HM := Lib.hid hm
      clear hm h1 h2
      go_enter Tryz.func44, Tryz.ntmps44
      go_wp2_with fail
      go_ret
      refine ⟨ret_int ?_, rfl⟩
      rw [HM.out]
      unfold maxCount
      first | rfl | omega

set_option maxRecDepth 100000 in
theorem plus_any (a b : Int) (ha : CntV a) (hb : CntV b) (w : World) : Calls Tryz.prog 45 #[.int .i64 a, .int .i64 b] w fun e w' => e = .returned (.int .i64 (addC a b)) ∧ w' = w := by
  unfold CntV maxCount at ha hb
  by_cases h1 : a = -1
  · have h1' : (a == -1) = true := by simp [h1]
    have hm : addC a b = -1 := by unfold addC; rw [if_pos (.inr h1)]
    have HM := Lib.hid hm
    clear hm h1
    go_enter Tryz.func45, Tryz.ntmps45
    go_wp2_with fail
    go_ret
    exact ⟨ret_int HM.out.symm, rfl⟩
  · have h1' : (a == -1) = false := by simp [h1]
    by_cases h2 : b = -1
    · have h2' : (b == -1) = true := by simp [h2]
      have hm : addC a b = -1 := by unfold addC; rw [if_pos (.inl h2)]
      have HM := Lib.hid hm
      clear hm h1 h2
      go_enter Tryz.func45, Tryz.ntmps45
      go_wp2_with fail
      go_ret
      exact ⟨ret_int HM.out.symm, rfl⟩
    · have h2' : (b == -1) = false := by simp [h2]
      have hm : addC a b = min (a + b) maxCount := by unfold addC; rw [if_neg (by omega)]
      have HM := Lib.hid hm
      clear hm h1 h2
      go_enter Tryz.func45, Tryz.ntmps45
      go_wp2_with fail
      go_ret
      refine ⟨ret_int ?_, rfl⟩
      rw [HM.out]
      unfold maxCount
      first | rfl | omega
end Go.Proofs.YtdbkbkopcnkgcaaGreat

open Go Go.RowKit
namespace Go.Proofs.YtdbkbkopcnkgcaaGreat

/-! ### mean.splits: the ends of the symbols of a rule -/
def splL (x : List Int) (M : List (List Nat)) (j : Nat) : List Sym → Nat → List (List Nat)
  | [], _ => [[]]
  | y :: l, a => (List.range' a (j + 1 - a)).flatMap fun p => if (aft1 x M y a).testBit p = true ∧ (seqEnds x M l (2 ^ p)).testBit j = true then (splL x M j l p).map (p :: ·) else []

/-- the blocks that splits makes -/
structure OnB where
  br : Nat
  bf : Nat
  bl : Nat
  b1 : Nat
  bR : Nat
  bj : Nat
  bo : Nat
  bL : Nat
  bA : Nat
def OnB.caps (k : OnB) : Array Value := #[.pointer (some ⟨k.br, 0, none⟩), .pointer (some ⟨k.bf, 0, none⟩), .pointer (some ⟨k.bl, 0, none⟩), .pointer (some ⟨k.b1, 0, none⟩), .pointer (some ⟨k.bR, 0, none⟩), .pointer (some ⟨k.bj, 0, none⟩), .pointer (some ⟨k.bo, 0, none⟩)]
/-- the blocks that stay as they are while the ends are enumerated -/
def OnB.keep (k : OnB) (F : Nat → Prop) (b : Nat) : Prop := F b ∨ b = k.br ∨ b = k.bf ∨ b = k.bl ∨ b = k.b1 ∨ b = k.bR ∨ b = k.bj ∨ b = k.bo ∨ b = k.bA

structure OnAt (F : Nat → Prop) (w : World) (k : OnB) (fv : Value) (be : Nat) (g : Gram) (x : List Int) (M : List (List Nat)) (A : Option Addr) (n c : Nat) (B : Option Addr) (m d : Nat) (C : Option Addr) (p q : Nat) (R : Option Addr) (rc : Nat) (l : List Sym) (j : Nat) (RL L : List Nat) : Prop where
  right : w.cell? ⟨k.br, 0, none⟩ = some (.slice R l.length rc)
  syms : IsSl Elt.sym F w (.slice R l.length rc) l
  fn : w.cell? ⟨k.bf, 0, none⟩ = some fv
  row : w.cell? ⟨k.bl, 0, none⟩ = some (.slice (some ⟨k.bL, 0, none⟩) l.length l.length)
  eptr : w.cell? ⟨k.b1, 0, none⟩ = some (.pointer (some ⟨be, 0, none⟩))
  ends : IsEnds F w be g x M A n c B m d C p q
  reach : w.cell? ⟨k.bR, 0, none⟩ = some (.slice (some ⟨k.bA, 0, none⟩) (l.length + 1) (l.length + 1))
  jat : w.cell? ⟨k.bj, 0, none⟩ = some (.int .i64 j)
  on : w.cell? ⟨k.bo, 0, none⟩ = some (.func (.func 63) #[] k.caps)
  arr : w.heap[k.bL]? = some (.cells (L.map fun v : Nat => Value.int .i64 v).toArray 3 (0, 0))
  rarr : w.heap[k.bA]? = some (.cells (RL.map fun v : Nat => Value.int .u32 v).toArray 103 (0, 0))
  len : L.length = l.length
  rlen : RL.length = l.length + 1

section
variable {F G : Nat → Prop} {w w' : World} {k : OnB} {fv : Value} {be : Nat} {g : Gram} {x : List Int} {M : List (List Nat)} {A : Option Addr} {n c : Nat} {B : Option Addr} {m d : Nat} {C : Option Addr} {p q : Nat} {R : Option Addr} {rc : Nat} {l : List Sym} {j : Nat} {RL L : List Nat}

theorem ends_keep (h : IsEnds F w be g x M A n c B m d C p q) (hk : ∀ b, F b → b < w.heap.size → w'.heap[b]? = w.heap[b]?) (hs : w.heap.size ≤ w'.heap.size) : IsEnds F w' be g x M A n c B m d C p q := by
  have hc : ∀ {i v}, w.cell? ⟨be, i, none⟩ = some v → w'.cell? ⟨be, i, none⟩ = some v := fun h1 => (World.cell?_of_block (w := w) (hk be h.fb (cell_lt h1))).trans h1
  exact ⟨h.fb, hc h.c0, hc h.c1, hc h.c2, hc h.c3, hc h.c4, hc h.c5, (h.rules.old.keep (fun b hb => hk b hb.1 hb.2) hs).weak fun b hb => hb.1, (h.word.old.keep (fun b hb => hk b hb.1 hb.2) hs).weak fun b hb => hb.1, (h.mat.old.keep (fun b hb => hk b hb.1 hb.2) hs).weak fun b hb => hb.1⟩

theorem OnAt.same (h : OnAt F w k fv be g x M A n c B m d C p q R rc l j RL L) {L' : List Nat} (hk : ∀ b, k.keep F b → b < w.heap.size → w'.heap[b]? = w.heap[b]?) (hs : w.heap.size ≤ w'.heap.size) (ha : w'.heap[k.bL]? = some (.cells (L'.map fun v : Nat => Value.int .i64 v).toArray 3 (0, 0))) (hl : L'.length = l.length) : OnAt F w' k fv be g x M A n c B m d C p q R rc l j RL L' := by
  have hc : ∀ {b i v}, k.keep F b → w.cell? ⟨b, i, none⟩ = some v → w'.cell? ⟨b, i, none⟩ = some v := fun hb h1 => (World.cell?_of_block (w := w) (hk _ hb (cell_lt h1))).trans h1
  exact ⟨hc (by unfold OnB.keep; simp) h.right, (h.syms.old.keep (fun b hb => hk b (.inl hb.1) hb.2) hs).weak fun b hb => hb.1, hc (by unfold OnB.keep; simp) h.fn, hc (by unfold OnB.keep; simp) h.row, hc (by unfold OnB.keep; simp) h.eptr, ends_keep h.ends (fun b hb => hk b (.inl hb)) hs, hc (by unfold OnB.keep; simp) h.reach, hc (by unfold OnB.keep; simp) h.jat, hc (by unfold OnB.keep; simp) h.on, ha, (hk k.bA (by unfold OnB.keep; simp) (blk_lt h.rarr)).trans h.rarr, hl, h.rlen⟩
theorem OnAt.away (h : OnAt F w k fv be g x M A n c B m d C p q R rc l j RL L) (ha : Away w.heap.size G w w') (hG : ∀ b, G b → ¬ k.keep F b ∧ b ≠ k.bL) : OnAt F w' k fv be g x M A n c B m d C p q R rc l j RL L :=
  h.same (fun b hb hlt => ha.block b hlt fun hg => (hG b hg).1 hb) ha.size ((ha.block _ (blk_lt h.arr) fun hg => (hG _ hg).2 rfl).trans h.arr) h.len
theorem OnAt.below (h : OnAt F w k fv be g x M A n c B m d C p q R rc l j RL L) (hb : Below w.heap.size w w') : OnAt F w' k fv be g x M A n c B m d C p q R rc l j RL L :=
  h.same (fun b _ hlt => hb.block b hlt) hb.size ((hb.block _ (blk_lt h.arr)).trans h.arr) h.len
theorem OnAt.set (h : OnAt F w k fv be g x M A n c B m d C p q R rc l j RL L) (hL : ¬ k.keep F k.bL) (i v : Nat) : OnAt F (w.setCell ⟨k.bL, i, none⟩ (.int .i64 v)) k fv be g x M A n c B m d C p q R rc l j RL (L.set i v) := by
  refine h.same (fun b hb _ => heap_set_ne (fun e => hL (by rw [← e]; exact hb)) _ _) (by rw [size_setCell]; exact Nat.le_refl _) ?_ (by rw [List.length_set]; exact h.len)
  rw [heap_set h.arr]
  simp [List.map_set]
end
end Go.Proofs.YtdbkbkopcnkgcaaGreat

open Go Go.RowKit
namespace Go.Proofs.YtdbkbkopcnkgcaaGreat

theorem take_set1 {α : Type} {L : List α} {i : Nat} {z : α} (h : i < L.length) : (L.set i z).take (i + 1) = L.take i ++ [z] := by
  rw [List.take_succ_eq_append_getElem (by rwa [List.length_set]), List.getElem_set_self, List.take_set_of_le (Nat.le_refl i)]

/-- each step of a fold meets P -/
def AllP {σ α : Type} (st : σ → α → σ) (P : σ → α → Prop) : σ → List α → Prop
  | _, [] => True
  | s, a :: l => P s a ∧ AllP st P (st s a) l
theorem AllP.append {σ α : Type} {st : σ → α → σ} {P : σ → α → Prop} : ∀ {l m : List α} {s : σ}, AllP st P s (l ++ m) ↔ AllP st P s l ∧ AllP st P (l.foldl st s) m
  | [], m, s => by simp [AllP]
  | a :: l, m, s => by
    simp only [List.cons_append, AllP, List.foldl_cons]
    rw [AllP.append, and_assoc]
theorem AllP.of {σ α : Type} {st : σ → α → σ} {P : σ → α → Prop} : ∀ {l : List α} {s : σ}, (∀ s a, a ∈ l → P s a) → AllP st P s l
  | [], _, _ => trivial
  | a :: _, s, h => ⟨h s a (List.mem_cons_self ..), AllP.of fun s b hb => h s b (List.mem_cons_of_mem _ hb)⟩
theorem AllP.mem {σ α : Type} {st : σ → α → σ} {P : σ → α → Prop} {Q : α → Prop} : ∀ {l : List α} {s : σ}, AllP st P s l → (∀ a ∈ l, Q a) → AllP st (fun s a => Q a ∧ P s a) s l
  | [], _, _, _ => trivial
  | a :: _, _, h, hq => ⟨⟨hq a (List.mem_cons_self ..), h.1⟩, AllP.mem h.2 fun b hb => hq b (List.mem_cons_of_mem _ hb)⟩

/-- what the run over the ends leaves -/
def OnEnd {σ : Type} (Inv : σ → World → Prop) (F G : Nat → Prop) (w w' : World) (k : OnB) (fv : Value) (be : Nat) (g : Gram) (x : List Int) (M : List (List Nat)) (A : Option Addr) (n c : Nat) (B : Option Addr) (m d : Nat) (C : Option Addr) (p q : Nat) (R : Option Addr) (rc : Nat) (l : List Sym) (j : Nat) (RL L : List Nat) (kk : Nat) (s : σ) : Prop :=
  ∃ L', L'.take kk = L.take kk ∧ OnAt F w' k fv be g x M A n c B m d C p q R rc l j RL L' ∧ Inv s w' ∧ Away w.heap.size (fun b => G b ∨ b = k.bL) w w'

/-- the run over the ends, and the callback -/
structure OnCall {σ : Type} (Inv : σ → World → Prop) (st : σ → List Nat → σ) (F G : Nat → Prop) (k : OnB) (id : FuncId) (caps : Array Value) (be : Nat) (g : Gram) (x : List Int) (M : List (List Nat)) (A : Option Addr) (n c : Nat) (B : Option Addr) (m d : Nat) (C : Option Addr) (p q : Nat) (R : Option Addr) (rc : Nat) (l : List Sym) (j : Nat) (RL : List Nat) (P : σ → List Nat → Prop) : Prop where
  enter : ∀ (args : Array Value) (w : World), Sem.run Tryz.prog (callFunc id args) w = .ok (.enter id args) w
  x12 : x.length ≤ 12
  syms : ∀ y ∈ l, 0 ≤ y.n ∧ (y.t = false → y.n < M.length)
  rows : ∀ r ∈ M, r.length = x.length + 1
  small : ∀ r ∈ M, ∀ v ∈ r, v < 2 ^ 32
  short : Short x M
  jl : j ≤ x.length
  l4 : l.length ≤ 4
  bits : ∀ kk, kk ≤ l.length → ∀ p, (RL.getD kk 0).testBit p = true ↔ p ≤ j ∧ (seqEnds x M (l.drop kk) (2 ^ p)).testBit j = true
  r32 : ∀ v ∈ RL, v < 2 ^ 32
  apart : ∀ b, G b → ¬ k.keep F b ∧ b ≠ k.bL
  own : ¬ k.keep F k.bL
  invB : ∀ s w w', Inv s w → Below w.heap.size w w' → Inv s w'
  invS : ∀ s w i v, Inv s w → Inv s (w.setCell ⟨k.bL, i, none⟩ v)
  call : ∀ s w L, P s L → Inv s w → OnAt F w k (.func (.func id) #[] caps) be g x M A n c B m d C p q R rc l j RL L → Calls Tryz.prog id (#[.slice (some ⟨k.bL, 0, none⟩) l.length l.length] ++ caps) w fun e w' => e = .returned (.tuple #[]) ∧ Inv (st s L) w' ∧ Away w.heap.size G w w'

section
variable {σ : Type} {Inv : σ → World → Prop} {st : σ → List Nat → σ} {F G : Nat → Prop} {k : OnB} {id : FuncId} {caps : Array Value} {be : Nat} {g : Gram} {x : List Int} {M : List (List Nat)} {A : Option Addr} {n c : Nat} {B : Option Addr} {m d : Nat} {C : Option Addr} {p q : Nat} {R : Option Addr} {rc : Nat} {l : List Sym} {j : Nat} {RL : List Nat} {P : σ → List Nat → Prop}

set_option maxRecDepth 100000 in
set_option maxHeartbeats 1600000 in
theorem on_any (H : OnCall Inv st F G k id caps be g x M A n c B m d C p q R rc l j RL P) : ∀ (rest : List Sym) (kk a : Nat) (L : List Nat) (s : σ) (w : World), l.drop kk = rest → kk ≤ l.length → a ≤ x.length → Inv s w → OnAt F w k (.func (.func id) #[] caps) be g x M A n c B m d C p q R rc l j RL L → AllP st P s ((splL x M j rest a).map (L.take kk ++ ·)) →
    Calls Tryz.prog 63 (#[.int .i64 kk, .int .i64 a] ++ k.caps) w fun e w' => e = .returned (.tuple #[]) ∧ OnEnd Inv F G w w' k (.func (.func id) #[] caps) be g x M A n c B m d C p q R rc l j RL L kk (((splL x M j rest a).map (L.take kk ++ ·)).foldl st s) := by
  intro rest
  induction rest with
  | nil =>
    intro kk a L s w hd hk ha hI hO hall
    have hkl : kk = l.length := by have := congrArg List.length hd; rw [List.length_drop] at this; simp at this; omega
    have hLt : L.take kk = L := by rw [hkl, ← hO.len, List.take_length]
    have hin : P s L := by
      unfold splL at hall
      have : P s (L.take kk ++ []) := hall.1
      rwa [List.append_nil, hLt] at this
    have hcall := H.call s w L hin hI hO
    have hkz : ((kk : Int) == (l.length : Int)) = true := by simp [hkl]
    have e1 := hO.right
    have e2 := hO.fn
    have e3 := hO.row
    have HCALL := Lib.hid hcall
    have HO := Lib.hid hO
    have HL := Lib.hid hLt
    clear hcall hO hd hkl hall hI hLt
    have hen := H.enter
    unfold OnB.caps
    go_enter Tryz.func63, Tryz.ntmps63
    go_wp2_with fail
    refine HCALL.out.mono ?_
    rintro e w2 ⟨rfl, hI2, ha2⟩
    go_wp2
    refine bodyPost_ret (v := .tuple #[]) (by kernel_rfl) rfl ⟨rfl, ?_⟩
    refine ⟨L, rfl, HO.out.away ha2 H.apart, ?_, ha2.mono (Nat.le_refl _) fun b _ hb => .inl hb⟩
    unfold splL
    simp only [List.map_cons, List.map_nil, List.append_nil, List.foldl_cons, List.foldl_nil]
    rw [HL.out]
    exact hI2
  | cons y rest ih =>
    intro kk a L s w hd hk ha hI hO hall
    obtain ⟨f, hf⟩ : ∃ f : Nat → List (List Nat), f = fun z => if (aft1 x M y a).testBit z = true ∧ (seqEnds x M rest (2 ^ z)).testBit j = true then (splL x M j rest z).map (z :: ·) else [] := ⟨_, rfl⟩
    have hspl : splL x M j (y :: rest) a = (List.range' a (j + 1 - a)).flatMap f := by rw [hf]; rfl
    rw [hspl] at hall ⊢
    have HALL := Lib.hid hall
    have HF := Lib.hid hf
    clear hspl hall hf
    generalize hfin : (((List.range' a (j + 1 - a)).flatMap f).map (L.take kk ++ ·)).foldl st s = fin
    have HFIN := Lib.hid hfin
    clear hfin
    have hkl : kk < l.length := by
      rcases Nat.lt_or_ge kk l.length with h | h
      · exact h
      · rw [List.drop_eq_nil_of_le h] at hd; cases hd
    have hy : l[kk] = y ∧ l.drop (kk + 1) = rest := by
      rw [List.drop_eq_getElem_cons hkl] at hd
      injection hd with h1 h2
      exact ⟨h1, h2⟩
    obtain ⟨hy1, hdr⟩ := hy
    have hkz : ((kk : Int) == (l.length : Int)) = false := by simp; omega
    have hkz2 : (kk : Int) < (l.length : Int) := by omega
    have hkz3 : (kk : Int) + 1 < (l.length : Int) + 1 := by omega
    obtain ⟨b, o, hA, hF, hbl, hc1, hc2⟩ := hO.syms.symAt kk hkl
    rw [hy1] at hc1 hc2
    have hsy := H.syms y (hy1 ▸ List.getElem_mem hkl)
    have hl4 := H.l4
    have ha12 : a ≤ 12 := by have := H.x12; omega
    have hrk : RL[kk + 1]? = some (RL.getD (kk + 1) 0) := by
      have h1 : kk + 1 < RL.length := by have := hO.rlen; omega
      rw [List.getD_eq_getElem?_getD, List.getElem?_eq_getElem h1]
      rfl
    have hr1 : w.cell? ⟨k.bA, kk + 1, none⟩ = some (.int .u32 (RL.getD (kk + 1) 0)) := blk_cell hO.rarr (by rw [List.getElem?_toArray, List.getElem?_map, hrk]; rfl)
    have hr32 : RL.getD (kk + 1) 0 < 2 ^ 32 := H.r32 _ (List.mem_of_getElem? hrk)
    have hbits := H.bits (kk + 1) (by omega)
    rw [hdr] at hbits
    generalize RL.getD (kk + 1) 0 = rv at hr1 hr32 hbits
    have e1 := cell_behind hO.right
    have e2 := cell_behind hO.eptr
    have e3 := cell_behind hO.reach
    have e4 := cell_behind hc1
    have e5 := cell_behind hc2
    have e6 := cell_behind hr1
    have e0 := hO.right
    subst hA
    have hN : ∀ z, (aftTo x M y (2 ^ a) (x.length + 1) &&& rv).testBit z = true ↔ (aft1 x M y a).testBit z = true ∧ z ≤ j ∧ (seqEnds x M rest (2 ^ z)).testBit j = true := fun z => by
      rw [Nat.testBit_and, Bool.and_eq_true, hbits]
      have : (aftTo x M y (2 ^ a) (x.length + 1)).testBit z = true ↔ (aft1 x M y a).testBit z = true := by
        rw [aftTo_bit]
        refine ⟨fun ⟨i, _, h2, h3⟩ => ?_, fun h => ⟨a, by omega, by rw [Nat.testBit_two_pow]; simp, h⟩⟩
        rw [Nat.testBit_two_pow] at h2
        rw [of_decide_eq_true h2]
        exact h3
      rw [this]
    have haf32 : aftTo x M y (2 ^ a) (x.length + 1) < 2 ^ 32 := aftTo_lt x M y _ H.small _ (by have := H.x12; omega)
    have hN32 : (aftTo x M y (2 ^ a) (x.length + 1) &&& rv) < 2 ^ 32 := Nat.lt_of_le_of_lt Nat.and_le_left haf32
    have hand := u32_and_nat (aftTo x M y (2 ^ a) (x.length + 1)) rv haf32 hr32
    have hp : IntKind.u32.wrap ((2 : Int) ^ a) = ((2 ^ a : Nat) : Int) := (wrap_u32 _).trans (pow_mod13 (by omega))
    have hcall := fun P : Behind w => Calls.behind (after_any F be g x M A n c B m d C p q y (2 ^ a) P.w' (hO.below P.h).ends H.x12 hsy.1 hsy.2 H.rows H.small (pow_lt13 (by omega)))
    have hpw : ((2 ^ a : Nat) : Int) = (2 : Int) ^ a := by simp
    unfold symV at hcall
    rw [hpw] at hcall
    have HCALL := Lib.hid hcall
    have HO := Lib.hid hO
    have HN := Lib.hid hN
    have HI := Lib.hid hI
    have HA32 := Lib.hid hN32
    have HJ := Lib.hid H.jl
    clear hcall hO hN hI hbits hrk hd haf32 hr32 hN32 hc1 hc2 hr1 hsy hy1
    unfold OnB.caps
    go_enter Tryz.func63, Tryz.ntmps63
    go_wp2_with fail
    refine wp_region_behind (by kernel_rfl) (by kernel_rfl) ?_
    repeat (go_big_quiet_step ((with_reducible exact HCALL.out _)))
    refine wpQuiet_nil ?_
    intro _ hw'
    obtain ⟨P2, hw''⟩ := hw'
    subst hw''
    have hbP := P2.h
    clear e1 e2 e3 e4 e5 e6 hpw hp
    generalize P2.w' = W3 at hbP ⊢
    clear P2
    have hN := HN.out
    have hN32 := HA32.out
    clear hand HN HA32 HCALL
    generalize (aftTo x M y (2 ^ a) (x.length + 1) &&& rv) = N at hN hN32 ⊢
    have hO3 := HO.out.below hbP
    have hI3 := H.invB s w W3 HI.out hbP
    have ha3 : Away w.heap.size (fun b => G b ∨ b = k.bL) w W3 := Away.ofBelow hbP
    have HN := Lib.hid hN
    have HN32 := Lib.hid hN32
    have hsz3 := hbP.size
    clear HO HI hbP hN hN32
    have hLl := hO3.len
    go_wp2_with fail
    go_loopg [12] (j + 1 - a) (fun gk i wr => ∃ (z : Nat) (s1 : σ) (L1 : List Nat), a ≤ z ∧ gk = j + 1 - z ∧ i = .int .i64 z ∧ L1.take kk = L.take kk ∧ OnAt F wr k (.func (.func id) #[] caps) be g x M A n c B m d C p q (some ⟨b, o, none⟩) rc l j RL L1 ∧ Inv s1 wr ∧ Away w.heap.size (fun b => G b ∨ b = k.bL) w wr ∧ (((List.range' z (j + 1 - z)).flatMap f).map (L.take kk ++ ·)).foldl st s1 = fin ∧ AllP st P s1 (((List.range' z (j + 1 - z)).flatMap f).map (L.take kk ++ ·)))
    case atStart => exact ⟨a, s, L, Nat.le_refl _, rfl, rfl, rfl, hO3, hI3, ha3, HFIN.out, HALL.out⟩
    case round =>
      clear hO3 hI3 ha3
      obtain ⟨z, s1, L1, hz, rfl, rfl, hL1, hO1, hI1, ha1, hfold, hallz⟩ := hrel
      obtain ⟨wo, rfl⟩ : ∃ wo : World, wo = wr := ⟨_, rfl⟩
      have ej := hO1.jat
      by_cases hlt : z ≤ j
      · have hzj : (z : Int) ≤ (j : Int) := by omega
        have hz12 : z ≤ 12 := by have := H.x12; have := H.jl; omega
        rw [show j + 1 - z = (j + 1 - (z + 1)) + 1 by omega, List.range'_succ, List.flatMap_cons, List.map_append] at hfold hallz
        rw [List.foldl_append] at hfold
        rw [AllP.append] at hallz
        have htest := bit_test1 N z HN32.out
        have hnz := HN.out z
        cases hbit : N.testBit z
        · have hbt : (bits BinOp.and IntKind.u32 ((N : Int) / 2 ^ z) 1 == 1) = false := by rw [htest, hbit]
          have hfz : f z = [] := by
            rw [HF.out]
            simp only
            rw [if_neg fun h => by rw [hnz.2 ⟨h.1, hlt, h.2⟩] at hbit; cases hbit]
          rw [hfz] at hfold hallz
          simp only [List.map_nil, List.foldl_nil] at hfold hallz
          have HFO := Lib.hid hfold
          have HAL := Lib.hid hallz.2
          clear hfold hallz hfz htest hnz hbit hlt
          go_wp2_with fail
          go_roundg (j + 1 - (z + 1))
          case measure => omega
          case rel => exact ⟨z + 1, s1, L1, by omega, rfl, by go_num, hL1, hO1, hI1, ha1, HFO.out, HAL.out⟩
        · have hbt : (bits BinOp.and IntKind.u32 ((N : Int) / 2 ^ z) 1 == 1) = true := by rw [htest, hbit]
          have hfz : f z = (splL x M j rest z).map (z :: ·) := by
            rw [HF.out]
            simp only
            have := hnz.1 hbit
            rw [if_pos ⟨this.1, this.2.2⟩]
          have hpre : (L1.set kk z).take (kk + 1) = L.take kk ++ [z] := by
            rw [take_set1 (by rw [hO1.len]; exact hkl), hL1]
          have hO2 := hO1.set H.own kk z
          have hmap : (f z).map (L.take kk ++ ·) = (splL x M j rest z).map ((L1.set kk z).take (kk + 1) ++ ·) := by
            rw [hfz, hpre, List.map_map]
            refine List.map_congr_left fun v _ => ?_
            simp
          rw [hmap] at hallz
          have hcall := ih (kk + 1) z (L1.set kk z) s1 (wo.setCell ⟨k.bL, kk, none⟩ (.int .i64 z)) hdr (by omega) (by have := H.jl; omega) (H.invS _ _ _ _ hI1) hO2 hallz.1
          have hfold2 : (((f z).map (L.take kk ++ ·)).foldl st s1) = ((splL x M j rest z).map ((L1.set kk z).take (kk + 1) ++ ·)).foldl st s1 := by rw [hmap]
          rw [hfold2] at hfold
          have hfo : OnAt F wo k (.func (.func id) #[] caps) be g x M A n c B m d C p q (some ⟨b, o, none⟩) rc l j RL L1 := hO1
          have er := hO1.row
          have el : wo.cell? ⟨k.bL, kk, none⟩ = some (.int .i64 (L1.getD kk 0)) := blk_cell hO1.arr (by
            have h1 : kk < L1.length := by rw [hO1.len]; exact hkl
            rw [List.getElem?_toArray, List.getElem?_map, List.getElem?_eq_getElem h1, List.getD_eq_getElem?_getD, List.getElem?_eq_getElem h1]
            rfl)
          have ef : wo.frozen? ⟨k.bL, kk, none⟩ = false := blk_free hO1.arr
          have eo := hO2.on
          unfold OnB.caps at hcall eo
          simp only [Int.natCast_add, Int.natCast_one] at hcall
          have HCALL := Lib.hid hcall
          have HFO := Lib.hid hfold
          have HAL := Lib.hid hallz.2
          clear hcall hfold hfold2 hallz hmap hfz htest hnz hbit hlt hO2 hfo
          have HPRE := Lib.hid hpre
          clear hpre
          go_wp2_with fail
          refine HCALL.out.mono ?_
          rintro e4 w4 ⟨rfl, L2, hL2, hO4, hI4, ha4⟩
          have hs1 := ha1.size
          have hk2 : L2.take kk = L.take kk := by
            have h1 := congrArg (List.take kk) (hL2.trans HPRE.out)
            rw [List.take_take, Nat.min_eq_left (Nat.le_succ kk)] at h1
            rw [h1, List.take_append_of_le_length (by rw [List.length_take]; omega), List.take_take, Nat.min_self]
          go_wp2
          go_roundg (j + 1 - (z + 1))
          case measure => omega
          case rel => exact ⟨z + 1, _, L2, by omega, rfl, by go_num, hk2, hO4, hI4, (ha1.trans (Away.setCell _ _ _ _ (.inl (.inr rfl)))).trans (ha4.mono (by rw [size_setCell]; exact hs1) (fun _ _ h => h)), HFO.out, HAL.out⟩
      · have hzj : decide ((z : Int) ≤ (j : Int)) = false := by simp; omega
        rw [show j + 1 - z = 0 by omega] at hfold
        simp only [List.range'_zero, List.flatMap_nil, List.map_nil, List.foldl_nil] at hfold
        clear hallz
        subst hfold
        go_wp2_with fail
        refine bodyPost_end (v := .tuple #[]) (by kernel_rfl) rfl ⟨rfl, L1, hL1, hO1, hI1, ha1⟩
end
end Go.Proofs.YtdbkbkopcnkgcaaGreat
