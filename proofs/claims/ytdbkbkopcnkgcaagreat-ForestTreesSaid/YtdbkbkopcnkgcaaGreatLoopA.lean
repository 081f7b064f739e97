import Derived.Test.YtdbkbkopcnkgcaaGreatTreeK
open Go Go.RowKit
namespace Go.Proofs.YtdbkbkopcnkgcaaGreat

/-! ### the loop of mean.Trees ends: the lists of the parts only get earlier in the order -/
/-- a row of numbers as one number; rep B n: the least number of n digits -/
def vd (B : Nat) : List Int → Nat
  | [] => 0
  | d :: p => (d + 2).toNat * B ^ p.length + vd B p
def rep (B : Nat) : Nat → Nat
  | 0 => 0
  | n + 1 => B ^ n + rep B n
def DigOk (B : Nat) (p : List Int) : Prop := ∀ d ∈ p, 1 ≤ (d + 2).toNat ∧ (d + 2).toNat ≤ B
theorem DigOk.tail {B : Nat} {d : Int} {p : List Int} (h : DigOk B (d :: p)) : DigOk B p := fun x hx => h x (List.mem_cons_of_mem _ hx)
theorem vd_app (B : Nat) : ∀ (p q : List Int), vd B (p ++ q) = vd B p * B ^ q.length + vd B q
  | [], q => by simp [vd]
  | d :: p, q => by
    rw [List.cons_append, vd, vd, vd_app B p q, List.length_append, Nat.pow_add, Nat.add_mul, Nat.mul_assoc, Nat.add_assoc]
theorem rep_mono (B : Nat) : ∀ {m n : Nat}, m ≤ n → rep B m ≤ rep B n := by
  intro m n h
  induction h with
  | refl => exact Nat.le_refl _
  | step _ ih => rw [rep]; omega
theorem vd_bd {B : Nat} : ∀ {p : List Int}, DigOk B p → rep B p.length ≤ vd B p ∧ vd B p < rep B (p.length + 1)
  | [], _ => by simp [vd, rep]
  | d :: p, h => by
    obtain ⟨h1, h2⟩ := vd_bd h.tail
    obtain ⟨h3, h4⟩ := h d (List.mem_cons_self ..)
    have k1 : 1 * B ^ p.length ≤ (d + 2).toNat * B ^ p.length := Nat.mul_le_mul_right _ h3
    have k2 : (d + 2).toNat * B ^ p.length ≤ B * B ^ p.length := Nat.mul_le_mul_right _ h4
    have k3 : B * B ^ p.length = B ^ (p.length + 1) := by rw [Nat.pow_succ, Nat.mul_comm]
    simp only [vd, List.length_cons]
    rw [show rep B (p.length + 1 + 1) = B ^ (p.length + 1) + rep B (p.length + 1) from rfl]
    refine ⟨?_, by omega⟩
    rw [show rep B (p.length + 1) = B ^ p.length + rep B p.length from rfl]
    omega
theorem vd_len {B : Nat} {p q : List Int} (hp : DigOk B p) (hq : DigOk B q) (h : vd B p ≤ vd B q) : p.length ≤ q.length := by
  rcases Nat.lt_or_ge q.length p.length with c | c
  · have h1 := (vd_bd hp).1
    have h2 := (vd_bd hq).2
    have h3 := rep_mono B (show q.length + 1 ≤ p.length from c)
    omega
  · exact c
theorem vd_lex {B : Nat} : ∀ {p q : List Int}, DigOk B p → DigOk B q → p.length = q.length → (cmpInts p q < 0 ↔ vd B p < vd B q)
  | [], [], _, _, _ => by simp [cmpInts, vd]
  | [], _ :: _, _, _, h => by simp at h
  | _ :: _, [], _, _, h => by simp at h
  | d :: p, e :: q, hp, hq, h => by
    have hl : p.length = q.length := by simpa using h
    have ih := vd_lex hp.tail hq.tail hl
    obtain ⟨a1, a2⟩ := vd_bd hp.tail
    obtain ⟨b1, b2⟩ := vd_bd hq.tail
    obtain ⟨d1, d2⟩ := hp d (List.mem_cons_self ..)
    obtain ⟨e1, e2⟩ := hq e (List.mem_cons_self ..)
    have hr : ∀ n, rep B (n + 1) = B ^ n + rep B n := fun n => rfl
    rw [hr] at a2 b2
    unfold vd cmpInts
    rw [hl] at a1 a2 ⊢
    have hmul : ∀ a b : Nat, a < b → a * B ^ q.length + B ^ q.length ≤ b * B ^ q.length := fun a b hab => by
      rw [← Nat.succ_mul]; exact Nat.mul_le_mul_right _ hab
    by_cases c : d = e
    · subst c
      have : cmpI d d = 0 := by simp [cmpI]
      rw [if_neg (by rw [this]; simp), ih]
      omega
    · rcases Int.lt_or_lt_of_ne c with c1 | c1
      · have h2 := hmul (d + 2).toNat (e + 2).toNat (by omega)
        have h1 : cmpI d e = -1 := by unfold cmpI; rw [if_pos c1]
        rw [h1]
        simp
        omega
      · have h2 := hmul (e + 2).toNat (d + 2).toNat (by omega)
        have h1 : cmpI d e = 1 := by unfold cmpI; rw [if_neg (by omega), if_pos c1]
        rw [h1]
        simp
        omega
theorem vd_inj {B : Nat} {p q : List Int} (hp : DigOk B p) (hq : DigOk B q) (h : vd B p = vd B q) : p = q := by
  have h1 := vd_len hp hq (by omega)
  have h2 := vd_len hq hp (by omega)
  have h3 := vd_lex hp hq (by omega)
  have h4 := vd_lex hq hp (by omega)
  have h5 := cmpInts_anti p q
  exact cmpInts_zero _ _ (by omega)

/-- a row whose numbers are rules -/
structure GoodK (B : Nat) (a : Rk) : Prop where
  len : (a.pre.length : Int) = a.size
  dig : DigOk B a.pre
  hi : a.size ≤ 5000
def V (B : Nat) (a : Rk) : Nat := vd B a.pre
theorem rkLe_iff {B : Nat} {a b : Rk} (ha : GoodK B a) (hb : GoodK B b) : rkLe a b = true ↔ V B a ≤ V B b := by
  have h1 := ha.len
  have h2 := hb.len
  unfold rkLe V
  rw [Bool.not_eq_true', decide_eq_false_iff_not, cmpRk_lt]
  rcases Nat.lt_trichotomy a.pre.length b.pre.length with c | c | c
  · have := vd_len hb.dig ha.dig
    constructor
    · intro _; omega
    · intro _ h; omega
  · have := vd_lex hb.dig ha.dig c.symm
    constructor
    · intro h; omega
    · intro h h3; omega
  · have := vd_len ha.dig hb.dig
    constructor
    · intro h; omega
    · intro h; omega
theorem GoodK.cat {B : Nat} {a b : Rk} (ha : GoodK B a) (hb : GoodK B b) (h : a.size + b.size ≤ 5000) : GoodK B (catR a b) :=
  ⟨by have := ha.len; have := hb.len; show ((a.pre ++ b.pre).length : Int) = a.size + b.size; rw [List.length_append]; omega, fun d hd => by
    rcases List.mem_append.1 hd with hd | hd
    · exact ha.dig d hd
    · exact hb.dig d hd, h⟩
theorem V_cat {B : Nat} {a b a' b' : Rk} (hb : GoodK B b) (hb' : GoodK B b') (hB : 1 ≤ B) (h1 : V B a' ≤ V B a) (h2 : V B b' ≤ V B b) : V B (catR a' b') ≤ V B (catR a b) := by
  show vd B (a'.pre ++ b'.pre) ≤ vd B (a.pre ++ b.pre)
  rw [vd_app, vd_app]
  have h3 := vd_len hb'.dig hb.dig h2
  exact Nat.add_le_add (Nat.mul_le_mul h1 (Nat.pow_le_pow_right hB h3)) h2

section
variable {B : Nat}
/-- how many are not behind t -/
def cV (B t : Nat) (l : List Rk) : Nat := l.countP fun a => decide (V B a ≤ t)
def Srt (B : Nat) (l : List Rk) : Prop := l.Pairwise fun a b => V B a ≤ V B b
def LeL (B : Nat) (l l' : List Rk) : Prop := ∀ t, cV B t l ≤ cV B t l'
theorem LeL.refl (l : List Rk) : LeL B l l := fun _ => Nat.le_refl _
theorem LeL.trans {a b c : List Rk} (h : LeL B a b) (k : LeL B b c) : LeL B a c := fun t => Nat.le_trans (h t) (k t)
theorem LeL.app {a a' b b' : List Rk} (h : LeL B a a') (k : LeL B b b') : LeL B (a ++ b) (a' ++ b') := fun t => by
  unfold cV
  rw [List.countP_append, List.countP_append]
  exact Nat.add_le_add (h t) (k t)
theorem cV_none {t : Nat} : ∀ {l : List Rk}, (∀ a ∈ l, t < V B a) → cV B t l = 0
  | [], _ => rfl
  | a :: l, h => by
    unfold cV
    rw [List.countP_cons, if_neg (by have := h a (List.mem_cons_self ..); simp; omega)]
    exact cV_none fun b hb => h b (List.mem_cons_of_mem _ hb)
theorem cV_take {t : Nat} : ∀ {l : List Rk} (m : Nat), Srt B l → cV B t (l.take m) = min m (cV B t l)
  | [], m, _ => by simp [cV]
  | a :: l, 0, _ => by simp [cV]
  | a :: l, m + 1, h => by
    have h2 := List.pairwise_cons.1 h
    rw [List.take_succ_cons]
    unfold cV
    rw [List.countP_cons, List.countP_cons]
    by_cases c : V B a ≤ t
    · rw [if_pos (by simpa using c)]
      have := cV_take (t := t) m h2.2
      unfold cV at this
      omega
    · have h3 : ∀ b ∈ l, t < V B b := fun b hb => by have := h2.1 b hb; omega
      rw [if_neg (by simpa using c)]
      have e1 := cV_none h3
      have e2 := cV_none (l := l.take m) fun b hb => h3 b (List.mem_of_mem_take hb)
      unfold cV at e1 e2
      omega
theorem cV_lt {t : Nat} : ∀ {l : List Rk} {i : Nat}, Srt B l → i < cV B t l → ∃ h : i < l.length, V B l[i] ≤ t
  | [], i, _, h => by simp [cV] at h
  | a :: l, i, hs, h => by
    have h2 := List.pairwise_cons.1 hs
    by_cases c : V B a ≤ t
    · cases i with
      | zero => exact ⟨by simp, c⟩
      | succ i =>
        unfold cV at h
        rw [List.countP_cons, if_pos (by simpa using c)] at h
        obtain ⟨h3, h4⟩ := cV_lt (t := t) (i := i) h2.2 (Nat.lt_of_succ_lt_succ h)
        exact ⟨by simpa using h3, by simpa using h4⟩
    · rw [cV_none (l := a :: l)] at h
      · omega
      · intro b hb
        rcases List.mem_cons.1 hb with hb | hb
        · subst hb; omega
        · have := h2.1 b hb; omega
theorem cV_ge : ∀ {l : List Rk} {i : Nat} (_ : Srt B l) (h : i < l.length), i < cV B (V B l[i]) l
  | a :: l, 0, _, _ => by
    unfold cV
    rw [List.countP_cons, if_pos (by simp)]
    omega
  | a :: l, i + 1, hs, h => by
    have h2 := List.pairwise_cons.1 hs
    have hi : i < l.length := by simpa using h
    have h3 := cV_ge (i := i) h2.2 hi
    have h4 := h2.1 l[i] (List.getElem_mem hi)
    unfold cV at h3 ⊢
    rw [List.getElem_cons_succ, List.countP_cons, if_pos (by simpa using h4)]
    omega
theorem LeL.dom {l l' : List Rk} (h : LeL B l l') (hs : Srt B l) (hs' : Srt B l') {i : Nat} (hi : i < l.length) : ∃ h : i < l'.length, V B l'[i] ≤ V B l[i] := cV_lt (i := i) hs' (Nat.lt_of_lt_of_le (cV_ge hs hi) (h _))
/-- element by element -/
inductive Dom (B : Nat) : List Rk → List Rk → Prop where
  | nil (l) : Dom B [] l
  | cons {a a' : Rk} {l l' : List Rk} (h : V B a' ≤ V B a) (k : Dom B l l') : Dom B (a :: l) (a' :: l')
theorem dom_of : ∀ {l l' : List Rk}, (∀ i (hi : i < l.length), ∃ h : i < l'.length, V B l'[i] ≤ V B l[i]) → Dom B l l'
  | [], l', _ => Dom.nil l'
  | a :: l, [], h => by obtain ⟨h1, _⟩ := h 0 (by simp); simp at h1
  | a :: l, a' :: l', h => Dom.cons (h 0 (by simp)).2 (dom_of fun i hi => by
      obtain ⟨h1, h2⟩ := h (i + 1) (by simpa using hi)
      exact ⟨by simpa using h1, by simpa using h2⟩)
theorem jRow_mono (hB : 1 ≤ B) {most i : Nat} {a a' : Rk} (ha : GoodK B a) (ha' : GoodK B a') (h : V B a' ≤ V B a) {m m' : List Rk} (hd : Dom B m m') : ∀ (k : Nat), (∀ b ∈ m, GoodK B b) → (∀ b ∈ m', GoodK B b) → LeL B (jRow most i a k m) (jRow most i a' k m') := by
  induction hd with
  | nil l => intro k _ _ t; unfold jRow cV; simp
  | @cons b b' l l' hb hd ih =>
    intro k h1 h2
    unfold jRow
    have gb := h1 b (List.mem_cons_self ..)
    have gb' := h2 b' (List.mem_cons_self ..)
    split
    · exact LeL.refl _
    · refine LeL.app ?_ (ih (k + 1) (fun z hz => h1 z (List.mem_cons_of_mem _ hz)) fun z hz => h2 z (List.mem_cons_of_mem _ hz))
      by_cases c : a.size + b.size ≤ 5000
      · have l1 := vd_len ha'.dig ha.dig h
        have l2 := vd_len gb'.dig gb.dig hb
        have e1 := ha.len
        have e2 := ha'.len
        have e3 := gb.len
        have e4 := gb'.len
        rw [if_pos c, if_pos (by omega)]
        have := V_cat gb gb' hB h hb
        intro t
        unfold cV
        rw [List.countP_cons, List.countP_cons]
        by_cases c2 : V B (catR a b) ≤ t
        · rw [if_pos (by simpa using c2), if_pos (by simp; omega)]; exact Nat.le_refl _
        · rw [if_neg (by simpa using c2)]; simp
      · rw [if_neg c]
        intro t
        unfold cV
        simp
theorem jAll_mono (hB : 1 ≤ B) {most : Nat} {m m' : List Rk} (hm : ∀ b ∈ m, GoodK B b) (hm' : ∀ b ∈ m', GoodK B b) (hdm : Dom B m m') {l l' : List Rk} (hd : Dom B l l') : ∀ (i : Nat), (∀ b ∈ l, GoodK B b) → (∀ b ∈ l', GoodK B b) → LeL B (jAll most i l m) (jAll most i l' m') := by
  induction hd with
  | nil l => intro i _ _ t; unfold jAll cV; simp
  | @cons b b' l l' hb hd ih =>
    intro i h1 h2
    unfold jAll
    exact LeL.app (jRow_mono hB (h1 b (List.mem_cons_self ..)) (h2 b' (List.mem_cons_self ..)) hb hdm 0 hm hm') (ih (i + 1) (fun z hz => h1 z (List.mem_cons_of_mem _ hz)) fun z hz => h2 z (List.mem_cons_of_mem _ hz))
/-- a list in order -/
structure Lst (B : Nat) (l : List Rk) : Prop where
  good : ∀ a ∈ l, GoodK B a
  srt : Srt B l
theorem jAll_good {most : Nat} {l m : List Rk} (hl : ∀ a ∈ l, GoodK B a) (hm : ∀ a ∈ m, GoodK B a) : ∀ z ∈ jAll most 0 l m, GoodK B z := by
  intro z hz
  obtain ⟨a, h1, b, h2, rfl, h3⟩ := jAll_mem hz
  exact (hl a h1).cat (hm b h2) h3
theorem sort_srt {l : List Rk} (h : ∀ a ∈ l, GoodK B a) : Srt B (l.mergeSort rkLe) := by
  have h1 := List.pairwise_mergeSort (le := rkLe) (fun a b c h1 h2 => by
      simp only [rkLe, Bool.not_eq_true', decide_eq_false_iff_not] at *
      exact cmpRk_ntrans h2 h1) (fun a b => by
      simp only [rkLe, Bool.or_eq_true, Bool.not_eq_true', decide_eq_false_iff_not]
      by_cases h : cmpRk b a < 0
      · right; intro h2; exact cmpRk_irrefl _ (cmpRk_trans h h2)
      · left; exact h) l
  have h2 : ∀ a ∈ l.mergeSort rkLe, GoodK B a := fun a ha => h a ((List.mergeSort_perm _ _).mem_iff.1 ha)
  exact h1.imp_of_mem fun {a b} ha hb hab => (rkLe_iff (h2 a ha) (h2 b hb)).1 hab
theorem first_cV {most t : Nat} {l : List Rk} (h : ∀ a ∈ l, GoodK B a) : cV B t (firstP most l) = min most (cV B t l) := by
  unfold firstP
  rw [cV_take most (sort_srt h)]
  unfold cV
  rw [(List.mergeSort_perm l rkLe).countP_eq]
theorem first_lst {most : Nat} {l : List Rk} (h : ∀ a ∈ l, GoodK B a) : Lst B (firstP most l) :=
  ⟨fun a ha => h a (firstP_mem ha), List.Pairwise.sublist (List.take_sublist _ _) (sort_srt h)⟩
theorem first_mono {most : Nat} {l l' : List Rk} (h : ∀ a ∈ l, GoodK B a) (h' : ∀ a ∈ l', GoodK B a) (k : LeL B l l') : LeL B (firstP most l) (firstP most l') := fun t => by
  rw [first_cV h, first_cV h']
  have := k t
  omega
theorem Lst.dom {l l' : List Rk} (h : Lst B l) (h' : Lst B l') (k : LeL B l l') : Dom B l l' := dom_of fun _ hi => k.dom h.srt h'.srt hi
theorem join_lst {most : Nat} {l m : List Rk} (hl : Lst B l) (hm : Lst B m) : Lst B (joinP most l m) := first_lst (jAll_good hl.good hm.good)
theorem join_mono (hB : 1 ≤ B) {most : Nat} {l m l' m' : List Rk} (hl : Lst B l) (hm : Lst B m) (hl' : Lst B l') (hm' : Lst B m') (k1 : LeL B l l') (k2 : LeL B m m') : LeL B (joinP most l m) (joinP most l' m') :=
  first_mono (jAll_good hl.good hm.good) (jAll_good hl'.good hm'.good) (jAll_mono hB hm.good hm'.good (hm.dom hm' k2) (hl.dom hl' k1) 0 hl.good hl'.good)
theorem one_lst {a : Rk} (h : GoodK B a) : Lst B [a] := ⟨fun b hb => by simp at hb; rw [hb]; exact h, List.pairwise_singleton ..⟩
theorem dig1 {B : Nat} (hB : 1 ≤ B) : DigOk B [(-1 : Int)] := fun d hd => by simp at hd; subst hd; omega
theorem next_lst (hB : 1 ≤ B) {of : MPart → List Rk} (h : ∀ y, Lst B (of y)) (y : Sym) (a p : Nat) : Lst B (nextP of y a p) := by
  unfold nextP
  split
  · exact one_lst ⟨rfl, dig1 hB, by show (1 : Int) ≤ 5000; decide⟩
  · exact h _
theorem next_mono {of of' : MPart → List Rk} (k : ∀ y, LeL B (of y) (of' y)) (y : Sym) (a p : Nat) : LeL B (nextP of y a p) (nextP of' y a p) := by
  unfold nextP
  split
  · exact LeL.refl _
  · exact k _
theorem rowsP_mono (hB : 1 ≤ B) {most : Nat} {of of' : MPart → List Rk} (h : ∀ y, Lst B (of y)) (h' : ∀ y, Lst B (of' y)) (k : ∀ y, LeL B (of y) (of' y)) : ∀ (l : List Sym) (L : List Nat) (a : Nat) (rows rows' : List Rk), Lst B rows → Lst B rows' → LeL B rows rows' → Lst B (rowsP most of l L a rows) ∧ Lst B (rowsP most of' l L a rows') ∧ LeL B (rowsP most of l L a rows) (rowsP most of' l L a rows')
  | [], L, a, rows, rows', h1, h2, h3 => by unfold rowsP; exact ⟨h1, h2, h3⟩
  | y :: l, [], a, rows, rows', h1, h2, h3 => by unfold rowsP; exact ⟨h1, h2, h3⟩
  | y :: l, p :: L, a, rows, rows', h1, h2, h3 => by
    unfold rowsP
    exact rowsP_mono hB h h' k l L p _ _ (join_lst h1 (next_lst hB h y a p)) (join_lst h2 (next_lst hB h' y a p)) (join_mono hB h1 (next_lst hB h y a p) h2 (next_lst hB h' y a p) h3 (next_mono k y a p))
theorem wrap_mono {j : Nat} {l l' : List Rk} (h : LeL B l l') : LeL B (l.map (wrapR j)) (l'.map (wrapR j)) := fun t => by
  have := h t
  unfold cV at *
  rw [List.countP_map, List.countP_map]
  exact this
theorem wrap_good {j : Nat} {l : List Rk} (h : ∀ a ∈ l, GoodK B a) : ∀ a ∈ l.map (wrapR j), GoodK B a := fun a ha => by
  obtain ⟨b, hb, rfl⟩ := List.mem_map.1 ha
  exact ⟨(h b hb).len, (h b hb).dig, (h b hb).hi⟩
theorem wayR_mono {most : Nat} {of of' : MPart → List Rk} (h : ∀ y, Lst B (of y)) (h' : ∀ y, Lst B (of' y)) (k : ∀ y, LeL B (of y) (of' y)) {n : Nat} (hn : n + 2 ≤ B) {r : Rule} {i : Nat} {all all' : List Rk} (h1 : ∀ a ∈ all, GoodK B a) (h2 : ∀ a ∈ all', GoodK B a) (h3 : LeL B all all') (L : List Nat) :
    (∀ a ∈ wayR most of n r i all L, GoodK B a) ∧ (∀ a ∈ wayR most of' n r i all' L, GoodK B a) ∧ LeL B (wayR most of n r i all L) (wayR most of' n r i all' L) := by
  have hB : 1 ≤ B := by omega
  have h0 : Lst B [(⟨1, [(n : Int)], []⟩ : Rk)] := one_lst ⟨rfl, fun d hd => by simp at hd; subst hd; omega, by show (1 : Int) ≤ 5000; decide⟩
  obtain ⟨a1, a2, a3⟩ := rowsP_mono hB h h' k (most := most) r.r L i _ _ h0 h0 (LeL.refl _)
  unfold wayR
  refine ⟨fun a ha => ?_, fun a ha => ?_, LeL.app h3 (wrap_mono a3)⟩
  · rcases List.mem_append.1 ha with ha | ha
    · exact h1 a ha
    · exact wrap_good a1.good a ha
  · rcases List.mem_append.1 ha with ha | ha
    · exact h2 a ha
    · exact wrap_good a2.good a ha
theorem rulesR_mono {x : List Int} {M : List (List Nat)} {most : Nat} {of of' : MPart → List Rk} (h : ∀ y, Lst B (of y)) (h' : ∀ y, Lst B (of' y)) (k : ∀ y, LeL B (of y) (of' y)) {y : MPart} : ∀ (l : List Rule) (n : Nat) (all all' : List Rk), n + l.length + 1 ≤ B → (∀ a ∈ all, GoodK B a) → (∀ a ∈ all', GoodK B a) → LeL B all all' →
    (∀ a ∈ rulesR x M most of y n l all, GoodK B a) ∧ (∀ a ∈ rulesR x M most of' y n l all', GoodK B a) ∧ LeL B (rulesR x M most of y n l all) (rulesR x M most of' y n l all')
  | [], n, all, all', _, h1, h2, h3 => by unfold rulesR; exact ⟨h1, h2, h3⟩
  | r :: l, n, all, all', hn, h1, h2, h3 => by
    unfold rulesR
    rw [List.length_cons] at hn
    have hs : (∀ a ∈ ruleR x M most of y n r all, GoodK B a) ∧ (∀ a ∈ ruleR x M most of' y n r all', GoodK B a) ∧ LeL B (ruleR x M most of y n r all) (ruleR x M most of' y n r all') := by
      unfold ruleR
      split
      · have hf : ∀ (Ls : List (List Nat)) (all all' : List Rk), (∀ a ∈ all, GoodK B a) → (∀ a ∈ all', GoodK B a) → LeL B all all' → (∀ a ∈ Ls.foldl (wayR most of n r y.i) all, GoodK B a) ∧ (∀ a ∈ Ls.foldl (wayR most of' n r y.i) all', GoodK B a) ∧ LeL B (Ls.foldl (wayR most of n r y.i) all) (Ls.foldl (wayR most of' n r y.i) all') := by
          intro Ls
          induction Ls with
          | nil => intro all all' a b c; exact ⟨a, b, c⟩
          | cons L Ls ih =>
            intro all all' a b c
            obtain ⟨d1, d2, d3⟩ := wayR_mono h h' k (most := most) (by omega : n + 2 ≤ B) (r := r) (i := y.i) a b c L
            exact ih _ _ d1 d2 d3
        exact hf _ _ _ h1 h2 h3
      · exact ⟨h1, h2, h3⟩
    exact rulesR_mono h h' k l (n + 1) _ _ (by omega) hs.1 hs.2.1 hs.2.2
theorem again_mono {g : Gram} {x : List Int} {M : List (List Nat)} {most : Nat} {of of' : MPart → List Rk} (hB : g.rules.length + 1 ≤ B) (h : ∀ y, Lst B (of y)) (h' : ∀ y, Lst B (of' y)) (k : ∀ y, LeL B (of y) (of' y)) (y : MPart) :
    Lst B (againP g x M most of y) ∧ LeL B (againP g x M most of y) (againP g x M most of' y) := by
  obtain ⟨h1, h2, h3⟩ := rulesR_mono (x := x) (M := M) (most := most) h h' k (y := y) g.rules 0 [] [] (by omega) (by simp) (by simp) (LeL.refl _)
  exact ⟨first_lst h1, first_mono h1 h2 h3⟩

/-- what holds from pass to pass -/
structure LInv (g : Gram) (x : List Int) (M : List (List Nat)) (most B : Nat) (of : MPart → List Rk) : Prop where
  lst : ∀ y, Lst B (of y)
  few : ∀ y, (of y).length ≤ most
  up : ∀ y, LeL B (of y) (againP g x M most of y)
/-- how far the lists have come -/
def farL (B C : Nat) (l : List Rk) : Nat := ((List.range C).map fun t => cV B t l).sum
def farS (B C : Nat) (ys : List MPart) (of : MPart → List Rk) : Nat := (ys.map fun y => farL B C (of y)).sum
theorem sumI_le {α : Type} {f f' : α → Nat} : ∀ (l : List α), (∀ a ∈ l, f a ≤ f' a) → (l.map f).sum ≤ (l.map f').sum
  | [], _ => by simp
  | a :: l, h => by
    simp only [List.map_cons, List.sum_cons]
    exact Nat.add_le_add (h a (List.mem_cons_self ..)) (sumI_le l fun b hb => h b (List.mem_cons_of_mem _ hb))
theorem sumI_lt {α : Type} {f f' : α → Nat} : ∀ (l : List α), (∀ a ∈ l, f a ≤ f' a) → ∀ a ∈ l, f a < f' a → (l.map f).sum < (l.map f').sum
  | [], _, a, ha, _ => by simp at ha
  | b :: l, h, a, ha, hlt => by
    simp only [List.map_cons, List.sum_cons]
    have h1 := h b (List.mem_cons_self ..)
    have h2 := sumI_le l fun c hc => h c (List.mem_cons_of_mem _ hc)
    rcases List.mem_cons.1 ha with e | ha
    · subst e; omega
    · have := sumI_lt l (fun c hc => h c (List.mem_cons_of_mem _ hc)) a ha hlt
      omega
theorem sumI_bd {α : Type} {f : α → Nat} {K : Nat} : ∀ (l : List α), (∀ a ∈ l, f a ≤ K) → (l.map f).sum ≤ l.length * K
  | [], _ => by simp
  | a :: l, h => by
    simp only [List.map_cons, List.sum_cons, List.length_cons, Nat.succ_mul]
    have := h a (List.mem_cons_self ..)
    have := sumI_bd l fun b hb => h b (List.mem_cons_of_mem _ hb)
    omega
theorem V_bd {a : Rk} (h : GoodK B a) : V B a < rep B 5001 := by
  have h1 := (vd_bd h.dig).2
  have h2 := h.len
  have h3 := h.hi
  have := rep_mono B (show a.pre.length + 1 ≤ 5001 by omega)
  show vd B a.pre < _
  omega
theorem far_lt {C : Nat} (hC : ∀ a, GoodK B a → V B a < C) {l l' : List Rk} (h : Lst B l) (h' : Lst B l') (k : LeL B l l') (hne : sameP l' l ≠ true) : farL B C l < farL B C l' := by
  apply Classical.byContradiction
  intro hc
  apply hne
  have heq : ∀ t, t < C → cV B t l' ≤ cV B t l := fun t ht => by
    apply Classical.byContradiction
    intro h2
    exact hc (sumI_lt (List.range C) (fun t _ => k t) t (List.mem_range.2 ht) (by omega))
  have hall : LeL B l' l := fun t => by
    rcases Nat.lt_or_ge t C with c | c
    · exact heq t c
    · have e : ∀ m, (∀ a ∈ m, GoodK B a) → cV B t m = m.length := fun m hm => by
        unfold cV
        rw [List.countP_eq_length]
        intro a ha
        have := hC a (hm a ha)
        simp; omega
      rw [e l h.good, e l' h'.good]
      rcases Nat.lt_or_ge l.length l'.length with c2 | c2
      · exfalso
        have hi : l'.length - 1 < l'.length := by omega
        have h1 := cV_ge h'.srt hi
        have h2 := hC _ (h'.good _ (List.getElem_mem hi))
        have h3 := heq _ h2
        have h4 : cV B (V B (l'[l'.length - 1]'hi)) l ≤ l.length := List.countP_le_length
        omega
      · exact c2
  unfold sameP
  rw [decide_eq_true_iff]
  apply List.ext_getElem?
  intro i
  simp only [List.getElem?_map]
  rcases Nat.lt_or_ge i l.length with c | c
  · obtain ⟨h1, h2⟩ := k.dom h.srt h'.srt c
    obtain ⟨_, h4⟩ := hall.dom h'.srt h.srt h1
    rw [List.getElem?_eq_getElem c, List.getElem?_eq_getElem h1]
    simp only [Option.map_some, Option.some.injEq]
    exact vd_inj (h'.good _ (List.getElem_mem h1)).dig (h.good _ (List.getElem_mem c)).dig (Nat.le_antisymm h2 h4)
  · have c2 : l'.length ≤ i := by
      rcases Nat.lt_or_ge i l'.length with c2 | c2
      · obtain ⟨h3, _⟩ := hall.dom h'.srt h.srt c2
        omega
      · exact c2
    rw [List.getElem?_eq_none c, List.getElem?_eq_none c2]
theorem step_inv {g : Gram} {x : List Int} {M : List (List Nat)} {most : Nat} (hB : g.rules.length + 1 ≤ B) {C : Nat} (hC : ∀ a, GoodK B a → V B a < C) {ys : List MPart} {s : (MPart → List Rk) × Bool} {y : MPart} (hy : y ∈ ys) (h : LInv g x M most B s.1) :
    LInv g x M most B (stepP g x M most s y).1 ∧ farS B C ys s.1 ≤ farS B C ys (stepP g x M most s y).1 ∧ ((stepP g x M most s y).2 = true → s.2 = true ∨ farS B C ys s.1 < farS B C ys (stepP g x M most s y).1) := by
  unfold stepP
  split
  · exact ⟨h, Nat.le_refl _, fun e => .inl e⟩
  · rename_i hne
    have ha := again_mono (x := x) (M := M) (most := most) hB h.lst h.lst (fun y => LeL.refl _) y
    have hle : ∀ z, LeL B (s.1 z) (setP s.1 y (againP g x M most s.1 y) z) := fun z => by
      unfold setP
      by_cases e : y = z
      · rw [if_pos e, ← e]; exact h.up y
      · rw [if_neg e]; exact LeL.refl _
    have hls : ∀ z, Lst B (setP s.1 y (againP g x M most s.1 y) z) := fun z => by
      unfold setP
      by_cases e : y = z
      · rw [if_pos e]; exact ha.1
      · rw [if_neg e]; exact h.lst z
    have hm := again_mono (x := x) (M := M) (most := most) hB h.lst hls hle
    have hfar : ∀ z, farL B C (s.1 z) ≤ farL B C (setP s.1 y (againP g x M most s.1 y) z) := fun z => sumI_le _ fun t _ => hle z t
    refine ⟨⟨hls, fun z => ?_, fun z => ?_⟩, sumI_le _ fun z _ => hfar z, fun _ => .inr ?_⟩
    · show (setP s.1 y _ z).length ≤ most
      unfold setP
      by_cases e : y = z
      · rw [if_pos e]; exact firstP_len _ _
      · rw [if_neg e]; exact h.few z
    · show LeL B (setP s.1 y _ z) _
      by_cases e : y = z
      · subst e
        have : setP s.1 y (againP g x M most s.1 y) y = againP g x M most s.1 y := by unfold setP; rw [if_pos rfl]
        rw [this]
        exact (hm y).2
      · have : setP s.1 y (againP g x M most s.1 y) z = s.1 z := by unfold setP; rw [if_neg e]
        rw [this]
        exact (h.up z).trans (hm z).2
    · refine sumI_lt ys (fun z _ => hfar z) y hy ?_
      have : setP s.1 y (againP g x M most s.1 y) y = againP g x M most s.1 y := by unfold setP; rw [if_pos rfl]
      show farL B C (s.1 y) < farL B C (setP s.1 y _ y)
      rw [this]
      exact far_lt hC (h.lst y) ha.1 (h.up y) hne
theorem pass_inv {g : Gram} {x : List Int} {M : List (List Nat)} {most : Nat} (hB : g.rules.length + 1 ≤ B) {C : Nat} (hC : ∀ a, GoodK B a → V B a < C) {ys : List MPart} : ∀ (zs : List MPart) (s : (MPart → List Rk) × Bool), (∀ z ∈ zs, z ∈ ys) → LInv g x M most B s.1 →
    LInv g x M most B (zs.foldl (stepP g x M most) s).1 ∧ farS B C ys s.1 ≤ farS B C ys (zs.foldl (stepP g x M most) s).1 ∧ ((zs.foldl (stepP g x M most) s).2 = true → s.2 = true ∨ farS B C ys s.1 < farS B C ys (zs.foldl (stepP g x M most) s).1)
  | [], s, _, h => ⟨h, Nat.le_refl _, fun e => .inl e⟩
  | z :: zs, s, hz, h => by
    obtain ⟨h1, h2, h3⟩ := step_inv hB hC (hz z (List.mem_cons_self ..)) h
    obtain ⟨k1, k2, k3⟩ := pass_inv hB hC zs (stepP g x M most s z) (fun a ha => hz a (List.mem_cons_of_mem _ ha)) h1
    rw [List.foldl_cons]
    refine ⟨k1, Nat.le_trans h2 k2, fun e => ?_⟩
    rcases k3 e with e | e
    · rcases h3 e with e | e
      · exact .inl e
      · exact .inr (by omega)
    · exact .inr (by omega)
theorem loop_ends1 {g : Gram} {x : List Int} {M : List (List Nat)} {most : Nat} (hB : g.rules.length + 1 ≤ B) {C : Nat} (hC : ∀ a, GoodK B a → V B a < C) {ys : List MPart} : ∀ (n : Nat) (of : MPart → List Rk), LInv g x M most B of → ys.length * (C * most) + 1 - farS B C ys of ≤ n → ∃ f of', loopP g x M most ys f of = some of' ∧ LInv g x M most B of'
  | n, of, h, hn => by
    obtain ⟨h1, h2, h3⟩ := pass_inv hB hC (ys := ys) ys (of, false) (fun _ h => h) h
    by_cases c : (passP g x M most ys of).2 = true
    · have hlt : farS B C ys of < farS B C ys (passP g x M most ys of).1 := by
        rcases h3 c with e | e
        · exact Bool.noConfusion e
        · exact e
      have hbd : farS B C ys (passP g x M most ys of).1 ≤ ys.length * (C * most) := sumI_bd ys fun y _ => by
        have := sumI_bd (f := fun t => cV B t ((passP g x M most ys of).1 y)) (K := most) (List.range C) fun t _ => Nat.le_trans List.countP_le_length (h1.few y)
        rwa [List.length_range] at this
      match n, hn with
      | 0, hn => exfalso; omega
      | n + 1, hn =>
        obtain ⟨f, of', e, hi⟩ := loop_ends1 hB hC n (passP g x M most ys of).1 h1 (by
          show _ - farS B C ys (passP g x M most ys of).1 ≤ n
          generalize ys.length * (C * most) = K at *
          omega)
        exact ⟨f + 1, of', by rw [loopP, if_pos c]; exact e, hi⟩
    · exact ⟨1, (passP g x M most ys of).1, by rw [loopP, if_neg c], h1⟩
end

theorem empty_inv (g : Gram) (x : List Int) (M : List (List Nat)) (most B : Nat) : LInv g x M most B fun _ => [] :=
  ⟨fun _ => ⟨by simp, List.Pairwise.nil⟩, fun _ => by simp, fun _ t => by simp [cV]⟩
/-- the loop ends, for every grammar -/
theorem loop_ends (g : Gram) (x : List Int) (M : List (List Nat)) (most : Nat) (ys : List MPart) : ∃ f of', loopP g x M most ys f (fun _ => []) = some of' := by
  obtain ⟨f, of', h, _⟩ := loop_ends1 (B := g.rules.length + 1) (C := rep (g.rules.length + 1) 5001) (x := x) (M := M) (most := most) (Nat.le_refl _) (fun a ha => V_bd ha) (ys := ys) _ _ (empty_inv g x M most _) (Nat.le_refl _)
  exact ⟨f, of', h⟩
/-- and it ends in one way -/
theorem loop_one {g : Gram} {x : List Int} {M : List (List Nat)} {most : Nat} {ys : List MPart} : ∀ {f f' : Nat} {of a b : MPart → List Rk}, loopP g x M most ys f of = some a → loopP g x M most ys f' of = some b → a = b
  | 0, _, _, _, _, h, _ => by cases h
  | _, 0, _, _, _, _, h => by cases h
  | f + 1, f' + 1, of, a, b, h, k => by
    unfold loopP at h k
    split at h
    · rename_i c
      rw [if_pos c] at k
      exact loop_one h k
    · rename_i c
      rw [if_neg c] at k
      rw [h] at k
      injection k
end Go.Proofs.YtdbkbkopcnkgcaaGreat
