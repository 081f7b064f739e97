import Derived.Test.YtdbkbkopcnkgcaaListC
open Go Go.RowKit
namespace Go.Proofs.Ytdbkbkopcnkgcaa

/-! ### fewer trees are a beginning of more -/
section
variable {g : Gram} {x : List Int} {M : List (List Nat)} {B : Nat}
/-- a row of pairs that is not cut -/
def rowU (a : Rk) (m : List Rk) : List Rk := m.flatMap fun b => if a.size + b.size ≤ 5000 then [catR a b] else []
def allU (l m : List Rk) : List Rk := l.flatMap fun a => rowU a m
theorem jRow_eq {most i : Nat} {a : Rk} : ∀ (k : Nat) (m : List Rk), jRow most i a k m = rowU a (m.take (most / (i + 1) - k))
  | k, [] => by simp [jRow, rowU]
  | k, b :: m => by
    unfold jRow
    have hiff := Nat.le_div_iff_mul_le (x := k + 1) (y := most) (show 0 < i + 1 by omega)
    rw [Nat.mul_comm] at hiff
    split
    · rename_i c
      have : ¬ k + 1 ≤ most / (i + 1) := fun h => by have := hiff.1 h; omega
      rw [show most / (i + 1) - k = 0 by omega]
      rfl
    · rename_i c
      have : k + 1 ≤ most / (i + 1) := hiff.2 (by omega)
      rw [show most / (i + 1) - k = (most / (i + 1) - (k + 1)) + 1 by omega, List.take_succ_cons, jRow_eq (k + 1) m]
      rfl
theorem countP_pre {p : Rk → Bool} : ∀ {l : List Rk} (n : Nat), l.Pairwise (fun a b => p b = true → p a = true) → (l.take n).countP p = min n (l.countP p)
  | [], n, _ => by simp
  | a :: l, 0, _ => by simp
  | a :: l, n + 1, h => by
    have h2 := List.pairwise_cons.1 h
    rw [List.take_succ_cons, List.countP_cons, List.countP_cons, countP_pre n h2.2]
    by_cases c : p a = true
    · rw [if_pos c]; omega
    · have hz : l.countP p = 0 := List.countP_eq_zero.2 fun b hb hpb => c (h2.1 b hb hpb)
      rw [if_neg c, hz]; omega
def prU (B t : Nat) (a b : Rk) : Bool := decide (a.size + b.size ≤ 5000 ∧ V B (catR a b) ≤ t)
theorem rowU_cV {t : Nat} {a : Rk} : ∀ (m : List Rk), cV B t (rowU a m) = m.countP (prU B t a)
  | [] => rfl
  | b :: m => by
    have ih := rowU_cV (t := t) (a := a) m
    unfold rowU cV at *
    rw [List.flatMap_cons, List.countP_append, ih, List.countP_cons, Nat.add_comm]
    congr 1
    unfold prU
    by_cases c : a.size + b.size ≤ 5000
    · by_cases c2 : V B (catR a b) ≤ t <;> simp [c, c2]
    · simp [c]
theorem prU_down (hB : 1 ≤ B) {t : Nat} {a a' b b' : Rk} (ha : GoodK B a) (ha' : GoodK B a') (hb : GoodK B b) (hb' : GoodK B b') (h1 : V B a' ≤ V B a) (h2 : V B b' ≤ V B b) (h : prU B t a b = true) : prU B t a' b' = true := by
  unfold prU at *
  simp only [decide_eq_true_eq] at *
  have l1 := vd_len ha'.dig ha.dig h1
  have l2 := vd_len hb'.dig hb.dig h2
  have e1 := ha.len
  have e2 := ha'.len
  have e3 := hb.len
  have e4 := hb'.len
  exact ⟨by omega, Nat.le_trans (V_cat hb hb' hB h1 h2) h.2⟩
theorem rowU_take (hB : 1 ≤ B) {t n : Nat} {a : Rk} (ha : GoodK B a) {m : List Rk} (hm : Lst B m) : cV B t (rowU a (m.take n)) = min n (cV B t (rowU a m)) := by
  rw [rowU_cV, rowU_cV]
  exact countP_pre n (hm.srt.imp_of_mem fun {b c} hb hc hbc h => prU_down hB ha ha (hm.good c hc) (hm.good b hb) (Nat.le_refl _) hbc h)
theorem rowU_mono (hB : 1 ≤ B) {t : Nat} {a b : Rk} (ha : GoodK B a) (hb : GoodK B b) (h : V B a ≤ V B b) {m : List Rk} (hm : ∀ c ∈ m, GoodK B c) : cV B t (rowU b m) ≤ cV B t (rowU a m) := by
  rw [rowU_cV, rowU_cV]
  exact List.countP_mono_left fun c hc h1 => prU_down hB hb ha (hm c hc) (hm c hc) h (Nat.le_refl _) h1
theorem cV_app {t : Nat} (l m : List Rk) : cV B t (l ++ m) = cV B t l + cV B t m := List.countP_append
/-- the pairs that are cut are behind those that are wanted -/
theorem jAll_many (hB : 1 ≤ B) {most t : Nat} {m : List Rk} (hm : Lst B m) : ∀ (l : List Rk) (i acc : Nat), Lst B l → (∀ a ∈ l, i * cV B t (rowU a m) ≤ acc) → min most (acc + cV B t (allU l m)) ≤ acc + cV B t (jAll most i l m)
  | [], i, acc, _, _ => by unfold allU jAll; simp; omega
  | a :: l, i, acc, hl, h => by
    have hs := List.pairwise_cons.1 hl.srt
    have ga := hl.good a (List.mem_cons_self ..)
    have hl2 : Lst B l := ⟨fun b hb => hl.good b (List.mem_cons_of_mem _ hb), hs.2⟩
    have ha := h a (List.mem_cons_self ..)
    have e1 : cV B t (allU (a :: l) m) = cV B t (rowU a m) + cV B t (allU l m) := by unfold allU; rw [List.flatMap_cons, cV_app]
    have e2 : cV B t (jAll most i (a :: l) m) = min (most / (i + 1)) (cV B t (rowU a m)) + cV B t (jAll most (i + 1) l m) := by
      rw [jAll, cV_app, jRow_eq, Nat.sub_zero, rowU_take hB ga hm]
    rw [e1, e2]
    generalize hsv : cV B t (rowU a m) = s at *
    by_cases c : s ≤ most / (i + 1)
    · rw [Nat.min_eq_right c]
      have := jAll_many hB (most := most) (t := t) hm l (i + 1) (acc + s) hl2 fun b hb => by
        have h1 := rowU_mono hB (t := t) ga (hl2.good b hb) (hs.1 b hb) hm.good
        rw [hsv] at h1
        have h2 : (i + 1) * cV B t (rowU b m) ≤ (i + 1) * s := Nat.mul_le_mul_left _ h1
        rw [Nat.succ_mul i s] at h2
        omega
      rw [← Nat.add_assoc, ← Nat.add_assoc]
      exact this
    · rw [Nat.min_eq_left (show most / (i + 1) ≤ s by omega)]
      have h1 := Nat.div_add_mod most (i + 1)
      have h2 := Nat.mod_lt most (show 0 < i + 1 by omega)
      have h3 : i * (most / (i + 1) + 1) ≤ i * s := Nat.mul_le_mul_left _ (by omega)
      rw [Nat.mul_succ] at h3
      rw [Nat.succ_mul] at h1
      omega
theorem jAll_few (hB : 1 ≤ B) {most t : Nat} {m : List Rk} (hm : Lst B m) : ∀ (l : List Rk) (i : Nat), Lst B l → cV B t (jAll most i l m) ≤ cV B t (allU l m)
  | [], i, _ => by unfold allU jAll; simp
  | a :: l, i, hl => by
    have hs := List.pairwise_cons.1 hl.srt
    have hl2 : Lst B l := ⟨fun b hb => hl.good b (List.mem_cons_of_mem _ hb), hs.2⟩
    have ga := hl.good a (List.mem_cons_self ..)
    have ih := jAll_few hB (most := most) (t := t) hm l (i + 1) hl2
    have e1 : cV B t (allU (a :: l) m) = cV B t (rowU a m) + cV B t (allU l m) := by unfold allU; rw [List.flatMap_cons, cV_app]
    rw [jAll, cV_app, jRow_eq, Nat.sub_zero, rowU_take hB ga hm, e1]
    omega
theorem jAll_cV (hB : 1 ≤ B) {most t : Nat} {l m : List Rk} (hl : Lst B l) (hm : Lst B m) : min most (cV B t (jAll most 0 l m)) = min most (cV B t (allU l m)) := by
  have h1 := jAll_many hB (most := most) (t := t) hm l 0 0 hl (by simp)
  have h2 := jAll_few hB (most := most) (t := t) hm l 0 hl
  rw [Nat.zero_add, Nat.zero_add] at h1
  omega
theorem jAll_nil {k i : Nat} (hk : k ≤ i) : ∀ (l m : List Rk), jAll k i l m = []
  | [], m => rfl
  | a :: l, m => by
    rw [jAll, jRow_eq, Nat.div_eq_of_lt (by omega), jAll_nil (by omega) l m]
    rfl
theorem jAll_take {k : Nat} : ∀ (l m : List Rk) (i : Nat), jAll k i (l.take (k - i)) (m.take k) = jAll k i l m
  | [], m, i => by simp [jAll]
  | a :: l, m, i => by
    by_cases c : k ≤ i
    · rw [jAll_nil c, jAll_nil c]
    · rw [show k - i = (k - (i + 1)) + 1 by omega, List.take_succ_cons, jAll, jAll, jAll_take l m (i + 1), jRow_eq, jRow_eq, List.take_take]
      have : k / (i + 1) ≤ k := Nat.div_le_self _ _
      rw [show min (k / (i + 1) - 0) k = k / (i + 1) - 0 by omega]

theorem lst_take {l : List Rk} (h : Lst B l) (k : Nat) : Lst B (l.take k) := ⟨fun a ha => h.good a (List.mem_of_mem_take ha), h.srt.sublist (List.take_sublist _ _)⟩
/-- lists in order with the same numbers are equal -/
theorem eqV {l l' : List Rk} (h : Lst B l) (h' : Lst B l') (e : ∀ t, cV B t l = cV B t l') (hi : ∀ a ∈ l, ∀ b ∈ l', V B a = V B b → a = b) : l = l' := by
  have k1 : LeL B l l' := fun t => Nat.le_of_eq (e t)
  have k2 : LeL B l' l := fun t => Nat.le_of_eq (e t).symm
  apply List.ext_getElem?
  intro i
  rcases Nat.lt_or_ge i l.length with c | c
  · obtain ⟨h1, h2⟩ := k1.dom h.srt h'.srt c
    obtain ⟨_, h4⟩ := k2.dom h'.srt h.srt h1
    rw [List.getElem?_eq_getElem c, List.getElem?_eq_getElem h1, hi _ (List.getElem_mem c) _ (List.getElem_mem h1) (Nat.le_antisymm h4 h2)]
  · have c2 : l'.length ≤ i := by
      rcases Nat.lt_or_ge i l'.length with c2 | c2
      · obtain ⟨h3, _⟩ := k2.dom h'.srt h.srt c2
        omega
      · exact c2
    rw [List.getElem?_eq_none c, List.getElem?_eq_none c2]
theorem fit_inj {hd : List Int} {l : List Sym} {a b : Rk} (ha : GoodK B a) (hb : GoodK B b) (fa : RkFit g hd l a) (fb : RkFit g hd l b) (e : V B a = V B b) : a = b := by
  have e1 : a.pre = b.pre := vd_inj ha.dig hb.dig e
  refine RkFit.key (g := g) (hd := hd) (l := l) (m := [a, b]) (fun z hz => ?_) a (by simp) b (by simp) ?_ e1
  · simp at hz
    rcases hz with rfl | rfl
    · exact fa
    · exact fb
  · rw [← fa.len, ← fb.len, e1]
theorem firstP_take {hd : List Int} {s : List Sym} {k n : Nat} (hk : k ≤ n) {l l' : List Rk} (g1 : ∀ a ∈ l, GoodK B a) (g2 : ∀ a ∈ l', GoodK B a) (f1 : ∀ a ∈ l, RkFit g hd s a) (f2 : ∀ a ∈ l', RkFit g hd s a) (e : ∀ t, min k (cV B t l) = min k (cV B t l')) : firstP k l = (firstP n l').take k := by
  have l1 := first_lst (most := k) g1
  have l2 := first_lst (most := n) g2
  refine eqV l1 (lst_take l2 k) (fun t => ?_) fun a ha b hb => ?_
  · rw [cV_take k l2.srt, first_cV g1, first_cV g2]
    have := e t
    omega
  · have hb' := List.mem_of_mem_take hb
    exact fit_inj (l1.good a ha) (l2.good b hb') (f1 a (firstP_mem ha)) (f2 b (firstP_mem hb'))
theorem join_take (hB : 1 ≤ B) {hd : List Int} {l0 m0 : List Sym} {k n : Nat} (hk : k ≤ n) {l m : List Rk} (hl : Lst B l) (hm : Lst B m) (fl : ∀ a ∈ l, RkFit g hd l0 a) (fm : ∀ a ∈ m, RkFit g [] m0 a) : joinP k (l.take k) (m.take k) = (joinP n l m).take k := by
  unfold joinP
  have e0 := jAll_take (k := k) l m 0
  rw [Nat.sub_zero] at e0
  rw [e0]
  refine firstP_take hk (jAll_good hl.good hm.good) (jAll_good hl.good hm.good) (jAll_fit fl fm) (jAll_fit fl fm) fun t => ?_
  have h1 := jAll_cV hB (most := k) (t := t) hl hm
  have h2 := jAll_cV hB (most := n) (t := t) hl hm
  omega
def takeO (k : Nat) (of : MPart → List Rk) : MPart → List Rk := fun y => (of y).take k
theorem next_take {of : MPart → List Rk} {k : Nat} (hk : 1 ≤ k) (y : Sym) (a p : Nat) : nextP (takeO k of) y a p = (nextP of y a p).take k := by
  unfold nextP
  split
  · rw [List.take_of_length_le (by simpa using hk)]
  · rfl
theorem rows_take (hB : 1 ≤ B) {k n : Nat} (h1 : 1 ≤ k) (hk : k ≤ n) {of : MPart → List Rk} (h : LOk g x n B of) {hd : List Int} : ∀ (l : List Sym) (L : List Nat) (a : Nat) (l0 : List Sym) (rows : List Rk), Lst B rows → (∀ z ∈ rows, RkFit g hd l0 z) → rowsP k (takeO k of) l L a (rows.take k) = (rowsP n of l L a rows).take k ∧ Lst B (rowsP n of l L a rows)
  | [], L, a, l0, rows, hl, _ => by unfold rowsP; exact ⟨rfl, hl⟩
  | y :: l, [], a, l0, rows, hl, _ => by unfold rowsP; exact ⟨rfl, hl⟩
  | y :: l, p :: L, a, l0, rows, hl, hf => by
    unfold rowsP
    have hn := next_lst hB h.lst y a p
    have hnf := next_fit h.ok y a p
    rw [next_take h1, join_take hB hk hl hn hf hnf]
    exact rows_take hB h1 hk h l L p (l0 ++ [y]) _ (join_lst hl hn) (joinP_fit hf hnf)
/-- what is found with a smaller limit -/
structure AllR (g : Gram) (B k : Nat) (s : List Sym) (l l' : List Rk) : Prop where
  e : ∀ t, min k (cV B t l) = min k (cV B t l')
  g1 : ∀ a ∈ l, GoodK B a
  g2 : ∀ a ∈ l', GoodK B a
  f1 : ∀ a ∈ l, RkFit g [] s a
  f2 : ∀ a ∈ l', RkFit g [] s a
theorem way_take {k n : Nat} (h1 : 1 ≤ k) (hk : k ≤ n) (hn : n ≤ 100) (hB : g.rules.length + 1 ≤ B) {of : MPart → List Rk} (h : LOk g x n B of) {q : Nat} {r : Rule} (hr : g.rules[q]? = some r) {i : Nat} {L : List Nat} (hL : L.length = r.r.length) {l l' : List Rk} (hA : AllR g B k [⟨false, r.l⟩] l l') : AllR g B k [⟨false, r.l⟩] (wayR k (takeO k of) q r i l L) (wayR n of q r i l' L) := by
  have hq : q < g.rules.length := (List.getElem?_eq_some_iff.1 hr).1
  have h0 : Lst B [(⟨1, [(q : Int)], []⟩ : Rk)] := one_lst ⟨rfl, fun d hd => by simp at hd; subst hd; omega, by show (1 : Int) ≤ 5000; decide⟩
  obtain ⟨e1, l1⟩ := rows_take (by omega) h1 hk h (hd := [(q : Int)]) r.r L i [] [⟨1, [(q : Int)], []⟩] h0 (one_fit g q)
  rw [List.take_of_length_le (by simpa using h1)] at e1
  have hf := (rowsP_fit h.ok hn (hd := [(q : Int)]) r.r L i [] [⟨1, [(q : Int)], []⟩] hL (by simp) (one_fit g q)).1
  rw [List.nil_append] at hf
  unfold wayR
  rw [e1]
  have hc : ∀ t (m : List Rk), cV B t (m.map (wrapR q)) = cV B t m := fun t m => by unfold cV; rw [List.countP_map]; rfl
  refine ⟨fun t => ?_, ?_, ?_, ?_, ?_⟩
  · rw [cV_app, cV_app, hc, hc, cV_take k l1.srt]
    have := hA.e t
    omega
  · intro a ha
    rcases List.mem_append.1 ha with ha | ha
    · exact hA.g1 a ha
    · exact wrap_good (fun b hb => l1.good b (List.mem_of_mem_take hb)) a ha
  · intro a ha
    rcases List.mem_append.1 ha with ha | ha
    · exact hA.g2 a ha
    · exact wrap_good l1.good a ha
  · intro a ha
    rcases List.mem_append.1 ha with ha | ha
    · exact hA.f1 a ha
    · obtain ⟨t, ht, rfl⟩ := List.mem_map.1 ha
      exact wrap_fit hr (hf t (List.mem_of_mem_take ht))
  · intro a ha
    rcases List.mem_append.1 ha with ha | ha
    · exact hA.f2 a ha
    · obtain ⟨t, ht, rfl⟩ := List.mem_map.1 ha
      exact wrap_fit hr (hf t ht)
theorem rules_take {k n : Nat} (h1 : 1 ≤ k) (hk : k ≤ n) (hn : n ≤ 100) (hB : g.rules.length + 1 ≤ B) {of : MPart → List Rk} (h : LOk g x n B of) {y : MPart} : ∀ (l : List Rule) (q : Nat) (a a' : List Rk), g.rules.drop q = l → AllR g B k [⟨false, y.n⟩] a a' → AllR g B k [⟨false, y.n⟩] (rulesR x M k (takeO k of) y q l a) (rulesR x M n of y q l a')
  | [], q, a, a', _, hA => by unfold rulesR; exact hA
  | r :: l, q, a, a', hd, hA => by
    have hq : g.rules[q]? = some r := by
      have := congrArg (fun t => t[0]?) hd
      simpa using this
    have hd2 : g.rules.drop (q + 1) = l := by
      have := congrArg (List.drop 1) hd
      rwa [List.drop_drop] at this
    unfold rulesR
    refine rules_take h1 hk hn hB h l (q + 1) _ _ hd2 ?_
    unfold ruleR
    split
    · rename_i hl
      have hLs : ∀ L ∈ splC x M y.j r.r y.i, L.length = r.r.length := fun L hL => (splC_le hL).1
      generalize splC x M y.j r.r y.i = Ls at hLs
      rw [← hl] at hA ⊢
      clear hl hd hd2
      induction Ls generalizing a a' with
      | nil => exact hA
      | cons L Ls ih =>
        rw [List.foldl_cons, List.foldl_cons]
        exact ih _ _ (way_take h1 hk hn hB h hq (hLs L (List.mem_cons_self ..)) hA) fun L' h' => hLs L' (List.mem_cons_of_mem _ h')
    · exact hA
theorem again_take {k n : Nat} (h1 : 1 ≤ k) (hk : k ≤ n) (hn : n ≤ 100) (hB : g.rules.length + 1 ≤ B) {of : MPart → List Rk} (h : LOk g x n B of) (y : MPart) : againP g x M k (takeO k of) y = (againP g x M n of y).take k := by
  have hA := rules_take (M := M) h1 hk hn hB h (y := y) g.rules 0 [] [] (List.drop_zero ..) ⟨fun _ => rfl, by simp, by simp, by simp, by simp⟩
  exact firstP_take hk hA.g1 hA.g2 hA.f1 hA.f2 hA.e
theorem same_eq {s : List Sym} {l l' : List Rk} (h : ∀ a ∈ l, RkFit g [] s a) (h' : ∀ a ∈ l', RkFit g [] s a) (e : sameP l l' = true) : l = l' := by
  unfold sameP at e
  simp only [decide_eq_true_eq] at e
  induction l generalizing l' with
  | nil => cases l' with
    | nil => rfl
    | cons _ _ => simp at e
  | cons a l ih => cases l' with
    | nil => simp at e
    | cons a' l' =>
      simp only [List.map_cons, List.cons.injEq] at e
      have fa := h a (List.mem_cons_self ..)
      have fb := h' a' (List.mem_cons_self ..)
      have : a = a' := by
        refine RkFit.key (g := g) (hd := []) (l := s) (m := [a, a']) (fun z hz => ?_) a (by simp) a' (by simp) ?_ e.1
        · simp at hz
          rcases hz with rfl | rfl
          · exact fa
          · exact fb
        · rw [← fa.len, ← fb.len, e.1]
      rw [this, ih (fun b hb => h b (List.mem_cons_of_mem _ hb)) (fun b hb => h' b (List.mem_cons_of_mem _ hb)) e.2]
theorem same_refl (l : List Rk) : sameP l l = true := by unfold sameP; simp
theorem step_take (hv : Valid g) (hx : x.length ≤ 12) (hlow : MLow M) {k n : Nat} (h1 : 1 ≤ k) (hk : k ≤ n) (hn : n ≤ 100) (hB : g.rules.length + 1 ≤ B) {s s' : (MPart → List Rk) × Bool} (h : LOk g x n B s'.1) (e : s.1 = takeO k s'.1) (hf : s.2 = true → s'.2 = true) {y : MPart} (hj : y.j ≤ x.length) :
    LOk g x n B (stepP g x M n s' y).1 ∧ (stepP g x M k s y).1 = takeO k (stepP g x M n s' y).1 ∧ ((stepP g x M k s y).2 = true → (stepP g x M n s' y).2 = true) := by
  have ha := again_take (M := M) h1 hk hn hB h y
  have hfit := (againP_fit (x := x) (M := M) h.ok hn (fun r hr => (hv.ok r hr).len) (y := y) (by omega)).1
  have hset := LOk.set hv hx hB hn h hlow hj
  unfold stepP
  rw [e, ha]
  by_cases c : sameP (againP g x M n s'.1 y) (s'.1 y) = true
  · have e2 := same_eq hfit (h.ok.fit y) c
    rw [if_pos c, e2, if_pos (show sameP ((s'.1 y).take k) (takeO k s'.1 y) = true from same_refl _)]
    exact ⟨h, e, hf⟩
  · rw [if_neg c]
    refine ⟨hset, ?_, fun _ => rfl⟩
    by_cases c2 : sameP ((againP g x M n s'.1 y).take k) (takeO k s'.1 y) = true
    · rw [if_pos c2, e]
      have e2 := same_eq (s := [⟨false, y.n⟩]) (fun a h2 => hfit a (List.mem_of_mem_take h2)) (fun a h2 => h.ok.fit y a (List.mem_of_mem_take h2)) c2
      funext z
      show (s'.1 z).take k = (setP s'.1 y _ z).take k
      unfold setP
      by_cases c3 : y = z
      · subst c3; rw [if_pos rfl, e2]; try rfl
      · rw [if_neg c3]
    · rw [if_neg c2]
      funext z
      show setP (takeO k s'.1) y _ z = (setP s'.1 y _ z).take k
      unfold setP
      by_cases c3 : y = z
      · rw [if_pos c3, if_pos c3]
      · rw [if_neg c3, if_neg c3]; rfl
theorem pass_take (hv : Valid g) (hx : x.length ≤ 12) (hlow : MLow M) {k n : Nat} (h1 : 1 ≤ k) (hk : k ≤ n) (hn : n ≤ 100) (hB : g.rules.length + 1 ≤ B) : ∀ (ys : List MPart) (s s' : (MPart → List Rk) × Bool), (∀ y ∈ ys, y.j ≤ x.length) → LOk g x n B s'.1 → s.1 = takeO k s'.1 → (s.2 = true → s'.2 = true) →
    LOk g x n B (ys.foldl (stepP g x M n) s').1 ∧ (ys.foldl (stepP g x M k) s).1 = takeO k (ys.foldl (stepP g x M n) s').1 ∧ ((ys.foldl (stepP g x M k) s).2 = true → (ys.foldl (stepP g x M n) s').2 = true)
  | [], s, s', _, h, e, hf => ⟨h, e, hf⟩
  | y :: ys, s, s', hj, h, e, hf => by
    obtain ⟨a1, a2, a3⟩ := step_take hv hx hlow h1 hk hn hB h e hf (hj y (List.mem_cons_self ..))
    rw [List.foldl_cons, List.foldl_cons]
    exact pass_take hv hx hlow h1 hk hn hB ys _ _ (fun z hz => hj z (List.mem_cons_of_mem _ hz)) a1 a2 a3
theorem pass_still {most : Nat} : ∀ (ys : List MPart) (s : (MPart → List Rk) × Bool), (ys.foldl (stepP g x M most) s).2 = false → s.2 = false ∧ (ys.foldl (stepP g x M most) s).1 = s.1
  | [], s, h => ⟨h, rfl⟩
  | y :: ys, s, h => by
    rw [List.foldl_cons] at h ⊢
    obtain ⟨h1, h2⟩ := pass_still ys _ h
    unfold stepP at h1 h2 ⊢
    split at h1
    · rename_i c
      rw [if_pos c] at h2 ⊢
      exact ⟨h1, h2⟩
    · cases h1
theorem loop_take (hv : Valid g) (hx : x.length ≤ 12) (hlow : MLow M) {k n : Nat} (h1 : 1 ≤ k) (hk : k ≤ n) (hn : n ≤ 100) (hB : g.rules.length + 1 ≤ B) {ys : List MPart} (hys : ∀ y ∈ ys, y.j ≤ x.length) : ∀ (f : Nat) (of r : MPart → List Rk), loopP g x M n ys f of = some r → LOk g x n B of → ∀ (f' : Nat) (r' : MPart → List Rk), loopP g x M k ys f' (takeO k of) = some r' → r' = takeO k r
  | 0, _, _, h, _, _, _, _ => by cases h
  | f + 1, of, r, h, hok, 0, r', h' => by cases h'
  | f + 1, of, r, h, hok, f' + 1, r', h' => by
    obtain ⟨a1, a2, a3⟩ := pass_take hv hx hlow h1 hk hn hB (M := M) ys (takeO k of, false) (of, false) hys hok rfl (fun h => h)
    unfold loopP at h h'
    have e2 : (passP g x M k ys (takeO k of)).1 = takeO k (passP g x M n ys of).1 := a2
    have e3 : (passP g x M k ys (takeO k of)).2 = true → (passP g x M n ys of).2 = true := a3
    split at h'
    · rename_i c
      rw [if_pos (e3 c)] at h
      rw [e2] at h'
      exact loop_take hv hx hlow h1 hk hn hB hys f _ r h a1 f' r' h'
    · rename_i c
      injection h' with h'
      subst h'
      split at h
      · have hst := pass_still (g := g) (x := x) (M := M) (most := k) ys (takeO k of, false) (by
          have : (passP g x M k ys (takeO k of)).2 = false := by simpa using c
          exact this)
        have e4 : (passP g x M k ys (takeO k of)).1 = takeO k of := hst.2
        have e5 : takeO k (passP g x M n ys of).1 = takeO k of := by rw [← e2, e4]
        refine loop_take hv hx hlow h1 hk hn hB hys f _ r h a1 1 _ ?_
        unfold loopP
        rw [e5, if_neg c]
      · injection h with h
        subst h
        exact e2
end
end Go.Proofs.Ytdbkbkopcnkgcaa
