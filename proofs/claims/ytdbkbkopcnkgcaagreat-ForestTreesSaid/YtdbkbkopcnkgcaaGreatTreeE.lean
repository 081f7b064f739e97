import Derived.Test.YtdbkbkopcnkgcaaGreatTreeD
import Derived.Test.YtdbkbkopcnkgcaaGreatMeanK
open Go Go.RowKit
namespace Go.Proofs.YtdbkbkopcnkgcaaGreat

/-! ### the first rows of a part, plain -/
/-- a row of trees fits symbols; its rules in preorder -/
inductive FitL (g : Gram) : List Sym → List Tr → List Int → Prop where
  | nil : FitL g [] [] []
  | term (n : Int) {l : List Sym} {ks : List Tr} {p : List Int} (h : FitL g l ks p) : FitL g (⟨true, n⟩ :: l) (Tr.mk (-1) n [] :: ks) (-1 :: p)
  | non (k : Nat) (r : Rule) {l : List Sym} {us ks : List Tr} {p q : List Int} (hr : g.rules[k]? = some r) (hu : FitL g r.r us p) (h : FitL g l ks q) : FitL g (⟨false, r.l⟩ :: l) (Tr.mk k 0 us :: ks) ((k : Int) :: (p ++ q))

theorem FitL.inj {g : Gram} {l : List Sym} {ks : List Tr} {p : List Int} (h : FitL g l ks p) : ∀ {us : List Tr} {q z w : List Int}, FitL g l us q → p ++ z = q ++ w → ks = us ∧ p = q ∧ z = w := by
  induction h with
  | nil => intro us q z w h2 e; cases h2; exact ⟨rfl, rfl, by simpa using e⟩
  | term n h ih =>
    intro us q z w h2 e
    cases h2 with
    | term _ h2 =>
      simp only [List.cons_append, List.cons.injEq, true_and] at e
      obtain ⟨e1, e2, e3⟩ := ih h2 e
      exact ⟨by rw [e1], by rw [e2], e3⟩
  | @non k r l us ks p q hr hu h ih1 ih2 =>
    intro us2 q2 z w h2 e
    generalize hs : (⟨false, r.l⟩ : Sym) :: l = sl at h2
    cases h2 with
    | nil => cases hs
    | term _ h2 => simp at hs
    | @non k2 r2 l2 us2 ks2 p2 q2 hr2 hu2 h2 =>
      simp only [List.cons_append, List.cons.injEq, Int.natCast_inj, List.append_assoc] at e
      obtain ⟨e0, e⟩ := e
      subst e0
      rw [hr] at hr2
      injection hr2 with hr2
      subst hr2
      simp only [List.cons.injEq, true_and] at hs
      subst hs
      obtain ⟨a1, a2, a3⟩ := ih1 hu2 e
      obtain ⟨b1, b2, b3⟩ := ih2 h2 a3
      exact ⟨by rw [a1, b1], by rw [a2, b2], b3⟩
theorem FitL.append {g : Gram} {l : List Sym} {ks : List Tr} {p : List Int} (h : FitL g l ks p) {m : List Sym} {us : List Tr} {q : List Int} (k : FitL g m us q) : FitL g (l ++ m) (ks ++ us) (p ++ q) := by
  induction h with
  | nil => exact k
  | term n h ih => exact FitL.term n ih
  | non k r hr hu h ih1 ih2 =>
    rw [List.cons_append, List.cons_append, List.cons_append, List.append_assoc]
    exact FitL.non k r hr hu ih2
theorem FitL.len {g : Gram} {l : List Sym} {ks : List Tr} {p : List Int} (h : FitL g l ks p) : ks.length ≤ p.length ∧ ks.length = l.length := by
  induction h with
  | nil => simp
  | term n h ih => simp; omega
  | non k r hr hu h ih1 ih2 => simp; omega

/-- a row that fits, behind the rules `hd` -/
structure RkFit (g : Gram) (hd : List Int) (l : List Sym) (a : Rk) : Prop where
  fit : ∃ p, a.pre = hd ++ p ∧ FitL g l a.row p
  len : (a.pre.length : Int) = a.size
  hi : a.size ≤ 5000
theorem RkFit.ok {g : Gram} {hd : List Int} {l : List Sym} {a : Rk} (h : RkFit g hd l a) : RkOk a := by
  obtain ⟨⟨p, h1, h2⟩, h3, h4⟩ := h
  exact ⟨h3, by rw [h1, List.length_append]; have := h2.len.1; omega, h4⟩
theorem RkFit.key {g : Gram} {hd : List Int} {l : List Sym} {m : List Rk} (h : ∀ a ∈ m, RkFit g hd l a) : KeyInj m := by
  intro a ha b hb h1 h2
  obtain ⟨⟨p, a1, a2⟩, _, _⟩ := h a ha
  obtain ⟨⟨q, b1, b2⟩, _, _⟩ := h b hb
  rw [a1, b1] at h2
  have e := List.append_cancel_left h2
  obtain ⟨e1, e2, _⟩ := a2.inj b2 (z := []) (w := []) (by rw [e])
  obtain ⟨az, ap, ar⟩ := a
  obtain ⟨bs, bp, br⟩ := b
  simp only at *
  rw [h1, a1, b1, e1, e2]
theorem RkFit.cat {g : Gram} {hd : List Int} {l m : List Sym} {a b : Rk} (h : RkFit g hd l a) (k : RkFit g [] m b) (hs : a.size + b.size ≤ 5000) : RkFit g hd (l ++ m) (catR a b) := by
  obtain ⟨⟨p, a1, a2⟩, a3, _⟩ := h
  obtain ⟨⟨q, b1, b2⟩, b3, _⟩ := k
  refine ⟨⟨p ++ q, ?_, a2.append b2⟩, ?_, hs⟩
  · show a.pre ++ b.pre = _
    rw [a1, b1]; simp
  · show ((a.pre ++ b.pre).length : Int) = a.size + b.size
    rw [List.length_append]; omega
theorem jRow_mem {most i : Nat} {a : Rk} : ∀ {k : Nat} {m : List Rk} {z : Rk}, z ∈ jRow most i a k m → ∃ b ∈ m, z = catR a b ∧ a.size + b.size ≤ 5000
  | k, [], z, h => by simp [jRow] at h
  | k, b :: m, z, h => by
    unfold jRow at h
    split at h
    · simp at h
    · rcases List.mem_append.1 h with h | h
      · split at h
        · simp at h; exact ⟨b, by simp, h, by assumption⟩
        · simp at h
      · obtain ⟨b, h1, h2⟩ := jRow_mem h
        exact ⟨b, by simp [h1], h2⟩
theorem jAll_mem {most : Nat} : ∀ {i : Nat} {l m : List Rk} {z : Rk}, z ∈ jAll most i l m → ∃ a ∈ l, ∃ b ∈ m, z = catR a b ∧ a.size + b.size ≤ 5000
  | i, [], m, z, h => by simp [jAll] at h
  | i, a :: l, m, z, h => by
    unfold jAll at h
    rcases List.mem_append.1 h with h | h
    · obtain ⟨b, h1, h2⟩ := jRow_mem h
      exact ⟨a, by simp, b, h1, h2⟩
    · obtain ⟨a, h1, h2⟩ := jAll_mem h
      exact ⟨a, by simp [h1], h2⟩
theorem firstP_mem {most : Nat} {l : List Rk} {z : Rk} (h : z ∈ firstP most l) : z ∈ l := (List.mergeSort_perm _ _).mem_iff.1 (List.mem_of_mem_take h)
theorem firstP_len (most : Nat) (l : List Rk) : (firstP most l).length ≤ most := by unfold firstP; rw [List.length_take]; omega
theorem jAll_fit {g : Gram} {hd : List Int} {l m : List Sym} {most : Nat} {us bs : List Rk} (ha : ∀ a ∈ us, RkFit g hd l a) (hb : ∀ b ∈ bs, RkFit g [] m b) : ∀ z ∈ jAll most 0 us bs, RkFit g hd (l ++ m) z := by
  intro z hz
  obtain ⟨a, h1, b, h2, rfl, h3⟩ := jAll_mem hz
  exact (ha a h1).cat (hb b h2) h3
theorem joinP_fit {g : Gram} {hd : List Int} {l m : List Sym} {most : Nat} {us bs : List Rk} (ha : ∀ a ∈ us, RkFit g hd l a) (hb : ∀ b ∈ bs, RkFit g [] m b) : ∀ z ∈ joinP most us bs, RkFit g hd (l ++ m) z := fun z hz => jAll_fit ha hb z (firstP_mem hz)

/-- what there is at a symbol -/
def nextP (of : MPart → List Rk) (y : Sym) (a p : Nat) : List Rk := if y.t = true then [⟨1, [-1], [Tr.mk (-1) y.n []]⟩] else of ⟨y.n, a, p⟩
def rowsP (most : Nat) (of : MPart → List Rk) : List Sym → List Nat → Nat → List Rk → List Rk
  | y :: l, p :: L, a, rows => rowsP most of l L p (joinP most rows (nextP of y a p))
  | _, _, _, rows => rows
def wrapR (k : Nat) (a : Rk) : Rk := ⟨a.size, a.pre, [Tr.mk k 0 a.row]⟩
def wayR (most : Nat) (of : MPart → List Rk) (k : Nat) (r : Rule) (i : Nat) (all : List Rk) (L : List Nat) : List Rk := all ++ (rowsP most of r.r L i [⟨1, [(k : Int)], []⟩]).map (wrapR k)
/-- the lists of parts: what is found fits -/
structure OfOk (g : Gram) (most : Nat) (of : MPart → List Rk) : Prop where
  fit : ∀ y, ∀ a ∈ of y, RkFit g [] [⟨false, y.n⟩] a
  len : ∀ y, (of y).length ≤ most

theorem next_fit {g : Gram} {most : Nat} {of : MPart → List Rk} (h : OfOk g most of) (y : Sym) (a p : Nat) : ∀ z ∈ nextP of y a p, RkFit g [] [y] z := by
  intro z hz
  unfold nextP at hz
  obtain ⟨yt, yn⟩ := y
  cases yt
  · simp at hz; exact h.fit _ z hz
  · simp at hz
    subst hz
    exact ⟨⟨[-1], rfl, FitL.term yn FitL.nil⟩, rfl, by show (1 : Int) ≤ 5000; decide⟩
theorem next_len {g : Gram} {most : Nat} {of : MPart → List Rk} (h : OfOk g most of) (hm : most ≤ 100) (y : Sym) (a p : Nat) : (nextP of y a p).length ≤ 100 := by
  unfold nextP
  split
  · simp
  · have := h.len ⟨y.n, a, p⟩; omega
theorem rowsP_fit {g : Gram} {most : Nat} {of : MPart → List Rk} (h : OfOk g most of) (hm : most ≤ 100) {hd : List Int} : ∀ (l : List Sym) (L : List Nat) (a : Nat) (l0 : List Sym) (rows : List Rk), L.length = l.length → rows.length ≤ 100 → (∀ z ∈ rows, RkFit g hd l0 z) → (∀ z ∈ rowsP most of l L a rows, RkFit g hd (l0 ++ l) z) ∧ (rowsP most of l L a rows).length ≤ 100
  | [], L, a, l0, rows, hL, h1, h2 => by unfold rowsP; rw [List.append_nil]; exact ⟨h2, h1⟩
  | y :: l, [], a, l0, rows, hL, h1, h2 => by simp at hL
  | y :: l, p :: L, a, l0, rows, hL, h1, h2 => by
    unfold rowsP
    have := rowsP_fit h hm (hd := hd) l L p (l0 ++ [y]) (joinP most rows (nextP of y a p)) (by simpa using hL) (by have := firstP_len most (jAll most 0 rows (nextP of y a p)); unfold joinP; omega) (joinP_fit h2 (next_fit h y a p))
    rwa [List.append_assoc] at this
theorem one_fit (g : Gram) (k : Nat) : ∀ z ∈ [(⟨1, [(k : Int)], []⟩ : Rk)], RkFit g [(k : Int)] [] z := by
  intro z hz
  simp at hz
  subst hz
  exact ⟨⟨[], rfl, FitL.nil⟩, rfl, by show (1 : Int) ≤ 5000; decide⟩
theorem wrap_fit {g : Gram} {k : Nat} {r : Rule} (hr : g.rules[k]? = some r) {a : Rk} (h : RkFit g [(k : Int)] r.r a) : RkFit g [] [⟨false, r.l⟩] (wrapR k a) := by
  obtain ⟨⟨p, h1, h2⟩, h3, h4⟩ := h
  refine ⟨⟨(k : Int) :: p, by simpa [wrapR] using h1, ?_⟩, h3, h4⟩
  have := FitL.non k r hr h2 FitL.nil
  rwa [List.append_nil] at this
theorem wayR_fit {g : Gram} {most : Nat} {of : MPart → List Rk} (h : OfOk g most of) (hm : most ≤ 100) {k : Nat} {r : Rule} (hr : g.rules[k]? = some r) {i : Nat} {L : List Nat} (hL : L.length = r.r.length) {all : List Rk} (ha : ∀ a ∈ all, RkFit g [] [⟨false, r.l⟩] a) : (∀ a ∈ wayR most of k r i all L, RkFit g [] [⟨false, r.l⟩] a) ∧ (wayR most of k r i all L).length ≤ all.length + 100 := by
  have hf := rowsP_fit h hm (hd := [(k : Int)]) r.r L i [] [⟨1, [(k : Int)], []⟩] hL (by simp) (one_fit g k)
  rw [List.nil_append] at hf
  unfold wayR
  refine ⟨fun a h1 => ?_, by rw [List.length_append, List.length_map]; have := hf.2; omega⟩
  rcases List.mem_append.1 h1 with h1 | h1
  · exact ha a h1
  · obtain ⟨t, h2, rfl⟩ := List.mem_map.1 h1
    exact wrap_fit hr (hf.1 t h2)

theorem splL_few {x : List Int} {M : List (List Nat)} {j : Nat} : ∀ (l : List Sym) (a : Nat), (splL x M j l a).length ≤ (j + 1) ^ l.length
  | [], a => by simp [splL]
  | y :: l, a => by
    unfold splL
    rw [List.length_flatMap, List.length_cons, Nat.pow_succ, Nat.mul_comm]
    have h : ∀ (f : Nat → Nat) (ps : List Nat) (B : Nat), (∀ p, f p ≤ B) → (ps.map f).sum ≤ ps.length * B := by
      intro f ps B hf
      induction ps with
      | nil => simp
      | cons p ps ih => rw [List.map_cons, List.sum_cons, List.length_cons, Nat.succ_mul]; have := hf p; omega
    refine Nat.le_trans (h _ _ ((j + 1) ^ l.length) fun p => ?_) ?_
    · split
      · rw [List.length_map]; exact splL_few l p
      · simp
    · rw [List.length_range']; exact Nat.mul_le_mul_right _ (by omega)
theorem splC_few {x : List Int} {M : List (List Nat)} {j i : Nat} {l : List Sym} (hj : j ≤ 12) (hl : l.length ≤ 4) : (splC x M j l i).length ≤ 28561 := by
  have h1 : (splL x M j l i).length ≤ 13 ^ 4 := by
    refine Nat.le_trans (splL_few l i) (Nat.le_trans (Nat.pow_le_pow_left (by omega : j + 1 ≤ 13) _) (Nat.pow_le_pow_right (by decide) hl))
  unfold splC
  split
  · exact h1
  · simp
theorem fold_step {α β : Type} {f : β → α → β} {Q : β → Prop} {len : β → Nat} {B : Nat} : ∀ (l : List α) (s : β), Q s → (∀ s a, a ∈ l → Q s → Q (f s a) ∧ len (f s a) ≤ len s + B) → Q (l.foldl f s) ∧ len (l.foldl f s) ≤ len s + l.length * B
  | [], s, h, _ => ⟨h, by simp⟩
  | a :: l, s, h, hf => by
    obtain ⟨h1, h2⟩ := hf s a (List.mem_cons_self ..) h
    obtain ⟨h3, h4⟩ := fold_step l (f s a) h1 fun s b hb => hf s b (List.mem_cons_of_mem _ hb)
    refine ⟨h3, ?_⟩
    rw [List.foldl_cons, List.length_cons, Nat.succ_mul]
    omega
/-- all rows of a part: those of the rules from the k-th on -/
def ruleR (x : List Int) (M : List (List Nat)) (most : Nat) (of : MPart → List Rk) (y : MPart) (k : Nat) (r : Rule) (all : List Rk) : List Rk := if r.l = y.n then (splC x M y.j r.r y.i).foldl (wayR most of k r y.i) all else all
def rulesR (x : List Int) (M : List (List Nat)) (most : Nat) (of : MPart → List Rk) (y : MPart) : Nat → List Rule → List Rk → List Rk
  | _, [], all => all
  | k, r :: l, all => rulesR x M most of y (k + 1) l (ruleR x M most of y k r all)
def againP (g : Gram) (x : List Int) (M : List (List Nat)) (most : Nat) (of : MPart → List Rk) (y : MPart) : List Rk := firstP most (rulesR x M most of y 0 g.rules [])

theorem ways_allP {g : Gram} {most : Nat} {of : MPart → List Rk} (h : OfOk g most of) (hm : most ≤ 100) {k : Nat} {r : Rule} (hr : g.rules[k]? = some r) {i : Nat} {B : Nat} : ∀ (Ls : List (List Nat)) (all : List Rk), (∀ L ∈ Ls, L.length = r.r.length) → (∀ a ∈ all, RkFit g [] [⟨false, r.l⟩] a) → all.length + Ls.length * 100 ≤ B → AllP (wayR most of k r i) (fun s _ => (∀ a ∈ s, RkFit g [] [⟨false, r.l⟩] a) ∧ s.length + 100 ≤ B) all Ls
  | [], _, _, _, _ => trivial
  | L :: Ls, all, hL, ha, hb => by
    rw [List.length_cons, Nat.succ_mul] at hb
    have hw := wayR_fit h hm hr (i := i) (hL L (List.mem_cons_self ..)) ha
    exact ⟨⟨ha, by omega⟩, ways_allP h hm hr Ls _ (fun L' h' => hL L' (List.mem_cons_of_mem _ h')) hw.1 (by omega)⟩
theorem ruleR_fit {g : Gram} {x : List Int} {M : List (List Nat)} {most : Nat} {of : MPart → List Rk} (h : OfOk g most of) (hm : most ≤ 100) {k : Nat} {r : Rule} (hr : g.rules[k]? = some r) (hr4 : r.r.length ≤ 4) {y : MPart} (hj : y.j ≤ 12) {all : List Rk} (ha : ∀ a ∈ all, RkFit g [] [⟨false, y.n⟩] a) : (∀ a ∈ ruleR x M most of y k r all, RkFit g [] [⟨false, y.n⟩] a) ∧ (ruleR x M most of y k r all).length ≤ all.length + 2856100 := by
  unfold ruleR
  split
  · rename_i hl
    have := fold_step (f := wayR most of k r y.i) (Q := fun s => ∀ a ∈ s, RkFit g [] [⟨false, y.n⟩] a) (len := List.length) (B := 100) (splC x M y.j r.r y.i) all ha fun s L hL hs => by
      rw [← hl] at hs ⊢
      exact wayR_fit h hm hr (splC_le hL).1 hs
    have h2 := splC_few (x := x) (M := M) (i := y.i) hj hr4
    refine ⟨this.1, Nat.le_trans this.2 ?_⟩
    omega
  · exact ⟨ha, by omega⟩
theorem rulesR_fit {g : Gram} {x : List Int} {M : List (List Nat)} {most : Nat} {of : MPart → List Rk} (h : OfOk g most of) (hm : most ≤ 100) (hr4 : ∀ r ∈ g.rules, r.r.length ≤ 4) {y : MPart} (hj : y.j ≤ 12) : ∀ (l : List Rule) (k : Nat) (all : List Rk), g.rules.drop k = l → (∀ a ∈ all, RkFit g [] [⟨false, y.n⟩] a) → (∀ a ∈ rulesR x M most of y k l all, RkFit g [] [⟨false, y.n⟩] a) ∧ (rulesR x M most of y k l all).length ≤ all.length + l.length * 2856100
  | [], k, all, _, ha => by unfold rulesR; exact ⟨ha, by omega⟩
  | r :: l, k, all, hd, ha => by
    have hk : g.rules[k]? = some r := by
      have := congrArg (fun t => t[0]?) hd
      simpa using this
    have hd2 : g.rules.drop (k + 1) = l := by
      have := congrArg (List.drop 1) hd
      rwa [List.drop_drop] at this
    unfold rulesR
    have h1 := ruleR_fit (x := x) (M := M) h hm hk (hr4 r (List.mem_of_getElem? hk)) hj ha
    have h2 := rulesR_fit (x := x) (M := M) h hm hr4 hj l (k + 1) _ hd2 h1.1
    refine ⟨h2.1, ?_⟩
    rw [List.length_cons, Nat.succ_mul]
    have := h1.2
    have := h2.2
    omega
theorem againP_fit {g : Gram} {x : List Int} {M : List (List Nat)} {most : Nat} {of : MPart → List Rk} (h : OfOk g most of) (hm : most ≤ 100) (hr4 : ∀ r ∈ g.rules, r.r.length ≤ 4) {y : MPart} (hj : y.j ≤ 12) : (∀ a ∈ againP g x M most of y, RkFit g [] [⟨false, y.n⟩] a) ∧ (againP g x M most of y).length ≤ most := by
  have := rulesR_fit (x := x) (M := M) h hm hr4 hj g.rules 0 [] (List.drop_zero ..) (by simp)
  exact ⟨fun a ha => this.1 a (firstP_mem ha), firstP_len _ _⟩

/-! ### the parts below a part -/
def rsyms (F : MPart → List MPart → List MPart) : List Sym → List Nat → Nat → List MPart → List MPart
  | y :: l, p :: L, a, s => rsyms F l L p (if y.t = true then s else F ⟨y.n, a, p⟩ s)
  | _, _, _, s => s
def rruleP (F : MPart → List MPart → List MPart) (x : List Int) (M : List (List Nat)) (y : MPart) (s : List MPart) (r : Rule) : List MPart := if r.l = y.n then (splC x M y.j r.r y.i).foldl (fun s L => rsyms F r.r L y.i s) s else s
def rchP (g : Gram) (x : List Int) (M : List (List Nat)) : Nat → MPart → List MPart → List MPart
  | 0, _, s => s
  | f + 1, y, s => if y ∈ s then s else g.rules.foldl (rruleP (rchP g x M f) x M y) (s ++ [y])
structure RchOk (g : Gram) (x : List Int) (s : List MPart) : Prop where
  nodup : s.Nodup
  sub : ∀ y ∈ s, OkMP g x y
structure RchStep (g : Gram) (x : List Int) (s s' : List MPart) : Prop where
  ok : RchOk g x s'
  sub : ∀ y ∈ s, y ∈ s'
  len : s.length ≤ s'.length
theorem RchStep.refl {g : Gram} {x : List Int} {s : List MPart} (h : RchOk g x s) : RchStep g x s s := ⟨h, fun _ h => h, Nat.le_refl _⟩
theorem RchStep.trans {g : Gram} {x : List Int} {a b c : List MPart} (h : RchStep g x a b) (k : RchStep g x b c) : RchStep g x a c := ⟨k.ok, fun y hy => k.sub y (h.sub y hy), Nat.le_trans h.len k.len⟩
def GoodR2 (g : Gram) (x : List Int) (F : MPart → List MPart → List MPart) : Prop := ∀ y s, OkMP g x y → RchOk g x s → RchStep g x s (F y s)
theorem rsyms_ok {g : Gram} {x : List Int} {F : MPart → List MPart → List MPart} (hF : GoodR2 g x F) : ∀ (l : List Sym) (L : List Nat) (a : Nat) (s : List MPart), (∀ y ∈ l, y.t = false → 0 ≤ y.n ∧ y.n < g.nons) → (∀ p ∈ L, p ≤ x.length) → a ≤ x.length → RchOk g x s → RchStep g x s (rsyms F l L a s)
  | [], L, a, s, _, _, _, h => by unfold rsyms; exact RchStep.refl h
  | y :: l, [], a, s, _, _, _, h => by unfold rsyms; exact RchStep.refl h
  | y :: l, p :: L, a, s, hy, hL, ha, h => by
    unfold rsyms
    have hp := hL p (List.mem_cons_self ..)
    by_cases ht : y.t = true
    · rw [if_pos ht]
      exact rsyms_ok hF l L p s (fun z hz => hy z (List.mem_cons_of_mem _ hz)) (fun q hq => hL q (List.mem_cons_of_mem _ hq)) hp h
    · rw [if_neg ht]
      have h1 := hy y (List.mem_cons_self ..) (by simpa using ht)
      have h2 := hF ⟨y.n, a, p⟩ s ⟨h1.1, h1.2, ha, hp⟩ h
      exact h2.trans (rsyms_ok hF l L p _ (fun z hz => hy z (List.mem_cons_of_mem _ hz)) (fun q hq => hL q (List.mem_cons_of_mem _ hq)) hp h2.ok)
theorem rways_ok {g : Gram} {x : List Int} {F : MPart → List MPart → List MPart} (hF : GoodR2 g x F) (hv : Valid g) {r : Rule} (hr : r ∈ g.rules) {i : Nat} (hi : i ≤ x.length) (Ls : List (List Nat)) (s : List MPart) (hL : ∀ L ∈ Ls, ∀ p ∈ L, p ≤ x.length) (h : RchOk g x s) : RchStep g x s (Ls.foldl (fun s L => rsyms F r.r L i s) s) :=
  foldl_inv (P := RchStep g x s) Ls s (RchStep.refl h) fun s1 L h1 h2 => h1.trans (rsyms_ok hF r.r L i s1 (fun y hy ht => by
    have := (hv.ok r hr).syms y hy
    exact ⟨this.n0, this.nn ht⟩) (hL L h2) hi h1.ok)
theorem rruleP_ok {g : Gram} {x : List Int} {M : List (List Nat)} {F : MPart → List MPart → List MPart} (hF : GoodR2 g x F) (hv : Valid g) {r : Rule} (hr : r ∈ g.rules) {y : MPart} (hy : OkMP g x y) {s : List MPart} (h : RchOk g x s) : RchStep g x s (rruleP F x M y s r) := by
  unfold rruleP
  split
  · exact rways_ok hF hv hr hy.2.2.1 _ s (fun L hL p hp => by have := (splC_le hL).2 p hp; have := hy.2.2.2; omega) h
  · exact RchStep.refl h
theorem rchP_ok {g : Gram} {x : List Int} {M : List (List Nat)} (hv : Valid g) : ∀ f, GoodR2 g x (rchP g x M f)
  | 0 => fun y s _ hs => by unfold rchP; exact RchStep.refl hs
  | f + 1 => fun y s hy hs => by
    unfold rchP
    by_cases hm : y ∈ s
    · rw [if_pos hm]; exact RchStep.refl hs
    · rw [if_neg hm]
      have h0 : RchStep g x s (s ++ [y]) := by
        refine ⟨⟨?_, fun z hz => ?_⟩, fun z hz => List.mem_append_left _ hz, by simp⟩
        · rw [List.nodup_append]
          exact ⟨hs.nodup, by simp, fun a ha b hb e => by simp at hb; subst hb; subst e; exact hm ha⟩
        · rcases List.mem_append.1 hz with hz | hz
          · exact hs.sub z hz
          · simp at hz; rw [hz]; exact hy
      exact foldl_inv (P := RchStep g x s) _ _ h0 fun s1 r h1 hr => h1.trans (rruleP_ok (rchP_ok hv f) hv hr hy h1.ok)
/-- no more parts than there are -/
theorem RchOk.few {g : Gram} {x : List Int} {s : List MPart} (h : RchOk g x s) : s.length ≤ (partsM g x).length :=
  nodup_sub_len _ _ h.nodup fun y hy => mem_partsM (h.sub y hy)
end Go.Proofs.YtdbkbkopcnkgcaaGreat
