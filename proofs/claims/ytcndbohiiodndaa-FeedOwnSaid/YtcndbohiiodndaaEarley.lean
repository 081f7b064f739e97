import Derived.Test.YtcndbohiiodndaaFeedI

open Go Go.RowKit
namespace Go.Proofs.Ytcndbohiiodndaa

/-- the items of the sets of a word -/
inductive EI (g : Gram) (gd : List Bool) (x : List Int) : Nat → Item → Prop
  | init (m : Nat) (r : Rule) : g.rules[m]? = some r → r.l = g.start → gd[m]? = some true → EI g gd x 0 (m, 0, 0)
  | scan (k m e h : Nat) (r : Rule) (t : Int) : EI g gd x k (m, e, h) → g.rules[m]? = some r → r.r[e]? = some ⟨true, t⟩ → x[k]? = some t → EI g gd x (k + 1) (m, e + 1, h)
  | pred (k : Nat) (z : Item) (r : Rule) (n : Int) (m : Nat) (r' : Rule) : EI g gd x k z → g.rules[z.1]? = some r → r.r[z.2.1]? = some ⟨false, n⟩ → g.rules[m]? = some r' → r'.l = n → gd[m]? = some true → EI g gd x k (m, 0, k)
  | compl (k : Nat) (z : Item) (r : Rule) (m e h : Nat) (r' : Rule) : EI g gd x k z → g.rules[z.1]? = some r → z.2.1 = r.r.length → EI g gd x z.2.2 (m, e, h) → g.rules[m]? = some r' → r'.r[e]? = some ⟨false, r.l⟩ → EI g gd x k (m, e + 1, h)

variable {g : Gram} {gd : List Bool} {x : List Int}

theorem ei_le {k : Nat} {z : Item} (h : EI g gd x k z) : z.2.2 ≤ k ∧ k ≤ x.length := by
  induction h with
  | init m r _ _ _ => exact ⟨Nat.le_refl _, Nat.zero_le _⟩
  | scan k m e h r t _ _ _ hx ih => have := (List.getElem?_eq_some_iff.1 hx).1; simp only at ih ⊢; omega
  | pred k z r n m r' _ _ _ _ _ _ ih => exact ⟨Nat.le_refl _, ih.2⟩
  | compl k z r m e h r' _ _ _ _ _ _ ih ih2 => simp only at ih2 ⊢; omega

theorem take_snoc {α : Type} {l : List α} {e : Nat} {y : α} (h : l[e]? = some y) : l.take (e + 1) = l.take e ++ [y] := by
  rw [List.take_add_one, h]; rfl

theorem ei_sound {k : Nat} {z : Item} (h : EI g gd x k z) : ∃ r, g.rules[z.1]? = some r ∧ z.2.1 ≤ r.r.length ∧ Drv g x (r.r.take z.2.1) z.2.2 k := by
  induction h with
  | init m r hr _ _ => exact ⟨r, hr, Nat.zero_le _, .nil 0 (Nat.zero_le _)⟩
  | scan k m e h r t _ hr he hx ih =>
    obtain ⟨r2, h1, h2, h3⟩ := ih
    simp only at h1 h2 h3
    rw [hr] at h1; injection h1 with h1; subst h1
    have hlt := (List.getElem?_eq_some_iff.1 he).1
    have hlx := (List.getElem?_eq_some_iff.1 hx).1
    refine ⟨r, hr, hlt, ?_⟩
    rw [show (m, e + 1, h).2.1 = e + 1 from rfl, take_snoc he]
    exact drv_app h3 (.term hx (.nil _ hlx))
  | pred k z r n m r' hz _ _ hm _ _ ih => exact ⟨r', hm, Nat.zero_le _, .nil k (ei_le hz).2⟩
  | compl k z r m e h r' hz hr hd _ hm he ih ih2 =>
    obtain ⟨r2, h1, h2, h3⟩ := ih
    rw [hr] at h1; injection h1 with h1; subst h1
    obtain ⟨r3, k1, k2, k3⟩ := ih2
    simp only at k1 k2 k3
    rw [hm] at k1; injection k1 with k1; subst k1
    have hlt := (List.getElem?_eq_some_iff.1 he).1
    refine ⟨r', hm, hlt, ?_⟩
    rw [show (m, e + 1, h).2.1 = e + 1 from rfl, take_snoc he]
    rw [hd, List.take_length] at h3
    exact drv_app k3 (.non (List.mem_of_getElem? hr) rfl h3 (.nil k (ei_le hz).2))

theorem drv_prod {l : List Sym} {i j : Nat} (h : Drv g x l i j) : ∀ y ∈ l, y.t = false → Prodn g y.n := by
  induction h with
  | nil i hi => intro y hy; cases hy
  | term hx _ ih =>
    intro y hy ht
    rcases List.mem_cons.1 hy with rfl | hy
    · cases ht
    · exact ih y hy ht
  | non hr hn _ _ ih ih2 =>
    intro y hy ht
    rcases List.mem_cons.1 hy with rfl | hy
    · simp only
      rw [← hn]
      exact .mk _ hr ih
    · exact ih2 y hy ht

theorem ei_complete (hg : Good g gd) {l : List Sym} {i j : Nat} (h : Drv g x l i j) : ∀ (m e h' : Nat) (r : Rule), g.rules[m]? = some r → r.r.drop e = l → EI g gd x i (m, e, h') → EI g gd x j (m, e + l.length, h') := by
  induction h with
  | nil i hi => intro m e h' r _ _ hz; exact hz
  | @term t l i j hx _ ih =>
    intro m e h' r hr hd hz
    have he : r.r[e]? = some ⟨true, t⟩ := by rw [← List.head?_drop, hd]; rfl
    have hd2 : r.r.drop (e + 1) = l := by rw [← List.tail_drop, hd]; rfl
    have := ih m (e + 1) h' r hr hd2 (.scan i m e h' r t hz hr he hx)
    rw [List.length_cons, show e + (l.length + 1) = e + 1 + l.length by omega]
    exact this
  | @non n l r' i k j hr' hn hsub _ ih ih2 =>
    intro m e h' r hr hd hz
    have he : r.r[e]? = some ⟨false, n⟩ := by rw [← List.head?_drop, hd]; rfl
    have hd2 : r.r.drop (e + 1) = l := by rw [← List.tail_drop, hd]; rfl
    obtain ⟨m', hm', rfl⟩ := List.getElem_of_mem hr'
    have hm2 := List.getElem?_eq_getElem hm'
    have hgd := (hg.iff m' _ hm2).2 (drv_prod hsub)
    have h1 := ih m' 0 i _ hm2 (by simp) (.pred i _ r n m' _ hz hr he hm2 hn hgd)
    rw [Nat.zero_add] at h1
    have h2 : EI g gd x k (m, e + 1, h') := .compl k _ _ m e h' r h1 hm2 rfl hz hr (by rw [he, hn])
    have := ih2 m (e + 1) h' r hr hd2 h2
    rw [List.length_cons, show e + (l.length + 1) = e + 1 + l.length by omega]
    exact this

/-- at its end, and only then, it is told that what was read is a word -/
theorem nextE_iff (hg : Good g gd) : NextE g (EI g gd x x.length) ↔ Drv g x [⟨false, g.start⟩] 0 x.length := by
  constructor
  · rintro ⟨m, e, h, r, hz, hr, rfl, rfl, hs⟩
    obtain ⟨r2, h1, h2, h3⟩ := ei_sound hz
    simp only at h1 h2 h3
    rw [hr] at h1; injection h1 with h1; subst h1
    rw [List.take_length] at h3
    exact .non (List.mem_of_getElem? hr) hs h3 (.nil _ (Nat.le_refl _))
  · intro h
    generalize hj : x.length = j at h
    generalize hl : ([⟨false, g.start⟩] : List Sym) = l at h
    cases h with
    | nil => cases hl
    | term => cases hl
    | @non n l r i k j hr hn hsub hrest =>
      injection hl with hl1 hl2
      injection hl1 with _ hl1
      subst hl1
      subst hl2
      cases hrest
      obtain ⟨m, hm, rfl⟩ := List.getElem_of_mem hr
      have hm2 := List.getElem?_eq_getElem hm
      have h1 := ei_complete hg hsub m 0 0 _ hm2 (by simp) (.init m _ hm2 hn ((hg.iff m _ hm2).2 (drv_prod hsub)))
      rw [Nat.zero_add] at h1
      exact ⟨m, _, 0, _, h1, hm2, rfl, rfl, hn⟩

theorem ei_viable (hg : Good g gd) {l : List Sym} {i0 j i : Nat} (h : Drv g x l i0 j) : ∀ (m e h' : Nat) (r : Rule), g.rules[m]? = some r → r.r.drop e = l → EI g gd x i0 (m, e, h') → i0 ≤ i → i < j → ∃ t, x[i]? = some t ∧ NextT g (EI g gd x i) t := by
  induction h with
  | nil i0 hi => intro m e h' r _ _ _ h1 h2; omega
  | @term t l i0 j hx _ ih =>
    intro m e h' r hr hd hz h1 h2
    have he : r.r[e]? = some ⟨true, t⟩ := by rw [← List.head?_drop, hd]; rfl
    have hd2 : r.r.drop (e + 1) = l := by rw [← List.tail_drop, hd]; rfl
    rcases Nat.eq_or_lt_of_le h1 with rfl | h3
    · exact ⟨t, hx, m, e, h', r, hz, hr, he⟩
    · exact ih m (e + 1) h' r hr hd2 (.scan i0 m e h' r t hz hr he hx) h3 h2
  | @non n l r' i0 k j hr' hn hsub _ ih ih2 =>
    intro m e h' r hr hd hz h1 h2
    have he : r.r[e]? = some ⟨false, n⟩ := by rw [← List.head?_drop, hd]; rfl
    have hd2 : r.r.drop (e + 1) = l := by rw [← List.tail_drop, hd]; rfl
    obtain ⟨m', hm', rfl⟩ := List.getElem_of_mem hr'
    have hm2 := List.getElem?_eq_getElem hm'
    have hgd := (hg.iff m' _ hm2).2 (drv_prod hsub)
    have hp : EI g gd x i0 (m', 0, i0) := .pred i0 _ r n m' _ hz hr he hm2 hn hgd
    rcases Nat.lt_or_ge i k with h3 | h3
    · exact ih m' 0 i0 _ hm2 (by simp) hp h1 h3
    · have h4 := ei_complete hg hsub m' 0 i0 _ hm2 (by simp) hp
      rw [Nat.zero_add] at h4
      exact ih2 m (e + 1) h' r hr hd2 (.compl k _ _ m e h' r h4 hm2 rfl hz hr (by rw [he, hn])) h3 h2

/-- every word of the grammar is read -/
theorem nextT_whole (hg : Good g gd) (h : Drv g x [⟨false, g.start⟩] 0 x.length) {i : Nat} {t : Int} (hi : x[i]? = some t) : NextT g (EI g gd x i) t := by
  have hlt := (List.getElem?_eq_some_iff.1 hi).1
  generalize hj : x.length = j at h
  generalize hl : ([⟨false, g.start⟩] : List Sym) = l at h
  cases h with
  | nil => cases hl
  | term => cases hl
  | @non n l r i0 k j hr hn hsub hrest =>
    injection hl with hl1 hl2
    injection hl1 with _ hl1
    subst hl1
    subst hl2
    cases hrest
    obtain ⟨m, hm, rfl⟩ := List.getElem_of_mem hr
    have hm2 := List.getElem?_eq_getElem hm
    obtain ⟨t', h1, h2⟩ := ei_viable hg hsub m 0 0 _ hm2 (by simp) (.init m _ hm2 hn ((hg.iff m _ hm2).2 (drv_prod hsub))) (Nat.zero_le i) (by omega)
    rw [hi] at h1; injection h1 with h1; subst h1
    exact h2

theorem ei_prefix {y : List Int} {n : Nat} (hxy : ∀ j, j < n → x[j]? = y[j]?) {k : Nat} {z : Item} (h : EI g gd x k z) : k ≤ n → EI g gd y k z := by
  induction h with
  | init m r hr hs hg => intro _; exact .init m r hr hs hg
  | scan k m e h r t _ hr he hx ih => intro hk; exact .scan k m e h r t (ih (by omega)) hr he (by rw [← hxy k (by omega)]; exact hx)
  | pred k z r n m r' _ hr he hm hl hg ih => intro hk; exact .pred k z r n m r' (ih hk) hr he hm hl hg
  | compl k z r m e h r' hz hr hd _ hm he ih ih2 => intro hk; exact .compl k z r m e h r' (ih hk) hr hd (ih2 (by have := (ei_le hz).1; omega)) hm he

theorem ei_snoc (t : Int) {k : Nat} (hk : k ≤ x.length) (z : Item) : EI g gd (x ++ [t]) k z ↔ EI g gd x k z :=
  ⟨fun h => ei_prefix (n := x.length) (fun j hj => by rw [List.getElem?_append_left hj]) h hk, fun h => ei_prefix (n := x.length) (fun j hj => by rw [List.getElem?_append_left hj]) h hk⟩

theorem ei_next (t : Int) (z : Item) : EI g gd (x ++ [t]) (x.length + 1) z ↔ Clo g gd (EI g gd x) (x.length + 1) (Scan g (EI g gd x x.length) t) z := by
  constructor
  · intro h
    generalize hk : x.length + 1 = k at h
    induction h with
    | init m r hr hs hg => omega
    | scan k m e h r t' hz hr he hx ih =>
      obtain rfl : k = x.length := by omega
      have ht : t' = t := by
        rw [List.getElem?_append_right (Nat.le_refl _)] at hx
        simp at hx
        exact hx.symm
      subst ht
      exact .base _ ⟨m, e, h, r, (ei_snoc _ (Nat.le_refl _) _).1 hz, hr, he, rfl⟩
    | pred k z r n m r' _ hr he hm hl hg ih => subst hk; exact .pred z r n m r' (ih rfl) hr he hm hl hg
    | compl k z r m e h r' hz hr hd hz2 hm he ih ih2 =>
      subst hk
      by_cases hz3 : z.2.2 = x.length + 1
      · exact .own z r m e h r' (ih rfl) hr hd hz3 (by have h9 := ih2 hz3.symm; rw [hz3] at h9; exact h9) hm he
      · have := (ei_le hz).1
        exact .old z r m e h r' (ih rfl) hr hd hz3 ((ei_snoc _ (by omega) _).1 hz2) hm he
  · intro h
    induction h with
    | base z h =>
      obtain ⟨m, e, h, r, h1, h2, h3, rfl⟩ := h
      exact .scan _ m e h r t ((ei_snoc _ (Nat.le_refl _) _).2 h1) h2 h3 (by rw [List.getElem?_append_right (Nat.le_refl _)]; simp)
    | pred z r n m r' _ hr he hm hl hg ih => exact .pred _ z r n m r' ih hr he hm hl hg
    | old z r m e h r' _ hr hd hk h1 hm he ih =>
      have := (ei_le ih).1
      exact .compl _ z r m e h r' ih hr hd ((ei_snoc _ (by omega) _).2 h1) hm he
    | own z r m e h r' _ hr hd hk _ hm he ih ih2 => exact .compl _ z r m e h r' ih hr hd (by rw [hk]; exact ih2) hm he

theorem ei_first (z : Item) : EI g gd ([] : List Int) 0 z ↔ Clo g gd (fun _ _ => False) 0 (Init g gd) z := by
  constructor
  · intro h
    generalize hk : 0 = k at h
    induction h with
    | init m r hr hs hg => exact .base _ ⟨r, hr, hs, hg, rfl, rfl⟩
    | scan k m e h r t' hz hr he hx ih => omega
    | pred k z r n m r' _ hr he hm hl hg ih => subst hk; exact .pred z r n m r' (ih rfl) hr he hm hl hg
    | compl k z r m e h r' hz hr hd hz2 hm he ih ih2 =>
      subst hk
      have hz3 : z.2.2 = 0 := by have := (ei_le hz).1; omega
      exact .own z r m e h r' (ih rfl) hr hd hz3 (by have h9 := ih2 hz3.symm; rw [hz3] at h9; exact h9) hm he
  · intro h
    induction h with
    | base z h =>
      obtain ⟨r, h1, h2, h3, h4, h5⟩ := h
      obtain ⟨z1, z2, z3⟩ := z
      simp only at *
      subst h4
      subst h5
      exact .init z1 r h1 h2 h3
    | pred z r n m r' _ hr he hm hl hg ih => exact .pred _ z r n m r' ih hr he hm hl hg
    | old z r m e h r' _ hr hd hk h1 hm he ih => exact h1.elim
    | own z r m e h r' _ hr hd hk _ hm he ih ih2 => exact .compl _ z r m e h r' ih hr hd (by rw [hk]; exact ih2) hm he
end Go.Proofs.Ytcndbohiiodndaa
