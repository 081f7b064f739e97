import Derived.Test.YtdbkbkopcnkgcaaLoopA
open Go Go.RowKit
namespace Go.Proofs.Ytdbkbkopcnkgcaa

/-! ### the trees that are listed, plain: what they derive, that they differ, how many there are -/
/-- a row of trees derives the word from a on; L: the ends -/
inductive YT (g : Gram) (x : List Int) : List Sym → Nat → List Nat → List Tr → List Int → Prop where
  | nil (a : Nat) : YT g x [] a [] [] []
  | term {n : Int} {a : Nat} {l : List Sym} {L : List Nat} {ks : List Tr} {p : List Int} (hx : x[a]? = some n) (h : YT g x l (a + 1) L ks p) : YT g x (⟨true, n⟩ :: l) a ((a + 1) :: L) (Tr.mk (-1) n [] :: ks) (-1 :: p)
  | non (k : Nat) (r : Rule) {a : Nat} {l : List Sym} {L La : List Nat} {us ks : List Tr} {p q : List Int} (hr : g.rules[k]? = some r) (hu : YT g x r.r a La us p) (h : YT g x l (La.getLastD a) L ks q) : YT g x (⟨false, r.l⟩ :: l) a (La.getLastD a :: L) (Tr.mk k 0 us :: ks) ((k : Int) :: (p ++ q))

section
variable {g : Gram} {x : List Int} {M : List (List Nat)}
theorem YT.fit {l : List Sym} {a : Nat} {L : List Nat} {ks : List Tr} {p : List Int} (h : YT g x l a L ks p) : FitL g l ks p := by
  induction h with
  | nil => exact .nil
  | term _ _ ih => exact .term _ ih
  | non k r hr _ _ ih1 ih2 => exact .non k r hr ih1 ih2
theorem YT.det {l : List Sym} {a : Nat} {L : List Nat} {ks : List Tr} {p : List Int} (h : YT g x l a L ks p) : ∀ {L' : List Nat} {p' : List Int}, YT g x l a L' ks p' → L = L' := by
  induction h with
  | nil => intro L' p' h2; cases h2; rfl
  | term _ _ ih => intro L' p' h2; cases h2 with | term _ h2 => rw [ih h2]
  | @non k r a l L La us ks p q hr hu h ih1 ih2 =>
    intro L' p' h2
    generalize hs : (⟨false, r.l⟩ : Sym) :: l = sl at h2
    generalize ht : Tr.mk k 0 us :: ks = tl at h2
    cases h2 with
    | nil => cases hs
    | term _ _ => simp at hs
    | @non k2 r2 a2 l2 L2 La2 us2 ks2 p2 q2 hr2 hu2 h2 =>
      injection ht with ht1 ht2
      injection ht1 with ht3 _ ht4
      have e : k = k2 := by omega
      subst e ht2 ht4
      rw [hr] at hr2
      injection hr2 with hr2
      subst hr2
      injection hs with _ hs2
      subst hs2
      obtain rfl := ih1 hu2
      rw [ih2 h2]
theorem YT.app {l : List Sym} {a : Nat} {L : List Nat} {ks : List Tr} {p : List Int} (h : YT g x l a L ks p) {m : List Sym} {L' : List Nat} {us : List Tr} {q : List Int} : YT g x m (L.getLastD a) L' us q → YT g x (l ++ m) a (L ++ L') (ks ++ us) (p ++ q) := by
  induction h with
  | nil => intro k; exact k
  | term hx h ih => intro k; rw [List.getLastD_cons] at k; exact .term hx (ih k)
  | non k r hr hu h ih1 ih2 =>
    intro j
    rw [List.getLastD_cons] at j
    rw [List.cons_append, List.cons_append, List.cons_append, List.cons_append, List.append_assoc]
    exact .non k r hr hu (ih2 j)
/-- the trees of one symbol -/
def RkY (g : Gram) (x : List Int) (hd : List Int) (l : List Sym) (a : Nat) (L : List Nat) (z : Rk) : Prop := ∃ p, z.pre = hd ++ p ∧ YT g x l a L z.row p
/-- the terminals lie on the ends -/
def PathT (x : List Int) : List Sym → Nat → List Nat → Prop
  | [], _, L => L = []
  | y :: l, a, p :: L => (y.t = true → x[a]? = some y.n ∧ p = a + 1) ∧ PathT x l p L
  | _ :: _, _, [] => False
theorem spl_path {j : Nat} : ∀ (l : List Sym) (a : Nat) (L : List Nat), (seqEnds x M l (2 ^ a)).testBit j = true → L ∈ splL x M j l a → PathT x l a L ∧ L.getLastD a = j
  | [], a, L, h, hL => by
    unfold splL at hL
    simp at hL
    subst hL
    exact ⟨rfl, pow_bit h⟩
  | y :: l, a, L, _, hL => by
    unfold splL at hL
    obtain ⟨p, _, hp⟩ := List.mem_flatMap.1 hL
    split at hp
    · rename_i hc
      obtain ⟨L', h1, rfl⟩ := List.mem_map.1 hp
      obtain ⟨h2, h3⟩ := spl_path l p L' hc.2 h1
      refine ⟨⟨fun ht => ?_, h2⟩, by rw [List.getLastD_cons]; exact h3⟩
      obtain ⟨yt, yn⟩ := y
      simp only at ht
      subst ht
      exact (aft1_term ..).1 hc.1
    · simp at hp
theorem splC_path (hlow : MLow M) {l : List Sym} {i j : Nat} (hj : j ≤ x.length) {L : List Nat} (hL : L ∈ splC x M j l i) : PathT x l i L ∧ L.getLastD i = j := by
  unfold splC at hL
  split at hL
  · rename_i h
    exact spl_path l i L ((rchS_bit hlow hj l i).1 h).2 hL
  · simp at hL
theorem splL_nodup {j : Nat} : ∀ (l : List Sym) (a : Nat), (splL x M j l a).Nodup
  | [], a => by simp [splL]
  | y :: l, a => by
    unfold splL
    unfold List.Nodup
    rw [List.pairwise_flatMap]
    refine ⟨fun p _ => ?_, ?_⟩
    · split
      · rw [List.pairwise_map]
        exact (splL_nodup l p).imp fun h e => h (by injection e)
      · exact List.Pairwise.nil
    · refine (List.nodup_range' (s := a) (n := j + 1 - a) (step := 1)).imp fun {p q} hpq L hL L' hL' e => ?_
      split at hL
      · split at hL'
        · obtain ⟨_, _, rfl⟩ := List.mem_map.1 hL
          obtain ⟨_, _, rfl⟩ := List.mem_map.1 hL'
          injection e with e
          exact hpq e
        · simp at hL'
      · simp at hL
theorem splC_nodup {j i : Nat} {l : List Sym} : (splC x M j l i).Nodup := by
  unfold splC
  split
  · exact splL_nodup l i
  · exact List.Pairwise.nil

/-! what rows derive -/
def OfY (g : Gram) (x : List Int) (of : MPart → List Rk) : Prop := ∀ y, ∀ z ∈ of y, RkY g x [] [⟨false, y.n⟩] y.i [y.j] z
theorem next_y {of : MPart → List Rk} (h : OfY g x of) {y : Sym} {a p : Nat} (hy : y.t = true → x[a]? = some y.n ∧ p = a + 1) : ∀ z ∈ nextP of y a p, RkY g x [] [y] a [p] z := by
  intro z hz
  unfold nextP at hz
  obtain ⟨yt, yn⟩ := y
  cases yt
  · simp at hz; exact h _ z hz
  · obtain ⟨h1, rfl⟩ := hy rfl
    simp at hz
    subst hz
    exact ⟨[-1], rfl, .term h1 (.nil _)⟩
theorem jAll_y {most : Nat} {hd : List Int} {l m : List Sym} {i : Nat} {L L' : List Nat} {us bs : List Rk} (ha : ∀ a ∈ us, RkY g x hd l i L a) (hb : ∀ b ∈ bs, RkY g x [] m (L.getLastD i) L' b) : ∀ z ∈ jAll most 0 us bs, RkY g x hd (l ++ m) i (L ++ L') z := by
  intro z hz
  obtain ⟨a, h1, b, h2, rfl, _⟩ := jAll_mem hz
  obtain ⟨p, e1, y1⟩ := ha a h1
  obtain ⟨q, e2, y2⟩ := hb b h2
  exact ⟨p ++ q, by show a.pre ++ b.pre = _; rw [e1, e2]; simp, y1.app y2⟩
theorem rowsP_y {most : Nat} {of : MPart → List Rk} (h : OfY g x of) {hd : List Int} {i : Nat} : ∀ (l : List Sym) (L : List Nat) (a : Nat) (l0 : List Sym) (L0 : List Nat) (rows : List Rk), L0.getLastD i = a → PathT x l a L → (∀ z ∈ rows, RkY g x hd l0 i L0 z) → ∀ z ∈ rowsP most of l L a rows, RkY g x hd (l0 ++ l) i (L0 ++ L) z
  | [], L, a, l0, L0, rows, _, hp, hr => by
    unfold rowsP
    unfold PathT at hp
    subst hp
    rw [List.append_nil, List.append_nil]
    exact hr
  | y :: l, [], a, l0, L0, rows, _, hp, _ => hp.elim
  | y :: l, p :: L, a, l0, L0, rows, h0, hp, hr => by
    unfold rowsP
    have := rowsP_y (most := most) h (hd := hd) l L p (l0 ++ [y]) (L0 ++ [p]) (joinP most rows (nextP of y a p)) (by simp) hp.2 fun z hz => jAll_y hr (by rw [h0]; exact next_y h hp.1) z (firstP_mem hz)
    rwa [List.append_assoc, List.append_assoc] at this
/-- a tree of a part, by a rule and its ends -/
def SrcK (g : Gram) (x : List Int) (y : MPart) (k : Nat) (L : List Nat) (z : Rk) : Prop := ∃ r p us, g.rules[k]? = some r ∧ YT g x r.r y.i L us p ∧ z.pre = (k : Int) :: p ∧ z.row = [Tr.mk k 0 us] ∧ r.l = y.n ∧ L.getLastD y.i = y.j
theorem SrcK.y {y : MPart} {k : Nat} {L : List Nat} {z : Rk} (h : SrcK g x y k L z) : RkY g x [] [⟨false, y.n⟩] y.i [y.j] z := by
  obtain ⟨r, p, us, hr, hy, h1, h2, h3, h4⟩ := h
  refine ⟨(k : Int) :: (p ++ []), by rw [h1]; simp, ?_⟩
  rw [h2, ← h3, ← h4]
  exact .non k r hr hy (.nil _)
theorem SrcK.inj {y : MPart} {k k' : Nat} {L L' : List Nat} {z z' : Rk} (h : SrcK g x y k L z) (h' : SrcK g x y k' L' z') (e : z.pre = z'.pre) : k = k' ∧ L = L' := by
  obtain ⟨r, p, us, hr, hy, h1, h2, h3, h4⟩ := h
  obtain ⟨r', p', us', hr', hy', h1', h2', h3', h4'⟩ := h'
  rw [h1, h1'] at e
  injection e with e1 e2
  have e3 : k = k' := by omega
  subst e3
  rw [hr] at hr'
  injection hr' with hr'
  subst hr'
  subst e2
  obtain ⟨e4, _, _⟩ := hy.fit.inj hy'.fit (z := []) (w := []) rfl
  subst e4
  exact ⟨rfl, hy.det hy'⟩
theorem way_src {most : Nat} {of : MPart → List Rk} (h : OfY g x of) {y : MPart} {k : Nat} {r : Rule} (hr : g.rules[k]? = some r) (hl : r.l = y.n) {L : List Nat} (hp : PathT x r.r y.i L) (hj : L.getLastD y.i = y.j) : ∀ z ∈ (rowsP most of r.r L y.i [⟨1, [(k : Int)], []⟩]).map (wrapR k), SrcK g x y k L z := by
  intro z hz
  obtain ⟨t, ht, rfl⟩ := List.mem_map.1 hz
  have := rowsP_y (most := most) h (hd := [(k : Int)]) (i := y.i) r.r L y.i [] [] [⟨1, [(k : Int)], []⟩] rfl hp (fun z hz => by
    simp at hz
    subst hz
    exact ⟨[], rfl, .nil _⟩) t ht
  obtain ⟨p, e1, y1⟩ := this
  rw [List.nil_append, List.nil_append] at y1
  exact ⟨r, p, t.row, hr, y1, e1, rfl, hl, hj⟩

/-! that they differ -/
def ND (l : List Rk) : Prop := l.Pairwise fun a b => a.pre ≠ b.pre
theorem ND.perm {l m : List Rk} (h : l.Perm m) (k : ND l) : ND m := (h.pairwise_iff (fun {_ _} h => Ne.symm h)).1 k
theorem first_nd {most : Nat} {l : List Rk} (h : ND l) : ND (firstP most l) := List.Pairwise.sublist (List.take_sublist _ _) (ND.perm (List.mergeSort_perm _ _).symm h)
theorem jRow_nd {most i : Nat} {a : Rk} : ∀ {k : Nat} {m : List Rk}, ND m → ND (jRow most i a k m)
  | k, [], _ => by unfold jRow; exact List.Pairwise.nil
  | k, b :: m, h => by
    unfold jRow
    have h2 := List.pairwise_cons.1 h
    split
    · exact List.Pairwise.nil
    · refine List.pairwise_append.2 ⟨?_, jRow_nd h2.2, fun z hz u hu => ?_⟩
      · split
        · exact List.pairwise_singleton ..
        · exact List.Pairwise.nil
      · split at hz
        · simp at hz
          subst hz
          obtain ⟨c, hc, rfl, _⟩ := jRow_mem hu
          exact fun e => h2.1 c hc (List.append_cancel_left e)
        · simp at hz
theorem jAll_nd {most : Nat} {hd : List Int} {l0 m0 : List Sym} {m : List Rk} (hm : ND m) (hmf : ∀ b ∈ m, RkFit g [] m0 b) : ∀ {i : Nat} {l : List Rk}, ND l → (∀ a ∈ l, RkFit g hd l0 a) → ND (jAll most i l m)
  | i, [], _, _ => by unfold jAll; exact List.Pairwise.nil
  | i, a :: l, h, hf => by
    unfold jAll
    have h2 := List.pairwise_cons.1 h
    refine List.pairwise_append.2 ⟨jRow_nd hm, jAll_nd hm hmf h2.2 fun b hb => hf b (List.mem_cons_of_mem _ hb), fun z hz u hu e => ?_⟩
    obtain ⟨b, hb, rfl, _⟩ := jRow_mem hz
    obtain ⟨a', ha', b', hb', rfl, _⟩ := jAll_mem hu
    obtain ⟨p, e1, f1⟩ := (hf a (List.mem_cons_self ..)).fit
    obtain ⟨p', e2, f2⟩ := (hf a' (List.mem_cons_of_mem _ ha')).fit
    have e : a.pre ++ b.pre = a'.pre ++ b'.pre := e
    rw [e1, e2, List.append_assoc, List.append_assoc] at e
    obtain ⟨_, e3, _⟩ := f1.inj f2 (List.append_cancel_left e)
    exact h2.1 a' ha' (by rw [e1, e2, e3])
theorem rowsP_nd {most : Nat} {of : MPart → List Rk} (hm : most ≤ 100) (h : OfOk g most of) (hn : ∀ y, ND (of y)) {hd : List Int} : ∀ (l : List Sym) (L : List Nat) (a : Nat) (l0 : List Sym) (rows : List Rk), (∀ z ∈ rows, RkFit g hd l0 z) → ND rows → ND (rowsP most of l L a rows)
  | [], L, a, l0, rows, _, h1 => by unfold rowsP; exact h1
  | y :: l, [], a, l0, rows, _, h1 => by unfold rowsP; exact h1
  | y :: l, p :: L, a, l0, rows, h0, h1 => by
    unfold rowsP
    have hnx : ND (nextP of y a p) := by
      unfold nextP
      split
      · exact List.pairwise_singleton ..
      · exact hn _
    exact rowsP_nd hm h hn l L p (l0 ++ [y]) _ (joinP_fit h0 (next_fit h y a p)) (first_nd (jAll_nd hnx (next_fit h y a p) h1 h0))
theorem wrap_nd {k : Nat} {l : List Rk} (h : ND l) : ND (l.map (wrapR k)) := by
  unfold ND
  rw [List.pairwise_map]
  exact h
/-- the state of the search: what the lists hold -/
structure LOk (g : Gram) (x : List Int) (most B : Nat) (of : MPart → List Rk) : Prop where
  lst : ∀ y, Lst B (of y)
  ok : OfOk g most of
  y : OfY g x of
  nd : ∀ y, ND (of y)
theorem way_nd {most B : Nat} {of : MPart → List Rk} (hm : most ≤ 100) (h : LOk g x most B of) {k : Nat} (r : Rule) (L : List Nat) (i : Nat) : ND ((rowsP most of r.r L i [⟨1, [(k : Int)], []⟩]).map (wrapR k)) :=
  wrap_nd (rowsP_nd hm h.ok h.nd (hd := [(k : Int)]) r.r L i [] _ (one_fit g k) (List.pairwise_singleton ..))
theorem ways_nd {most B : Nat} {of : MPart → List Rk} (hm : most ≤ 100) (h : LOk g x most B of) {y : MPart} {k : Nat} {r : Rule} (hr : g.rules[k]? = some r) (hl : r.l = y.n) : ∀ (Ls : List (List Nat)) (all : List Rk), Ls.Nodup → (∀ L ∈ Ls, PathT x r.r y.i L ∧ L.getLastD y.i = y.j) → ND all → (∀ z ∈ all, ∃ k' L', SrcK g x y k' L' z ∧ (k' < k ∨ (k' = k ∧ L' ∉ Ls))) →
    ND (Ls.foldl (wayR most of k r y.i) all) ∧ ∀ z ∈ Ls.foldl (wayR most of k r y.i) all, ∃ k' L', SrcK g x y k' L' z ∧ k' < k + 1
  | [], all, _, _, h1, h2 => ⟨h1, fun z hz => by obtain ⟨k', L', h3, h4⟩ := h2 z hz; exact ⟨k', L', h3, by omega⟩⟩
  | L :: Ls, all, hn, hp, h1, h2 => by
    rw [List.foldl_cons]
    have hn2 := List.nodup_cons.1 hn
    have hpL := hp L (List.mem_cons_self ..)
    have hsrc := way_src (most := most) h.y hr hl hpL.1 hpL.2
    refine ways_nd hm h hr hl Ls _ hn2.2 (fun L' h' => hp L' (List.mem_cons_of_mem _ h')) ?_ ?_
    · unfold wayR
      refine List.pairwise_append.2 ⟨h1, way_nd hm h r L y.i, fun z hz u hu e => ?_⟩
      obtain ⟨k', L', h3, h4⟩ := h2 z hz
      obtain ⟨e1, e2⟩ := h3.inj (hsrc u hu) e
      rcases h4 with h4 | ⟨_, h4⟩
      · omega
      · exact h4 (by rw [e2]; exact List.mem_cons_self ..)
    · intro z hz
      unfold wayR at hz
      rcases List.mem_append.1 hz with hz | hz
      · obtain ⟨k', L', h3, h4⟩ := h2 z hz
        exact ⟨k', L', h3, h4.imp id fun h5 => ⟨h5.1, fun h6 => h5.2 (List.mem_cons_of_mem _ h6)⟩⟩
      · exact ⟨k, L, hsrc z hz, .inr ⟨rfl, hn2.1⟩⟩
theorem rules_nd {most B : Nat} {of : MPart → List Rk} (hm : most ≤ 100) (h : LOk g x most B of) (hlow : MLow M) {y : MPart} (hj : y.j ≤ x.length) : ∀ (l : List Rule) (k : Nat) (all : List Rk), g.rules.drop k = l → ND all → (∀ z ∈ all, ∃ k' L', SrcK g x y k' L' z ∧ k' < k) → ND (rulesR x M most of y k l all) ∧ ∀ z ∈ rulesR x M most of y k l all, ∃ k' L', SrcK g x y k' L' z
  | [], k, all, _, h1, h2 => by unfold rulesR; exact ⟨h1, fun z hz => by obtain ⟨k', L', h3, _⟩ := h2 z hz; exact ⟨k', L', h3⟩⟩
  | r :: l, k, all, hd, h1, h2 => by
    have hk : g.rules[k]? = some r := by
      have := congrArg (fun t => t[0]?) hd
      simpa using this
    have hd2 : g.rules.drop (k + 1) = l := by
      have := congrArg (List.drop 1) hd
      rwa [List.drop_drop] at this
    unfold rulesR
    have hs : ND (ruleR x M most of y k r all) ∧ ∀ z ∈ ruleR x M most of y k r all, ∃ k' L', SrcK g x y k' L' z ∧ k' < k + 1 := by
      unfold ruleR
      split
      · rename_i hl
        exact ways_nd hm h hk hl _ all splC_nodup (fun L hL => splC_path hlow hj hL) h1 fun z hz => by obtain ⟨k', L', h3, h4⟩ := h2 z hz; exact ⟨k', L', h3, .inl h4⟩
      · exact ⟨h1, fun z hz => by obtain ⟨k', L', h3, h4⟩ := h2 z hz; exact ⟨k', L', h3, by omega⟩⟩
    exact rules_nd hm h hlow hj l (k + 1) _ hd2 hs.1 hs.2
theorem again_nd {most B : Nat} {of : MPart → List Rk} (hm : most ≤ 100) (h : LOk g x most B of) (hlow : MLow M) {y : MPart} (hj : y.j ≤ x.length) : ND (againP g x M most of y) ∧ ∀ z ∈ againP g x M most of y, RkY g x [] [⟨false, y.n⟩] y.i [y.j] z := by
  obtain ⟨h1, h2⟩ := rules_nd hm h hlow hj g.rules 0 [] (List.drop_zero ..) List.Pairwise.nil (by simp)
  refine ⟨first_nd h1, fun z hz => ?_⟩
  obtain ⟨k', L', h3⟩ := h2 z (firstP_mem hz)
  exact h3.y
theorem LOk.set {most B : Nat} {of : MPart → List Rk} (hv : Valid g) (hx : x.length ≤ 12) (hB : g.rules.length + 1 ≤ B) (hm : most ≤ 100) (h : LOk g x most B of) (hlow : MLow M) {y : MPart} (hj : y.j ≤ x.length) : LOk g x most B (setP of y (againP g x M most of y)) := by
  have h1 := again_mono (x := x) (M := M) (most := most) hB h.lst h.lst (fun y => LeL.refl _) y
  have h2 := again_nd hm h hlow hj (M := M)
  have h3 := againP_fit (x := x) (M := M) h.ok hm (fun r hr => (hv.ok r hr).len) (y := y) (by omega)
  refine ⟨fun z => ?_, setP_ok h.ok h3.1 h3.2, fun z => ?_, fun z => ?_⟩ <;> unfold setP <;> split
  · exact h1.1
  · exact h.lst z
  · rename_i e; subst e; exact h2.2
  · exact h.y z
  · exact h2.1
  · exact h.nd z
theorem LOk.nil (most B : Nat) : LOk g x most B fun _ => [] := ⟨fun _ => ⟨by simp, List.Pairwise.nil⟩, OfOk.nil g most, fun _ => by simp, fun _ => List.Pairwise.nil⟩
theorem loop_inv {P : (MPart → List Rk) → Prop} {most : Nat} {ys : List MPart} (hP : ∀ of y, y ∈ ys → P of → P (setP of y (againP g x M most of y))) : ∀ {f : Nat} {of of' : MPart → List Rk}, loopP g x M most ys f of = some of' → P of → P of'
  | 0, _, _, h, _ => by cases h
  | f + 1, of, of', h, h0 => by
    have hpass : P (passP g x M most ys of).1 := foldl_inv (f := stepP g x M most) (P := fun s => P s.1) ys (of, false) h0 fun s y hs hy => by
      unfold stepP
      split
      · exact hs
      · exact hP _ _ hy hs
    unfold loopP at h
    split at h
    · exact loop_inv hP h hpass
    · injection h with h
      subst h
      exact hpass
end
end Go.Proofs.Ytdbkbkopcnkgcaa
