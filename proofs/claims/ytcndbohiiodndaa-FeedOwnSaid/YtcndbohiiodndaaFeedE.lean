import Derived.Test.YtcndbohiiodndaaFeedD
open Go Go.RowKit
open Go.ChangeMaps (setBlock)
namespace Go.Proofs.Ytcndbohiiodndaa

/-- what follows from the items of a set, all told -/
inductive Clo (g : Gram) (gd : List Bool) (S : Nat → Item → Prop) (k : Nat) (base : Item → Prop) : Item → Prop
  | base (z : Item) : base z → Clo g gd S k base z
  | pred (x : Item) (r : Rule) (n : Int) (m : Nat) (r' : Rule) : Clo g gd S k base x → g.rules[x.1]? = some r → r.r[x.2.1]? = some ⟨false, n⟩ → g.rules[m]? = some r' → r'.l = n → gd[m]? = some true → Clo g gd S k base (m, 0, k)
  | old (x : Item) (r : Rule) (m e h : Nat) (r' : Rule) : Clo g gd S k base x → g.rules[x.1]? = some r → x.2.1 = r.r.length → x.2.2 ≠ k → S x.2.2 (m, e, h) → g.rules[m]? = some r' → r'.r[e]? = some ⟨false, r.l⟩ → Clo g gd S k base (m, e + 1, h)
  | own (x : Item) (r : Rule) (m e h : Nat) (r' : Rule) : Clo g gd S k base x → g.rules[x.1]? = some r → x.2.1 = r.r.length → x.2.2 = k → Clo g gd S k base (m, e, h) → g.rules[m]? = some r' → r'.r[e]? = some ⟨false, r.l⟩ → Clo g gd S k base (m, e + 1, h)

theorem nodup_inj {l : List Nat} (h : l.Nodup) {i j : Nat} (hi : i < l.length) (hj : j < l.length) (he : l[i] = l[j]) : i = j := by
  rcases Nat.lt_trichotomy i j with h1 | h1 | h1
  · exact absurd he (List.pairwise_iff_getElem.1 h i j hi hj h1)
  · exact h1
  · exact absurd he.symm (List.pairwise_iff_getElem.1 h j i hj hi h1)

def updS (S : Nat → Item → Prop) (k : Nat) (T : Item → Prop) : Nat → Item → Prop := fun j => if j = k then T else S j
theorem updS_same (S : Nat → Item → Prop) (k : Nat) (T : Item → Prop) : updS S k T k = T := by simp [updS]
theorem updS_other (S : Nat → Item → Prop) (k : Nat) (T : Item → Prop) {j : Nat} (h : j ≠ k) : updS S k T j = S j := by simp [updS, h]

theorem fol_clo {g : Gram} {gd : List Bool} {S : Nat → Item → Prop} {k : Nat} {base T : Item → Prop} (hT : ∀ z, T z → Clo g gd S k base z) {x y : Item} (hx : T x) (h : Fol g gd (updS S k T) k x y) : Clo g gd S k base y := by
  obtain ⟨r, hr, ⟨hd, m, e, h', r', h1, h2, h3, rfl⟩ | ⟨n, hn, m, r', h1, h2, h3, rfl⟩⟩ := h
  · by_cases hk : x.2.2 = k
    · rw [hk, updS_same] at h1
      exact .own x r m e h' r' (hT _ hx) hr hd hk (hT _ h1) h2 h3
    · rw [updS_other _ _ _ hk] at h1
      exact .old x r m e h' r' (hT _ hx) hr hd hk h1 h2 h3
  · exact .pred x r n m r' (hT _ hx) hr hn h1 h2 h3

theorem clo_of_closed {g : Gram} {gd : List Bool} {S : Nat → Item → Prop} {k : Nat} {base T : Item → Prop} (hb : ∀ z, base z → T z) (hc : ∀ x y, T x → Fol g gd (updS S k T) k x y → T y) (z : Item) (h : Clo g gd S k base z) : T z := by
  induction h with
  | base z h => exact hb z h
  | pred x r n m r' _ hr hn h1 h2 h3 ih => exact hc x _ ih ⟨r, hr, .inr ⟨n, hn, m, r', h1, h2, h3, rfl⟩⟩
  | old x r m e h r' _ hr hd hk h1 h2 h3 ih => exact hc x _ ih ⟨r, hr, .inl ⟨hd, m, e, h, r', by rw [updS_other _ _ _ hk]; exact h1, h2, h3, rfl⟩⟩
  | own x r m e h r' _ hr hd hk _ h2 h3 ih ih2 => exact hc x _ ih ⟨r, hr, .inl ⟨hd, m, e, h, r', by rw [hk, updS_same]; exact ih2, h2, h3, rfl⟩⟩

theorem fol_ok {g : Gram} {gd : List Bool} {S : Nat → Item → Prop} {k : Nat} {x y : Item} (hS : ∀ j z, j ≤ k → S j z → OkItem g j z) (hx : OkItem g k x) (h : Fol g gd S k x y) : OkItem g k y := by
  obtain ⟨r0, hr0, h1, h2⟩ := hx
  obtain ⟨r, hr, ⟨hd, m, e, h', r', h3, h4, h5, rfl⟩ | ⟨n, hn, m, r', h3, h4, h5, rfl⟩⟩ := h
  · obtain ⟨r2, h6, h7, h8⟩ := hS _ _ h2 h3
    simp only at h6 h7 h8
    refine ⟨r', h4, ?_, ?_⟩
    · have := (List.getElem?_eq_some_iff.1 h5).1
      simp only; omega
    · simp only; omega
  · exact ⟨r', h3, Nat.zero_le _, Nat.le_refl _⟩

section
variable {D : Nat → Prop} {bf lim : Nat} {g : Gram} {gd : List Bool} {x : List Int} {S : Nat → Item → Prop} {A : Option Addr} {cr : Nat} {B : Option Addr} {cg : Nat} {C : Option Addr} {cw : Nat} {E : Option Addr} {cs : Nat} {rs : List Nat}

theorem follow_any (y : Item) (k : Nat) (w : World) (h : FeedAt D w bf lim g gd x S A cr B cg C cw E cs rs) (hy : OkItem g k y) (hk : k ≤ x.length) (h32 : g.rules.length ≤ 32) (h4 : ∀ r ∈ g.rules, r.r.length ≤ 4) (hx : x.length ≤ 12) :
    Calls Try.prog 108 #[.pointer (some ⟨bf, 0, none⟩), itemV y, .int .i64 k] w fun e w' => ∃ (v : Value) (l : List Item), e = .returned v ∧ NewItems w w' v l ∧ ∀ z, z ∈ l ↔ Fol g gd S k y z := by
  obtain ⟨r, hr, h1, h2⟩ := hy
  rcases Nat.lt_or_eq_of_le h1 with h3 | h3
  · have hs := List.getElem?_eq_getElem h3
    obtain ⟨yt, yn⟩ : Sym := r.r[y.2.1]
    generalize r.r[y.2.1] = s at hs
    obtain ⟨st, sn⟩ := s
    cases st
    · exact follow_non y k w h r hr sn hs h32
    · refine (follow_term y k w h r hr sn hs).mono ?_
      rintro e w' ⟨rfl, hb⟩
      refine ⟨_, [], rfl, ⟨World.ownsRow_nil _ _ _ _, hb⟩, fun z => ⟨fun h => (by cases h), ?_⟩⟩
      rintro ⟨r2, hr2, ⟨h5, _⟩ | ⟨n, h5, _⟩⟩
      · rw [hr] at hr2; injection hr2 with hr2; subst hr2; omega
      · rw [hr] at hr2; injection hr2 with hr2; subst hr2
        rw [hs] at h5; cases h5
  · exact follow_compl y k w h r hr h3 (by omega) h32 h4 hx

/-- the map of set k has turned, or a block that is no part of the feed -/
theorem FeedAt.turn {w w' : World} {b : Nat} {T : Nat → Item → Prop} (h : FeedAt D w bf lim g gd x S A cr B cg C cw E cs rs) (hg : w.grownBy w' (some b)) (hlim : lim ≤ b) (hb : ∀ cs T fr, w.heap[b]? ≠ some (.cells cs T fr))
    (hT : ∀ k (hk : k < rs.length), SetIs w' rs[k] (T k)) (hok : ∀ k y, k ≤ x.length → T k y → OkItem g k y) : FeedAt D w' bf lim g gd x T A cr B cg C cw E cs rs := by
  have hbl := blk_lt h.blk
  have hlt := h.lt
  have hF : ∀ j, j < lim ∧ j ≠ bf → w'.heap[j]? = w.heap[j]? := fun j hj => hg.block j (by have := h.le; omega) (by simp; omega)
  exact ⟨(hg.block bf hbl (by simp; omega)).trans h.blk, h.lt, Nat.le_trans h.le hg.size, h.rules.keep hF hg.size, h.good.keep hF hg.size, h.gdlen, own_kept h.word hg hb, h.wordD, own_kept h.sets hg hb, h.setsD, h.len, h.dist,
    fun k hk => ⟨hT k hk, (h.maps k hk).2⟩, hok⟩

/-- what complete keeps: the set as far as it has come -/
structure CInv (D : Nat → Prop) (w wr : World) (bf lim : Nat) (g : Gram) (gd : List Bool) (x : List Int) (S : Nat → Item → Prop) (A : Option Addr) (cr : Nat) (B : Option Addr) (cg : Nat) (C : Option Addr) (cw : Nat) (E : Option Addr) (cs : Nat) (rs : List Nat) (k r : Nat) (l : List (Item × Bool)) : Prop where
  feed : FeedAt D wr bf lim g gd x (updS S k (fun z => z ∈ l.map (·.1))) A cr B cg C cw E cs rs
  map : IsMap itemV Value.bool wr r l
  tru : ∀ p ∈ l, p.2 = true
  grown : w.grownBy wr (some r)
  base : ∀ z, S k z → z ∈ l.map (·.1)
  clo : ∀ z, z ∈ l.map (·.1) → Clo g gd S k (S k) z
  lw : lim ≤ w.heap.size

theorem CInv.keep {w wr wr' : World} {k r : Nat} {l : List (Item × Bool)} (h : CInv D w wr bf lim g gd x S A cr B cg C cw E cs rs k r l) (hb : Below wr.heap.size wr wr') : CInv D w wr' bf lim g gd x S A cr B cg C cw E cs rs k r l :=
  ⟨h.feed.below hb, h.map.below hb, h.tru, ⟨hb.os.trans h.grown.os, hb.tape.trans h.grown.tape, hb.output.trans h.grown.output, Nat.le_trans h.grown.size hb.size, fun j hj hne => (hb.block j (by have := h.grown.size; omega)).trans (h.grown.block j hj hne)⟩, h.base, h.clo, h.lw⟩

/-- an iterator over it has turned -/
theorem CInv.iter {w wr : World} {k r it : Nat} {l : List (Item × Bool)} {o o' : Obj} (h : CInv D w wr bf lim g gd x S A cr B cg C cw E cs rs k r l) (hw : w.heap.size ≤ it) (hi : wr.heap[it]? = some o) (hc : ∀ cs T fr, o ≠ .cells cs T fr) (hm : ∀ es c, o ≠ .map es c) : CInv D w (setBlock wr it o') bf lim g gd x S A cr B cg C cw E cs rs k r l := by
  have hg := grown_setBlock wr it o'
  have hne : ∀ r l, IsMap itemV Value.bool wr r l → r ≠ it := by
    rintro r l ⟨es, c, h1, _⟩ rfl
    rw [hi] at h1
    injection h1 with h1
    exact hm _ _ h1
  have hlw : lim ≤ it := Nat.le_trans h.lw hw
  refine ⟨h.feed.turn hg hlw (by rw [hi]; intro cs T fr e; injection e with e; exact hc _ _ _ e) (fun k hk => ?_) h.feed.ok, h.map.same (setBlock_other _ _ _ (hne _ _ h.map)), h.tru, ?_, h.base, h.clo, h.lw⟩
  · have h1 := (h.feed.maps k hk).1
    obtain ⟨l', h2, h3⟩ := h1
    exact ⟨l', h2.same (setBlock_other _ _ _ (hne _ _ h2)), h3⟩
  · exact ⟨h.grown.os, h.grown.tape, h.grown.output, by rw [setBlock_size]; exact h.grown.size, fun j hj hne => (setBlock_other _ _ _ (by omega)).trans (h.grown.block j hj hne)⟩

/-- a new item is laid in -/
theorem CInv.put {w wr : World} {k : Nat} {l : List (Item × Bool)} {o : Obj} {y : Item} (hk : k < rs.length) (h : CInv D w wr bf lim g gd x S A cr B cg C cw E cs rs k rs[k] l) (hm : IsMap itemV Value.bool (setBlock wr rs[k] o) rs[k] (l ++ [(y, true)])) (hy : OkItem g k y) (hc : Clo g gd S k (S k) y) : CInv D w (setBlock wr rs[k] o) bf lim g gd x S A cr B cg C cw E cs rs k rs[k] (l ++ [(y, true)]) := by
  have hg := grown_setBlock wr rs[k] o
  have ht : ∀ p ∈ l ++ [(y, true)], p.2 = true := by
    intro p hp
    rcases List.mem_append.1 hp with hp | hp
    · exact h.tru p hp
    · simp only [List.mem_singleton] at hp; rw [hp]
  refine ⟨h.feed.turn hg (h.feed.maps k hk).2.2 ?_ (fun j hj => ?_) (fun j z hj hz => ?_), hm, ht, ?_, fun z hz => ?_, fun z hz => ?_, h.lw⟩
  · obtain ⟨es, c, h1, _⟩ := h.map
    rw [h1]; intro cs T fr e; cases e
  · by_cases e : j = k
    · subst e
      rw [updS_same]
      exact ⟨_, hm, ht, fun z => Iff.rfl⟩
    · have hne : rs[j] ≠ rs[k] := fun h5 => e (nodup_inj h.feed.dist hj hk h5)
      have h1 := (h.feed.maps j hj).1
      rw [updS_other _ _ _ e] at h1 ⊢
      exact h1.same (setBlock_other _ _ _ hne)
  · by_cases e : j = k
    · subst e
      rw [updS_same, List.map_append, List.mem_append] at hz
      rcases hz with hz | hz
      · exact h.feed.ok j z hj (by rw [updS_same]; exact hz)
      · simp only [List.map_cons, List.map_nil, List.mem_singleton] at hz
        rw [hz]; exact hy
    · rw [updS_other _ _ _ e] at hz
      exact h.feed.ok j z hj (by rw [updS_other _ _ _ e]; exact hz)
  · exact ⟨h.grown.os, h.grown.tape, h.grown.output, by rw [setBlock_size]; exact h.grown.size, fun j hj hne => (setBlock_other _ _ _ (fun e => hne (by rw [e]))).trans (h.grown.block j hj hne)⟩
  · rw [List.map_append, List.mem_append]; exact .inl (h.base z hz)
  · rw [List.map_append, List.mem_append] at hz
    rcases hz with hz | hz
    · exact h.clo z hz
    · simp only [List.map_cons, List.map_nil, List.mem_singleton] at hz
      rw [hz]; exact hc
end
end Go.Proofs.Ytcndbohiiodndaa
