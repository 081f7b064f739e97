import Derived.Test.YtdbkbkopcnkgcaaGreatForI
import Derived.Lib.AppendZeros
open Go Go.RowKit
namespace Go.Proofs.YtdbkbkopcnkgcaaGreat

/-! ### trees as data, and in memory -/
inductive Tr where
  | mk (rule term : Int) (kids : List Tr)

def Tr.rule : Tr → Int
  | .mk r _ _ => r
def Tr.term : Tr → Int
  | .mk _ t _ => t
def Tr.kids : Tr → List Tr
  | .mk _ _ ks => ks

/-- a row of trees with the number of their nodes and their rules in preorder -/
structure Rk where
  size : Int
  pre : List Int
  row : List Tr

/-! values that read as an element wherever they lie -/
section
variable {α β : Type}
def Elt.V (d : Elt α) (F : Nat → Prop) (w : World) (vs : List Value) (x : α) : Prop :=
  vs.length = d.sz ∧ (∀ v ∈ vs, v.oneCell' = true) ∧ ∀ (G : Nat → Prop) (w' : World) (b o : Nat), w.heap.size ≤ w'.heap.size → (∀ k, F k → k < w.heap.size → G k ∧ w'.heap[k]? = w.heap[k]?) → G b → (∀ j v, vs[j]? = some v → w'.cell? ⟨b, o + j, none⟩ = some v) → d.E G w' b o x
theorem Elt.V.keep {d : Elt α} {F G : Nat → Prop} {w w' : World} {vs : List Value} {x : α} (h : d.V F w vs x) (hs : w.heap.size ≤ w'.heap.size) (hk : ∀ k, F k → k < w.heap.size → G k ∧ w'.heap[k]? = w.heap[k]?) : d.V G w' vs x :=
  ⟨h.1, h.2.1, fun H w2 b o h1 h2 h3 h4 => h.2.2 H w2 b o (by omega) (fun k h5 h6 => by
    obtain ⟨h7, h8⟩ := hk k h5 h6
    obtain ⟨h9, h10⟩ := h2 k h7 (by omega)
    exact ⟨h9, h10.trans h8⟩) h3 h4⟩

/-- each element in memory consists of such values -/
def Elt.Reads (d : Elt α) : Prop := ∀ F w b o x, d.E F w b o x → F b ∧ ∃ vs, d.V F w vs x ∧ ∀ j v, vs[j]? = some v → w.cell? ⟨b, o + j, none⟩ = some v

theorem Elt.one_reads (enc : α → Value) (h1 : ∀ x, (enc x).oneCell' = true) : (Elt.one enc).Reads := by
  intro F w b o x h
  refine ⟨h.1, [enc x], ⟨rfl, by simpa using h1 x, fun G w' b' o' _ _ hG hc => ⟨hG, hc 0 _ rfl⟩⟩, fun j v hj => ?_⟩
  rcases j with _ | j
  · injection hj with hj; subst hj; exact h.2
  · simp at hj
theorem Elt.int_V (F : Nat → Prop) (w : World) (x : Int) : Elt.int.V F w [.int .i64 x] x := ⟨rfl, (by simp; rfl), fun G w' b' o' _ _ hG hc => ⟨hG, hc 0 _ rfl⟩⟩
theorem Elt.pair_V {d : Elt α} {e : Elt β} {F : Nat → Prop} {w : World} {vs us : List Value} {x : α × β} (h : d.V F w vs x.1) (k : e.V F w us x.2) : (d.pair e).V F w (vs ++ us) x := by
  refine ⟨by rw [List.length_append, h.1, k.1]; rfl, fun v hv => ?_, fun G w' b o h1 h2 h3 h4 => ⟨h.2.2 G w' b o h1 h2 h3 fun j v hj => h4 j v ?_, k.2.2 G w' b (o + d.sz) h1 h2 h3 fun j v hj => ?_⟩⟩
  · rcases List.mem_append.1 hv with hv | hv
    · exact h.2.1 v hv
    · exact k.2.1 v hv
  · rw [List.getElem?_append_left (List.getElem?_eq_some_iff.1 hj).1]; exact hj
  · have := h4 (d.sz + j) v (by rw [List.getElem?_append_right (by have := h.1; omega), h.1, Nat.add_sub_cancel_left]; exact hj)
    rwa [Nat.add_assoc]
theorem Elt.pair_reads {d : Elt α} {e : Elt β} (hd : d.Reads) (he : e.Reads) : (d.pair e).Reads := by
  intro F w b o x h
  obtain ⟨hb, vs, h1, h2⟩ := hd F w b o x.1 h.1
  obtain ⟨_, us, k1, k2⟩ := he F w b (o + d.sz) x.2 h.2
  refine ⟨hb, vs ++ us, Elt.pair_V h1 k1, fun j v hj => ?_⟩
  by_cases c : j < vs.length
  · rw [List.getElem?_append_left c] at hj; exact h2 j v hj
  · rw [List.getElem?_append_right (by omega)] at hj
    have := k2 _ v hj
    have e1 := h1.1
    rwa [show o + d.sz + (j - vs.length) = o + j by omega] at this
theorem Elt.sl_V {d : Elt α} {F : Nat → Prop} {w : World} {A : Option Addr} {c : Nat} {x : List α} (hc : x.length ≤ c) (h : IsSl d F w (.slice A x.length c) x) : d.sl.V F w [.slice A x.length c] x := by
  refine ⟨rfl, (by simp; rfl), fun G w' b o h1 h2 h3 h4 => ⟨h3, A, c, h4 0 _ rfl, hc, ?_⟩⟩
  have := h.old.keep (w' := w') (fun k hk => (h2 k hk.1 hk.2).2) h1
  exact this.weak fun k hk => (h2 k hk.1 hk.2).1
theorem Elt.sl_reads (d : Elt α) : d.sl.Reads := by
  intro F w b o x h
  obtain ⟨hb, A, c, h1, h2, h3⟩ := h
  refine ⟨hb, _, Elt.sl_V h2 h3, fun j v hj => ?_⟩
  rcases j with _ | j
  · injection hj with hj; subst hj; exact h1
  · simp at hj
theorem Elt.map_V {d : Elt α} {f : β → α} {F : Nat → Prop} {w : World} {vs : List Value} {x : β} (h : d.V F w vs (f x)) : (d.map f).V F w vs x := h
theorem Elt.map_reads {d : Elt α} (hd : d.Reads) (f : β → α) : (d.map f).Reads := fun F w b o x h => hd F w b o (f x) h

/-- the values of a row -/
def RowV (d : Elt α) (F : Nat → Prop) (w : World) (news : List Value) (l : List α) : Prop := news.length = l.length * d.sz ∧ (∀ v ∈ news, v.oneCell' = true) ∧ ∀ k (h : k < l.length), d.V F w ((news.drop (k * d.sz)).take d.sz) l[k]
theorem RowV.nil (d : Elt α) (F : Nat → Prop) (w : World) : RowV d F w [] [] := ⟨by simp, by simp, fun k h => by simp at h⟩
theorem RowV.keep {d : Elt α} {F G : Nat → Prop} {w w' : World} {news : List Value} {l : List α} (h : RowV d F w news l) (hs : w.heap.size ≤ w'.heap.size) (hk : ∀ k, F k → k < w.heap.size → G k ∧ w'.heap[k]? = w.heap[k]?) : RowV d G w' news l :=
  ⟨h.1, h.2.1, fun k hk' => (h.2.2 k hk').keep hs hk⟩
theorem RowV.append {d : Elt α} {F : Nat → Prop} {w : World} {n1 n2 : List Value} {l1 l2 : List α} (h : RowV d F w n1 l1) (k : RowV d F w n2 l2) : RowV d F w (n1 ++ n2) (l1 ++ l2) := by
  refine ⟨by rw [List.length_append, List.length_append, h.1, k.1, Nat.add_mul], fun v hv => ?_, fun q hq => ?_⟩
  · rcases List.mem_append.1 hv with hv | hv
    · exact h.2.1 v hv
    · exact k.2.1 v hv
  · by_cases c : q < l1.length
    · have e : (l1 ++ l2)[q] = l1[q] := by rw [List.getElem_append_left c]
      have h2 : q * d.sz + d.sz ≤ n1.length := by rw [h.1, ← Nat.succ_mul]; exact Nat.mul_le_mul_right _ c
      rw [e, List.drop_append_of_le_length (by omega), List.take_append_of_le_length (by rw [List.length_drop]; omega)]
      exact h.2.2 q c
    · rw [List.length_append] at hq
      have e : (l1 ++ l2)[q]'(by rw [List.length_append]; omega) = l2[q - l1.length] := by rw [List.getElem_append_right (by omega)]
      have h3 : q * d.sz = n1.length + (q - l1.length) * d.sz := by rw [h.1, ← Nat.add_mul]; congr 1; omega
      rw [e, h3, List.drop_append, List.drop_eq_nil_of_le (by omega), List.nil_append, show n1.length + (q - l1.length) * d.sz - n1.length = (q - l1.length) * d.sz by omega]
      exact k.2.2 _ (by omega)
theorem RowV.one {d : Elt α} {F : Nat → Prop} {w : World} {vs : List Value} {x : α} (h : d.V F w vs x) : RowV d F w vs [x] := by
  refine ⟨by rw [h.1]; simp, h.2.1, fun k hk => ?_⟩
  have : k = 0 := by simpa using hk
  subst this
  simp only [Nat.zero_mul, List.drop_zero, List.getElem_cons_zero]
  rw [List.take_of_length_le (by rw [h.1]; exact Nat.le_refl _)]
  exact h

theorem row_get {news : List Value} {k sz r : Nat} {v : Value} (hr : r < sz) (h : ((news.drop (k * sz)).take sz)[r]? = some v) : news[k * sz + r]? = some v := by
  rw [List.getElem?_take, if_pos hr, List.getElem?_drop] at h
  exact h
/-- the values of a slice in memory -/
theorem IsSl.rowV {d : Elt α} (hd : d.Reads) {F : Nat → Prop} {w : World} {A : Option Addr} {n c : Nat} {l : List α} (h : IsSl d F w (.slice A n c) l) :
    ∃ news, RowV d F w news l ∧ ∀ a, A = some a → ∀ j u, news[j]? = some u → w.cell? (a.add j) = some u := by
  obtain ⟨A', c', he, hl, h⟩ := h
  injection he with h1 h2 h3
  subst h1
  clear hl h3 h2
  induction hn : l.length generalizing l with
  | zero =>
    have : l = [] := List.eq_nil_of_length_eq_zero hn
    subst this
    exact ⟨[], RowV.nil _ _ _, fun a _ j u hj => by simp at hj⟩
  | succ m ih =>
    have hne : l ≠ [] := by intro e; subst e; simp at hn
    obtain ⟨l', z, rfl⟩ : ∃ l' z, l = l' ++ [z] := ⟨l.dropLast, l.getLast hne, (List.dropLast_concat_getLast hne).symm⟩
    have hm : l'.length = m := by simpa using hn
    obtain ⟨news, h1, h2⟩ := ih (l := l') (fun k hk => by
      have := h k (by rw [List.length_append]; omega)
      rwa [List.getElem_append_left hk] at this) hm
    obtain ⟨b, o, hA, hF, hlt, hE⟩ := h l'.length (by rw [List.length_append]; simp)
    have e : (l' ++ [z])[l'.length]'(by rw [List.length_append]; simp) = z := by simp
    rw [e] at hE
    obtain ⟨_, vs, h3, h4⟩ := hd F w b _ z hE
    refine ⟨news ++ vs, h1.append (RowV.one h3), fun a ha j u hj => ?_⟩
    by_cases cj : j < news.length
    · rw [List.getElem?_append_left cj] at hj
      exact h2 a ha j u hj
    · rw [List.getElem?_append_right (by omega)] at hj
      have := h4 _ u hj
      rw [hA] at ha
      injection ha with ha
      subst ha
      have e5 : (⟨b, o, none⟩ : Addr).add j = ⟨b, o + j, none⟩ := by unfold Addr.add; split <;> simp_all
      rw [e5]
      rw [Nat.add_assoc, ← h1.1, show news.length + (j - news.length) = j by omega] at this
      exact this
/-- a row of the call's own reads as a slice -/
theorem RowV.isSl {d : Elt α} {F : Nat → Prop} {w : World} {base : Nat} {e : TypeId} {v : Value} {n : Nat} {news : List Value} {l : List α} (h : RowV d F w news l) (hn : n = l.length) (ho : w.ownsRow base e d.sz v n news) : IsSl d (fun b => F b ∨ v.ownBlock = some b) w v l := by
  subst hn
  have hm := own_max ho
  obtain ⟨A, c, rfl⟩ := own_form ho
  refine ⟨A, c, rfl, hm, fun k hk => ?_⟩
  obtain ⟨b, cap, he, hb1, hb2⟩ := ho.form (by omega)
  injection he with he1 he2 he3
  subst he1
  refine ⟨b, 0, rfl, .inr rfl, hb2, ?_⟩
  refine (h.2.2 k hk).2.2 _ w b _ (Nat.le_refl _) (fun k' hk' _ => ⟨.inl hk', rfl⟩) (.inr rfl) fun j u hj => ?_
  have hjs : j < d.sz := by
    have := (List.getElem?_eq_some_iff.1 hj).1
    rw [List.length_take] at this
    omega
  have h2 := ho.cells (g := b) rfl _ u (row_get hjs hj)
  rw [add_lit0] at h2
  rw [Nat.zero_add]
  exact h2
end

/-! trees -/
def trD : Nat → Elt Tr
  | 0 => { sz := 3, E := fun _ _ _ _ _ => False, keep := fun _ h => h, weak := fun _ h => h, old := fun h => h }
  | n + 1 => (Elt.int.pair (Elt.int.pair (trD n).sl)).map fun t => (t.rule, t.term, t.kids)
theorem trD_sz : ∀ n, (trD n).sz = 3
  | 0 => rfl
  | _ + 1 => rfl
theorem IsSl.upto {α : Type} {d e : Elt α} (hsz : d.sz = e.sz) {F : Nat → Prop} {w : World} {v : Value} {l : List α} (he : ∀ b o x, x ∈ l → d.E F w b o x → e.E F w b o x) (h : IsSl d F w v l) : IsSl e F w v l := by
  obtain ⟨A, c, rfl, hl, h⟩ := h
  refine ⟨A, c, rfl, hl, fun k hk => ?_⟩
  obtain ⟨b, o, h1, h2, h3, h4⟩ := h k hk
  exact ⟨b, o, h1, h2, h3, he _ _ _ (List.getElem_mem hk) (hsz ▸ h4)⟩
theorem trD_step : ∀ (n : Nat) {F : Nat → Prop} {w : World} {b o : Nat} {t : Tr}, (trD n).E F w b o t → (trD (n + 1)).E F w b o t
  | 0, _, _, _, _, _, h => h.elim
  | n + 1, F, w, b, o, t, h => by
    obtain ⟨h1, h2, h3, A, c, h4, h5, h6⟩ := h
    exact ⟨h1, h2, h3, A, c, h4, h5, h6.upto (by rw [trD_sz, trD_sz]) fun _ _ _ _ hE => trD_step n hE⟩
theorem trD_mono {n m : Nat} (hm : n ≤ m) {F : Nat → Prop} {w : World} {b o : Nat} {t : Tr} (h : (trD n).E F w b o t) : (trD m).E F w b o t := by
  induction hm with
  | refl => exact h
  | step _ ih => exact trD_step _ ih
def Elt.tree : Elt Tr where
  sz := 3
  E F w b o t := ∃ n, (trD n).E F w b o t
  keep hk h := h.imp fun n h => (trD n).keep hk h
  weak hk h := h.imp fun n h => (trD n).weak hk h
  old h := h.imp fun n h => (trD n).old h
theorem IsSl.deep {F : Nat → Prop} {w : World} {v : Value} {l : List Tr} (h : IsSl Elt.tree F w v l) : ∃ n, IsSl (trD n) F w v l := by
  obtain ⟨A, c, rfl, hl, h⟩ := h
  have : ∀ m, m ≤ l.length → ∃ n, ∀ k (hk : k < l.length), k < m → ∃ b o, A = some ⟨b, o, none⟩ ∧ F b ∧ b < w.heap.size ∧ (trD n).E F w b (o + k * 3) l[k] := by
    intro m
    induction m with
    | zero => exact fun _ => ⟨0, fun k _ h => by omega⟩
    | succ m ih =>
      intro hm
      obtain ⟨n, hn⟩ := ih (by omega)
      obtain ⟨b, o, h1, h2, h3, n2, h4⟩ := h m (by omega)
      refine ⟨max n n2, fun k hk hkm => ?_⟩
      by_cases e : k < m
      · obtain ⟨b, o, h1, h2, h3, h4⟩ := hn k hk e
        exact ⟨b, o, h1, h2, h3, trD_mono (Nat.le_max_left _ _) h4⟩
      · obtain rfl : k = m := by omega
        exact ⟨b, o, h1, h2, h3, trD_mono (Nat.le_max_right _ _) h4⟩
  obtain ⟨n, hn⟩ := this l.length (Nat.le_refl _)
  refine ⟨n, A, c, rfl, hl, fun k hk => ?_⟩
  have := hn k hk hk
  rwa [trD_sz]
theorem IsSl.flat {n : Nat} {F : Nat → Prop} {w : World} {v : Value} {l : List Tr} (h : IsSl (trD n) F w v l) : IsSl Elt.tree F w v l := h.upto (trD_sz n) fun _ _ _ _ hE => ⟨n, hE⟩
def Elt.treeK : Elt Tr := (Elt.int.pair (Elt.int.pair Elt.tree.sl)).map fun t => (t.rule, t.term, t.kids)
theorem tree_iff {F : Nat → Prop} {w : World} {b o : Nat} {t : Tr} : Elt.tree.E F w b o t ↔ Elt.treeK.E F w b o t := by
  constructor
  · rintro ⟨n, h⟩
    cases n with
    | zero => exact h.elim
    | succ n =>
      obtain ⟨h1, h2, h3, A, c, h4, h5, h6⟩ := h
      exact ⟨h1, h2, h3, A, c, h4, h5, h6.flat⟩
  · rintro ⟨h1, h2, h3, A, c, h4, h5, h6⟩
    obtain ⟨n, h6⟩ := h6.deep
    exact ⟨n + 1, h1, h2, h3, A, c, h4, h5, h6⟩
theorem int_reads : Elt.int.Reads := Elt.one_reads _ fun _ => rfl
theorem tree_V {F : Nat → Prop} {w : World} {A : Option Addr} {c : Nat} {t : Tr} (hc : t.kids.length ≤ c) (h : IsSl Elt.tree F w (.slice A t.kids.length c) t.kids) : Elt.tree.V F w [.int .i64 t.rule, .int .i64 t.term, .slice A t.kids.length c] t := by
  have hv : Elt.treeK.V F w ([.int .i64 t.rule] ++ ([.int .i64 t.term] ++ [.slice A t.kids.length c])) t := Elt.map_V (Elt.pair_V (Elt.int_V _ _ _) (Elt.pair_V (Elt.int_V _ _ _) (Elt.sl_V hc h)))
  exact ⟨rfl, hv.2.1, fun G w' b o h1 h2 h3 h4 => tree_iff.2 (hv.2.2 G w' b o h1 h2 h3 h4)⟩
theorem tree_reads : Elt.tree.Reads := by
  intro F w b o t h
  obtain ⟨h1, h2, h3, A, c, h4, h5, h6⟩ := tree_iff.1 h
  refine ⟨h1.1, _, tree_V h5 h6, fun j v hj => ?_⟩
  match j, hj with
  | 0, hj => injection hj with hj; subst hj; exact h1.2
  | 1, hj => injection hj with hj; subst hj; exact h2.2
  | 2, hj => injection hj with hj; subst hj; exact h4
  | j + 3, hj => simp at hj

/-! rows of trees with their ranks -/
def Elt.ranked : Elt Rk := (Elt.int.pair (Elt.int.sl.pair Elt.tree.sl)).map fun a => (a.size, a.pre, a.row)
theorem ranked_reads : Elt.ranked.Reads := Elt.map_reads (Elt.pair_reads int_reads (Elt.pair_reads (Elt.sl_reads _) (Elt.sl_reads _))) _
theorem ranked_V {F : Nat → Prop} {w : World} {A B : Option Addr} {c d : Nat} {a : Rk} (hc : a.pre.length ≤ c) (h : IsSl Elt.int F w (.slice A a.pre.length c) a.pre) (hd : a.row.length ≤ d) (k : IsSl Elt.tree F w (.slice B a.row.length d) a.row) : Elt.ranked.V F w [.int .i64 a.size, .slice A a.pre.length c, .slice B a.row.length d] a := by
  have hv : Elt.ranked.V F w ([.int .i64 a.size] ++ ([.slice A a.pre.length c] ++ [.slice B a.row.length d])) a := Elt.map_V (Elt.pair_V (Elt.int_V _ _ _) (Elt.pair_V (Elt.sl_V hc h) (Elt.sl_V hd k)))
  exact hv
/-- the element k of a slice of ranked rows -/
theorem IsSl.rankedAt {F : Nat → Prop} {w : World} {A : Option Addr} {n c : Nat} {xs : List Rk} (h : IsSl Elt.ranked F w (.slice A n c) xs) (k : Nat) (hk : k < xs.length) :
    ∃ b o, A = some ⟨b, o, none⟩ ∧ F b ∧ b < w.heap.size ∧ w.cell? ⟨b, o + k * 3, none⟩ = some (.int .i64 xs[k].size) ∧
      ∃ P cp R cr, w.cell? ⟨b, o + k * 3 + 1, none⟩ = some (.slice P xs[k].pre.length cp) ∧ xs[k].pre.length ≤ cp ∧ IsSl Elt.int F w (.slice P xs[k].pre.length cp) xs[k].pre ∧
        w.cell? ⟨b, o + k * 3 + 2, none⟩ = some (.slice R xs[k].row.length cr) ∧ xs[k].row.length ≤ cr ∧ IsSl Elt.tree F w (.slice R xs[k].row.length cr) xs[k].row := by
  obtain ⟨A', c', he, hl, h⟩ := h
  injection he with h1 h2 h3
  subst h1
  obtain ⟨b, o, rfl, hb, hlt, he⟩ := h k hk
  obtain ⟨h1, ⟨_, P, cp, h2, h3, h4⟩, _, R, cr, h5, h6, h7⟩ := he
  exact ⟨b, o, rfl, hb, hlt, h1.2, P, cp, R, cr, h2, h3, h4, h5, h6, h7⟩
/-- the element k of a slice of trees -/
theorem IsSl.treeAt {m : Nat} {F : Nat → Prop} {w : World} {A : Option Addr} {n c : Nat} {xs : List Tr} (h : IsSl (trD (m + 1)) F w (.slice A n c) xs) (k : Nat) (hk : k < xs.length) :
    ∃ b o, A = some ⟨b, o, none⟩ ∧ F b ∧ b < w.heap.size ∧ w.cell? ⟨b, o + k * 3, none⟩ = some (.int .i64 xs[k].rule) ∧ w.cell? ⟨b, o + k * 3 + 1, none⟩ = some (.int .i64 xs[k].term) ∧
      ∃ R cr, w.cell? ⟨b, o + k * 3 + 2, none⟩ = some (.slice R xs[k].kids.length cr) ∧ xs[k].kids.length ≤ cr ∧ IsSl (trD m) F w (.slice R xs[k].kids.length cr) xs[k].kids := by
  obtain ⟨A', c', he, hl, h⟩ := h
  injection he with h1 h2 h3
  subst h1
  obtain ⟨b, o, rfl, hb, hlt, he⟩ := h k hk
  obtain ⟨h1, h2, _, R, cr, h5, h6, h7⟩ := he
  exact ⟨b, o, rfl, hb, hlt, h1.2, h2.2, R, cr, h5, h6, h7⟩
end Go.Proofs.YtdbkbkopcnkgcaaGreat

open Go Go.RowKit
namespace Go.Proofs.YtdbkbkopcnkgcaaGreat

/-! ### slices.Grow of nil, slices.Concat of two slices -/
theorem Tryz.infoTint : (Tryz.prog.info? 3).map (fun i => (i.zero, i.size, i.bytes)) = some (some (.int .i64 0), 1, 8) := by kernel_rfl
theorem Tryz.infoTTree : (Tryz.prog.info? 45).map (fun i => (i.zero, i.size, i.bytes)) = some (some (.agg #[.int .i64 0, .int .i64 0, .slice none 0 0]), 3, 40) := by kernel_rfl
theorem Tryz.infoTranked : (Tryz.prog.info? 90).map (fun i => (i.zero, i.size, i.bytes)) = some (some (.agg #[.int .i64 0, .slice none 0 0, .slice none 0 0]), 3, 56) := by kernel_rfl
theorem cells_below {w w' : World} {A : Option Addr} {news : List Value} (hb : Below w.heap.size w w') (h : ∀ a, A = some a → ∀ j u, news[j]? = some u → w.cell? (a.add j) = some u) : ∀ a, A = some a → ∀ j u, news[j]? = some u → w'.cell? (a.add j) = some u := fun a ha j u hj => by
  have h1 := h a ha j u hj
  exact (hb.cell (p := a.add j) (World.block_lt_of_cell? w _ h1)).trans h1

set_option maxRecDepth 100000 in
theorem grow_int (n : Nat) (hn : n ≤ 1000000) (w : World) : Calls Tryz.prog 80 #[.slice none 0 0, .int .i64 n] w fun e w' => ∃ A c, e = .returned (.slice A 0 c) ∧ w'.ownsRow w.heap.size 3 1 (.slice A 0 c) 0 [] ∧ Below w.heap.size w w' := by
  rcases Nat.eq_zero_or_pos n with rfl | hp
  · go_enter Tryz.func80, Tryz.ntmps80
    go_wp2_with fail
    go_ret
    exact ⟨none, 0, rfl, World.ownsRow_nil _ _ _ _, Below.refl _ _⟩
  · obtain ⟨ii, hi, hz0, hz1, hz2⟩ := info_parts Tryz.infoTint
    have hr : ∀ ty, (Builtin.append_ #[22, 3] ty #[.slice none 0 0, .int .i64 n]).run Tryz.prog w = _ := fun ty => Lib.run_append_nil_zeros (P := Tryz.prog) w 22 3 ty 3 ii _ .i64 .i64 Tryz.underlying22 Tryz.underlying3 hi hz0 n hp (by rw [hz1]; decide) (by omega) (by rw [hz2]; omega)
    generalize hcap : grownCap w n 0 3 = cap2 at hr
    have hge : n ≤ cap2 := by rw [← hcap]; exact grownCap_ge w _ 0 _
    have hle : cap2 ≤ 9223372036854775807 := by
      have := grownCap_le_maxLen w n 0 3 (by unfold maxLen; omega)
      rw [hcap] at this
      unfold maxLen at this
      exact this
    generalize hZ : (Builtin.zeroCells (Value.cells (.int .i64 0)) n ++ Builtin.zeroCells (Value.cells (.int .i64 0)) (cap2 - n)) = Z at hr
    have hZs : Z.size = cap2 * 1 := by
      rw [← hZ, Array.size_append, size_zeroCells, size_zeroCells]
      show n * 1 + (cap2 - n) * 1 = _
      omega
    clear hcap hZ
    have hpz : (n : Int) > 0 := by omega
    have hnz : ¬ ((n : Int) < 0) := by omega
    go_enter Tryz.func80, Tryz.ntmps80
    go_wp2_with (first | (at_builtin; refine Lib.wpList_append_run _ rfl _ _ _ _ rfl _ _ rfl rfl _ _ (hr _) ?_))
    go_ret
    refine ⟨some ⟨w.heap.size, 0, none⟩, cap2, rfl, ⟨rfl, .inr ⟨w.heap.size, cap2, Z, rfl, Nat.le_refl _, heap_alloc_new w.drew _, by omega, by unfold maxLen; omega, hZs, by simp⟩⟩, (Below.refl _ _).drew.alloc (Nat.le_refl _) _⟩

set_option maxRecDepth 100000 in
set_option maxHeartbeats 1600000 in
theorem concat_int (F : Nat → Prop) (w : World) (x y : List Int) (A : Option Addr) (c : Nat) (B : Option Addr) (d p : Nat) (hx : IsSl Elt.int F w (.slice A x.length c) x) (hy : IsSl Elt.int F w (.slice B y.length d) y) (hp : w.heap[p]? = some (.cells #[.slice A x.length c, .slice B y.length d] 22 (0, 0))) (hl : x.length + y.length ≤ 1000000) :
    Calls Tryz.prog 64 #[.slice (some ⟨p, 0, none⟩) 2 2] w fun e w' => ∃ A' c', e = .returned (.slice A' (x ++ y).length c') ∧ (x ++ y).length ≤ c' ∧ IsSl Elt.int (fun b => F b ∨ w.heap.size ≤ b) w' (.slice A' (x ++ y).length c') (x ++ y) ∧ Below w.heap.size w w' := by
  obtain ⟨ii, hi, hz0, hz1, hz2⟩ := info_parts Tryz.infoTint
  have p0 := blk_cell hp (i := 0) rfl
  have p1 := blk_cell hp (i := 1) rfl
  obtain ⟨n, hn⟩ : ∃ n, n = x.length := ⟨_, rfl⟩
  obtain ⟨m, hm⟩ : ∃ m, m = y.length := ⟨_, rfl⟩
  rw [← hn] at p0 hx hl
  rw [← hm] at p1 hy hl
  rw [List.length_append, ← hn, ← hm]
  have HN := Lib.hid hn
  have HM := Lib.hid hm
  clear hn hm
  go_enter Tryz.func64, Tryz.ntmps64
  go_wp2_with fail
  go_loopg [11, 3] 2 (fun gk iv sv wr => ∃ k : Nat, k ≤ 2 ∧ gk = 2 - k ∧ iv = .int .i64 k ∧ sv = .int .i64 (if k = 0 then 0 else if k = 1 then (n : Int) else (n + m : Nat)) ∧ w = wr)
  case atStart => exact ⟨0, by omega, by omega, rfl, rfl, rfl⟩
  case round =>
    obtain ⟨k, hk, rfl, rfl, rfl, hww⟩ := hrel
    subst hww
    have hk3 : k = 0 ∨ k = 1 ∨ k = 2 := by omega
    rcases hk3 with rfl | rfl | rfl
    · go_wp2_with fail
      go_roundg 1
      case measure => omega
      case rel => exact ⟨1, by omega, rfl, rfl, by first | rfl | simp, rfl⟩
    · simp only [Nat.succ_ne_zero, if_false, if_true]
      have hs : IntKind.i64.wrap ((n : Int) + m) = ((n + m : Nat) : Int) := by rw [IntWalk.i64_in _ (by omega)]; omega
      have hs2 : ¬ (((n + m : Nat) : Int) < 0) := by omega
      generalize hnm : ((n + m : Nat) : Int) = nm at hs hs2 ⊢
      go_wp2_with fail
      go_roundg 0
      case measure => omega
      case rel => exact ⟨2, by omega, rfl, rfl, by first | rfl | simp [← hnm] , rfl⟩
    · simp only [Nat.succ_ne_zero, if_false, show ¬ ((2 : Nat) = 1) by decide]
      go_wp2_with fail
      refine (grow_int (n + m) (by omega) _).mono ?_
      rintro e1 w1 ⟨A1, c1, rfl, ho1, hb1⟩
      obtain ⟨nx, hnx, hcx⟩ := hx.rowV int_reads
      obtain ⟨ny, hny, hcy⟩ := hy.rowV int_reads
      have hAx := sl_none hx
      have hAy := sl_none hy
      have HX := Lib.hid hnx
      have HY := Lib.hid hny
      have lx := hnx.1
      have ly := hny.1
      have ox := hnx.2.1
      have oy := hny.2.1
      have hpl := cell_lt p0
      rw [← HN.out] at lx
      rw [← HM.out] at ly
      clear hnx hny hx hy hp
      go_wp2_with fail
      go_loopg [27, 6] 2 (fun gk iv sv wr => ∃ (k n' : Nat) (A' : Option Addr) (c' : Nat), k ≤ 2 ∧ gk = 2 - k ∧ iv = .int .i64 k ∧ sv = .slice A' n' c' ∧ n' = (if k = 0 then 0 else if k = 1 then n else n + m) ∧ wr.ownsRow w.heap.size 3 1 (.slice A' n' c') n' (if k = 0 then [] else if k = 1 then nx else nx ++ ny) ∧ Below w.heap.size w wr)
      case atStart => exact ⟨0, 0, A1, c1, by omega, by omega, rfl, rfl, rfl, ho1, hb1⟩
      case round =>
        clear ho1 hb1
        obtain ⟨k, n', A', c', hk, rfl, rfl, rfl, hn', hown, hbel⟩ := hrel
        obtain ⟨wo, rfl⟩ : ∃ wo : World, wo = wr := ⟨_, rfl⟩
        have q0 := (hbel.cell (p := ⟨p, 0, none⟩) hpl).trans p0
        have q1 := (hbel.cell (p := ⟨p, 1, none⟩) hpl).trans p1
        have hsz := hbel.size
        have hk3 : k = 0 ∨ k = 1 ∨ k = 2 := by omega
        rcases hk3 with rfl | rfl | rfl
        · simp only [if_true] at hn' hown
          subst hn'
          go_wp2_with (first | (at_builtin; refine wpList_append_src _ rfl (.tmp 31) (.tmp 32) 22 rfl w.heap.size 3 ii (.int .i64 0) 1 8 Tryz.underlying22 hi hz0 hz1 hz2 rfl (by decide) _ 0 [] rfl ?ho A n c nx rfl ?c0 ?c1 ?c2 ?c3 ?c4 ?c5 ?c6 ?_))
          case ho => exact hown
          case c0 => exact lx
          case c1 => exact hAx
          case c2 => exact cells_below hbel hcx
          case c3 => exact ox
          case c4 => unfold maxLen; omega
          case c5 => omega
          case c6 => exact hsz
          intro v' w7 hown7 hg7 hat7
          obtain ⟨A7, c7, rfl⟩ := own_form hown7
          have hb7 : Below w.heap.size w w7 := hbel.grown hg7 hsz fun j hj => own_base' hown j hj
          go_wp2_with fail
          go_roundg 1
          case measure => omega
          case rel => exact ⟨1, n, A7, c7, by omega, rfl, rfl, rfl, rfl, hown7, hb7⟩
        · simp only [Nat.succ_ne_zero, if_false, if_true] at hn' hown
          subst hn'
          go_wp2_with (first | (at_builtin; refine wpList_append_src _ rfl (.tmp 31) (.tmp 32) 22 rfl w.heap.size 3 ii (.int .i64 0) 1 8 Tryz.underlying22 hi hz0 hz1 hz2 rfl (by decide) _ n' nx rfl ?ho B m d ny rfl ?c0 ?c1 ?c2 ?c3 ?c4 ?c5 ?c6 ?_))
          case ho => exact hown
          case c0 => exact ly
          case c1 => exact hAy
          case c2 => exact cells_below hbel hcy
          case c3 => exact oy
          case c4 => unfold maxLen; omega
          case c5 => omega
          case c6 => exact hsz
          intro v' w7 hown7 hg7 hat7
          obtain ⟨A7, c7, rfl⟩ := own_form hown7
          have hb7 : Below w.heap.size w w7 := hbel.grown hg7 hsz fun j hj => own_base' hown j hj
          go_wp2_with fail
          go_roundg 0
          case measure => omega
          case rel => exact ⟨2, n' + m, A7, c7, by omega, rfl, rfl, rfl, rfl, hown7, hb7⟩
        · simp only [Nat.succ_ne_zero, if_false, show ¬ ((2 : Nat) = 1) by decide] at hn' hown
          subst hn'
          have hcap := own_cap hown
          have hfin := (((HX.out.append HY.out).keep (G := F) hsz fun k h1 h2 => ⟨h1, hbel.block k h2⟩).isSl (by rw [List.length_append, HN.out, HM.out]) hown).weak (G := fun b => F b ∨ w.heap.size ≤ b) fun b hb => hb.imp id fun h => own_base' hown b h
          have HF := Lib.hid hfin
          clear hfin hown
          go_wp2_with fail
          go_ret
          exact ⟨A', c', rfl, hcap, HF.out, hbel⟩

set_option maxRecDepth 100000 in
theorem grow_tree (n : Nat) (hn : n ≤ 1000000) (w : World) : Calls Tryz.prog 81 #[.slice none 0 0, .int .i64 n] w fun e w' => ∃ A c, e = .returned (.slice A 0 c) ∧ w'.ownsRow w.heap.size 45 3 (.slice A 0 c) 0 [] ∧ Below w.heap.size w w' := by
  rcases Nat.eq_zero_or_pos n with rfl | hp
  · go_enter Tryz.func81, Tryz.ntmps81
    go_wp2_with fail
    go_ret
    exact ⟨none, 0, rfl, World.ownsRow_nil _ _ _ _, Below.refl _ _⟩
  · obtain ⟨ii, hi, hz0, hz1, hz2⟩ := info_parts Tryz.infoTTree
    have hr : ∀ ty, (Builtin.append_ #[38, 3] ty #[.slice none 0 0, .int .i64 n]).run Tryz.prog w = _ := fun ty => Lib.run_append_nil_zeros (P := Tryz.prog) w 38 3 ty 45 ii _ .i64 .i64 Tryz.underlying38 Tryz.underlying3 hi hz0 n hp (by rw [hz1]; decide) (by omega) (by rw [hz2]; omega)
    generalize hcap : grownCap w n 0 45 = cap2 at hr
    have hge : n ≤ cap2 := by rw [← hcap]; exact grownCap_ge w _ 0 _
    have hle : cap2 ≤ 9223372036854775807 := by
      have := grownCap_le_maxLen w n 0 45 (by unfold maxLen; omega)
      rw [hcap] at this
      unfold maxLen at this
      exact this
    generalize hZ : (Builtin.zeroCells (Value.cells (.agg #[.int .i64 0, .int .i64 0, .slice none 0 0])) n ++ Builtin.zeroCells (Value.cells (.agg #[.int .i64 0, .int .i64 0, .slice none 0 0])) (cap2 - n)) = Z at hr
    have hZs : Z.size = cap2 * 3 := by
      rw [← hZ, Array.size_append, size_zeroCells, size_zeroCells]
      show n * 3 + (cap2 - n) * 3 = _
      omega
    clear hcap hZ
    have hpz : (n : Int) > 0 := by omega
    have hnz : ¬ ((n : Int) < 0) := by omega
    go_enter Tryz.func81, Tryz.ntmps81
    go_wp2_with (first | (at_builtin; refine Lib.wpList_append_run _ rfl _ _ _ _ rfl _ _ rfl rfl _ _ (hr _) ?_))
    go_ret
    refine ⟨some ⟨w.heap.size, 0, none⟩, cap2, rfl, ⟨rfl, .inr ⟨w.heap.size, cap2, Z, rfl, Nat.le_refl _, heap_alloc_new w.drew _, by omega, by unfold maxLen; omega, hZs, by simp⟩⟩, (Below.refl _ _).drew.alloc (Nat.le_refl _) _⟩

set_option maxRecDepth 100000 in
set_option maxHeartbeats 1600000 in
theorem concat_tree (F : Nat → Prop) (w : World) (x y : List Tr) (A : Option Addr) (c : Nat) (B : Option Addr) (d p : Nat) (hx : IsSl Elt.tree F w (.slice A x.length c) x) (hy : IsSl Elt.tree F w (.slice B y.length d) y) (hp : w.heap[p]? = some (.cells #[.slice A x.length c, .slice B y.length d] 38 (0, 0))) (hl : x.length + y.length ≤ 1000000) :
    Calls Tryz.prog 65 #[.slice (some ⟨p, 0, none⟩) 2 2] w fun e w' => ∃ A' c', e = .returned (.slice A' (x ++ y).length c') ∧ (x ++ y).length ≤ c' ∧ IsSl Elt.tree (fun b => F b ∨ w.heap.size ≤ b) w' (.slice A' (x ++ y).length c') (x ++ y) ∧ Below w.heap.size w w' := by
  obtain ⟨ii, hi, hz0, hz1, hz2⟩ := info_parts Tryz.infoTTree
  have p0 := blk_cell hp (i := 0) rfl
  have p1 := blk_cell hp (i := 1) rfl
  obtain ⟨n, hn⟩ : ∃ n, n = x.length := ⟨_, rfl⟩
  obtain ⟨m, hm⟩ : ∃ m, m = y.length := ⟨_, rfl⟩
  rw [← hn] at p0 hx hl
  rw [← hm] at p1 hy hl
  rw [List.length_append, ← hn, ← hm]
  have HN := Lib.hid hn
  have HM := Lib.hid hm
  clear hn hm
  go_enter Tryz.func65, Tryz.ntmps65
  go_wp2_with fail
  go_loopg [11, 3] 2 (fun gk iv sv wr => ∃ k : Nat, k ≤ 2 ∧ gk = 2 - k ∧ iv = .int .i64 k ∧ sv = .int .i64 (if k = 0 then 0 else if k = 1 then (n : Int) else (n + m : Nat)) ∧ w = wr)
  case atStart => exact ⟨0, by omega, by omega, rfl, rfl, rfl⟩
  case round =>
    obtain ⟨k, hk, rfl, rfl, rfl, hww⟩ := hrel
    subst hww
    have hk3 : k = 0 ∨ k = 1 ∨ k = 2 := by omega
    rcases hk3 with rfl | rfl | rfl
    · go_wp2_with fail
      go_roundg 1
      case measure => omega
      case rel => exact ⟨1, by omega, rfl, rfl, by first | rfl | simp, rfl⟩
    · simp only [Nat.succ_ne_zero, if_false, if_true]
      have hs : IntKind.i64.wrap ((n : Int) + m) = ((n + m : Nat) : Int) := by rw [IntWalk.i64_in _ (by omega)]; omega
      have hs2 : ¬ (((n + m : Nat) : Int) < 0) := by omega
      generalize hnm : ((n + m : Nat) : Int) = nm at hs hs2 ⊢
      go_wp2_with fail
      go_roundg 0
      case measure => omega
      case rel => exact ⟨2, by omega, rfl, rfl, by first | rfl | simp [← hnm] , rfl⟩
    · simp only [Nat.succ_ne_zero, if_false, show ¬ ((2 : Nat) = 1) by decide]
      go_wp2_with fail
      refine (grow_tree (n + m) (by omega) _).mono ?_
      rintro e1 w1 ⟨A1, c1, rfl, ho1, hb1⟩
      obtain ⟨nx, hnx, hcx⟩ := hx.rowV tree_reads
      obtain ⟨ny, hny, hcy⟩ := hy.rowV tree_reads
      have hAx := sl_none hx
      have hAy := sl_none hy
      have HX := Lib.hid hnx
      have HY := Lib.hid hny
      have lx := hnx.1
      have ly := hny.1
      have ox := hnx.2.1
      have oy := hny.2.1
      have hpl := cell_lt p0
      rw [← HN.out] at lx
      rw [← HM.out] at ly
      clear hnx hny hx hy hp
      go_wp2_with fail
      go_loopg [27, 6] 2 (fun gk iv sv wr => ∃ (k n' : Nat) (A' : Option Addr) (c' : Nat), k ≤ 2 ∧ gk = 2 - k ∧ iv = .int .i64 k ∧ sv = .slice A' n' c' ∧ n' = (if k = 0 then 0 else if k = 1 then n else n + m) ∧ wr.ownsRow w.heap.size 45 3 (.slice A' n' c') n' (if k = 0 then [] else if k = 1 then nx else nx ++ ny) ∧ Below w.heap.size w wr)
      case atStart => exact ⟨0, 0, A1, c1, by omega, by omega, rfl, rfl, rfl, ho1, hb1⟩
      case round =>
        clear ho1 hb1
        obtain ⟨k, n', A', c', hk, rfl, rfl, rfl, hn', hown, hbel⟩ := hrel
        obtain ⟨wo, rfl⟩ : ∃ wo : World, wo = wr := ⟨_, rfl⟩
        have q0 := (hbel.cell (p := ⟨p, 0, none⟩) hpl).trans p0
        have q1 := (hbel.cell (p := ⟨p, 1, none⟩) hpl).trans p1
        have hsz := hbel.size
        have hk3 : k = 0 ∨ k = 1 ∨ k = 2 := by omega
        rcases hk3 with rfl | rfl | rfl
        · simp only [if_true] at hn' hown
          subst hn'
          go_wp2_with (first | (at_builtin; refine wpList_append_src _ rfl (.tmp 31) (.tmp 32) 38 rfl w.heap.size 45 ii (.agg #[.int .i64 0, .int .i64 0, .slice none 0 0]) 3 40 Tryz.underlying38 hi hz0 hz1 hz2 rfl (by decide) _ 0 [] rfl ?ho A n c nx rfl ?c0 ?c1 ?c2 ?c3 ?c4 ?c5 ?c6 ?_))
          case ho => exact hown
          case c0 => exact lx
          case c1 => exact hAx
          case c2 => exact cells_below hbel hcx
          case c3 => exact ox
          case c4 => unfold maxLen; omega
          case c5 => omega
          case c6 => exact hsz
          intro v' w7 hown7 hg7 hat7
          obtain ⟨A7, c7, rfl⟩ := own_form hown7
          have hb7 : Below w.heap.size w w7 := hbel.grown hg7 hsz fun j hj => own_base' hown j hj
          go_wp2_with fail
          go_roundg 1
          case measure => omega
          case rel => exact ⟨1, n, A7, c7, by omega, rfl, rfl, rfl, rfl, hown7, hb7⟩
        · simp only [Nat.succ_ne_zero, if_false, if_true] at hn' hown
          subst hn'
          go_wp2_with (first | (at_builtin; refine wpList_append_src _ rfl (.tmp 31) (.tmp 32) 38 rfl w.heap.size 45 ii (.agg #[.int .i64 0, .int .i64 0, .slice none 0 0]) 3 40 Tryz.underlying38 hi hz0 hz1 hz2 rfl (by decide) _ n' nx rfl ?ho B m d ny rfl ?c0 ?c1 ?c2 ?c3 ?c4 ?c5 ?c6 ?_))
          case ho => exact hown
          case c0 => exact ly
          case c1 => exact hAy
          case c2 => exact cells_below hbel hcy
          case c3 => exact oy
          case c4 => unfold maxLen; omega
          case c5 => omega
          case c6 => exact hsz
          intro v' w7 hown7 hg7 hat7
          obtain ⟨A7, c7, rfl⟩ := own_form hown7
          have hb7 : Below w.heap.size w w7 := hbel.grown hg7 hsz fun j hj => own_base' hown j hj
          go_wp2_with fail
          go_roundg 0
          case measure => omega
          case rel => exact ⟨2, n' + m, A7, c7, by omega, rfl, rfl, rfl, rfl, hown7, hb7⟩
        · simp only [Nat.succ_ne_zero, if_false, show ¬ ((2 : Nat) = 1) by decide] at hn' hown
          subst hn'
          have hcap := own_cap hown
          have hfin := (((HX.out.append HY.out).keep (G := F) hsz fun k h1 h2 => ⟨h1, hbel.block k h2⟩).isSl (by rw [List.length_append, HN.out, HM.out]) hown).weak (G := fun b => F b ∨ w.heap.size ≤ b) fun b hb => hb.imp id fun h => own_base' hown b h
          have HF := Lib.hid hfin
          clear hfin hown
          go_wp2_with fail
          go_ret
          exact ⟨A', c', rfl, hcap, HF.out, hbel⟩
end Go.Proofs.YtdbkbkopcnkgcaaGreat

open Go Go.RowKit
open Go.Sort (HoldsK flatK grow putRowK SWO PermIn SortedIn)
namespace Go.Proofs.YtdbkbkopcnkgcaaGreat

/-! ### rows of trees in order -/
def cmpRk (a b : Rk) : Int := if a.size ≠ b.size then a.size - b.size else cmpInts a.pre b.pre
theorem cmpRk_lt (a b : Rk) : cmpRk a b < 0 ↔ a.size < b.size ∨ (a.size = b.size ∧ cmpInts a.pre b.pre < 0) := by
  unfold cmpRk
  by_cases h : a.size = b.size
  · simp [h]
  · simp [h]; omega
def rkLe (a b : Rk) : Bool := !decide (cmpRk b a < 0)
theorem cmpRk_irrefl (x : Rk) : ¬ cmpRk x x < 0 := by
  rw [cmpRk_lt, cmpInts_refl]; omega
theorem cmpRk_trans {x y z : Rk} (h1 : cmpRk x y < 0) (h2 : cmpRk y z < 0) : cmpRk x z < 0 := by
  rw [cmpRk_lt] at *
  have h := cmpInts_trans x.pre y.pre z.pre
  rcases h1 with h1 | ⟨h1, h3⟩ <;> rcases h2 with h2 | ⟨h2, h4⟩
  · left; omega
  · left; omega
  · left; omega
  · right; exact ⟨by omega, h h3 h4⟩
theorem cmpRk_tie {x y : Rk} (h1 : ¬ cmpRk x y < 0) (h2 : ¬ cmpRk y x < 0) : x.size = y.size ∧ x.pre = y.pre := by
  rw [cmpRk_lt] at h1 h2
  have ha := cmpInts_anti x.pre y.pre
  have e1 : x.size = y.size := by omega
  have e2 : cmpInts x.pre y.pre = 0 := by
    simp only [e1, true_and, Int.lt_irrefl, false_or] at h1 h2; omega
  exact ⟨e1, cmpInts_zero _ _ e2⟩
theorem cmpRk_lt_tie {x y z : Rk} (h : x.size = y.size ∧ x.pre = y.pre) : (cmpRk z x < 0 ↔ cmpRk z y < 0) := by
  rw [cmpRk_lt, cmpRk_lt, h.1, h.2]
theorem cmpRk_ntrans {x y z : Rk} (h1 : ¬ cmpRk x y < 0) (h2 : ¬ cmpRk y z < 0) : ¬ cmpRk x z < 0 := by
  intro h3
  by_cases a : cmpRk y x < 0
  · exact h2 (cmpRk_trans a h3)
  · have e := cmpRk_tie h1 a
    rw [cmpRk_lt, e.1, e.2, ← cmpRk_lt] at h3
    exact h2 h3
/-- rows of the same rank are the same -/
def KeyInj (l : List Rk) : Prop := ∀ a ∈ l, ∀ b ∈ l, a.size = b.size → a.pre = b.pre → a = b
theorem KeyInj.sub {l m : List Rk} (h : KeyInj l) (hs : ∀ a ∈ m, a ∈ l) : KeyInj m := fun a ha b hb => h a (hs a ha) b (hs b hb)
theorem rk_sorted {l m : List Rk} (hk : KeyInj l) (hp : m.Perm l) (hs : m.Pairwise fun a b => ¬ cmpRk b a < 0) : m = l.mergeSort rkLe := by
  refine List.Perm.eq_of_pairwise (le := fun x y => ¬ cmpRk y x < 0) ?_ hs ?_ (hp.trans (List.mergeSort_perm _ _).symm)
  · intro a b ha hb h1 h2
    have e := cmpRk_tie h2 h1
    exact hk a (hp.mem_iff.1 ha) b ((List.mergeSort_perm _ _).mem_iff.1 hb) e.1 e.2
  · have := List.pairwise_mergeSort (le := rkLe) (fun a b c h1 h2 => by
      simp only [rkLe, Bool.not_eq_true', decide_eq_false_iff_not] at *
      exact cmpRk_ntrans h2 h1) (fun a b => by
      simp only [rkLe, Bool.or_eq_true, Bool.not_eq_true', decide_eq_false_iff_not]
      by_cases h : cmpRk b a < 0
      · right; intro h2; exact cmpRk_irrefl _ (cmpRk_trans h h2)
      · left; exact h) l
    exact this.imp fun {a b} h => by simpa [rkLe] using h

/-- a row's headers -/
structure RH where
  P : Option Addr
  cp : Nat
  R : Option Addr
  cr : Nat
def encR (e : Rk × RH) : List Value := [.int .i64 e.1.size, .slice e.2.P e.1.pre.length e.2.cp, .slice e.2.R e.1.row.length e.2.cr]
structure GoodR (G : Nat → Prop) (w : World) (e : Rk × RH) : Prop where
  lo : 0 ≤ e.1.size
  hi : e.1.size ≤ 5000
  cp : e.1.pre.length ≤ e.2.cp
  pre : IsSl Elt.int G w (.slice e.2.P e.1.pre.length e.2.cp) e.1.pre
  cr : e.1.row.length ≤ e.2.cr
  row : IsSl Elt.tree G w (.slice e.2.R e.1.row.length e.2.cr) e.1.row
theorem GoodR.keep {G H : Nat → Prop} {w w' : World} {e : Rk × RH} (h : GoodR G w e) (hs : w.heap.size ≤ w'.heap.size) (hk : ∀ b, G b → b < w.heap.size → H b ∧ w'.heap[b]? = w.heap[b]?) : GoodR H w' e :=
  ⟨h.lo, h.hi, h.cp, (h.pre.old.keep (fun b hb => (hk b hb.1 hb.2).2) hs).weak fun b hb => (hk b hb.1 hb.2).1, h.cr, (h.row.old.keep (fun b hb => (hk b hb.1 hb.2).2) hs).weak fun b hb => (hk b hb.1 hb.2).1⟩
abbrev RKs (G : Nat → Prop) (w : World) := {e : Rk × RH // GoodR G w e}
instance (G : Nat → Prop) (w : World) : Inhabited (RKs G w) := ⟨⟨(⟨0, [], []⟩, ⟨none, 0, none, 0⟩), ⟨by simp, by simp, by simp, ⟨none, 0, rfl, by simp, fun k hk => absurd hk (by simp)⟩, by simp, ⟨none, 0, rfl, by simp, fun k hk => absurd hk (by simp)⟩⟩⟩⟩
def cfR (G : Nat → Prop) (w : World) (a b : RKs G w) : Int := cmpRk a.1.1 b.1.1
theorem swoR (G : Nat → Prop) (w : World) : SWO (Go.Proofs.ltOf (cfR G w)) where
  irrefl x := by show decide (cmpRk _ _ < 0) = false; rw [decide_eq_false_iff_not]; exact cmpRk_irrefl _
  trans x y z h1 h2 := by
    change decide (cmpRk _ _ < 0) = true at h1 h2
    show decide (cmpRk _ _ < 0) = true
    rw [decide_eq_true_eq] at *
    exact cmpRk_trans h1 h2
  ntrans x y z h1 h2 := by
    change decide (cmpRk _ _ < 0) = false at h1 h2
    show decide (cmpRk _ _ < 0) = false
    rw [decide_eq_false_iff_not] at *
    exact cmpRk_ntrans h1 h2

set_option maxHeartbeats 1000000 in
theorem mOrder_any (F F2 : Nat → Prop) (a b : Rk) (A : Option Addr) (n c : Nat) (B : Option Addr) (m d : Nat) (v1 v2 : Value) (W : World) (ha : IsSl Elt.int F W (.slice A n c) a.pre) (hb : IsSl Elt.int F2 W (.slice B m d) b.pre) (a0 : 0 ≤ a.size) (a1 : a.size ≤ 5000) (b0 : 0 ≤ b.size) (b1 : b.size ≤ 5000) :
    Calls Tryz.prog 67 #[.agg #[.int .i64 a.size, .slice A n c, v1], .agg #[.int .i64 b.size, .slice B m d, v2]] W fun e w' => e = .returned (.int .i64 (cmpRk a b)) ∧ ∃ q os', w' = grow (W.drewN q) os' := by
  have hfin : ∀ o1 o2 : Obj, ∃ q os', (W.alloc o1).alloc o2 = grow (W.drewN q) os' := fun o1 o2 => ⟨0, _, by rw [Go.Sort.alloc_eq_grow, Go.Sort.alloc_eq_grow, Go.Sort.grow_grow]; rfl⟩
  have hbW : ∀ o1 o2 : Obj, Below W.heap.size W ((W.alloc o1).alloc o2) := fun o1 o2 => ((Below.refl _ _).alloc (Nat.le_refl _) _).alloc (by simp) _
  by_cases h1 : a.size = b.size
  · have z1 : (a.size != b.size) = false := by simp [h1]
    have E := Lib.hid (show cmpRk a b = cmpInts a.pre b.pre by simp [cmpRk, h1])
    clear h1
    have hcon := fun W' hx hy => compareInts_any F F2 a.pre b.pre A B n m c d W' hx hy
    go_enter Tryz.func67, Tryz.ntmps67
    go_wp2_with fail
    refine (hcon _ (ha.below (hbW _ _)) (hb.below (hbW _ _))).mono ?_
    rintro e w' ⟨rfl, rfl⟩
    go_wp2_with fail
    go_ret
    exact ⟨ret_int (by rw [E.out]), hfin _ _⟩
  · have z1 : (a.size != b.size) = true := by simp; omega
    have E := Lib.hid (show cmpRk a b = a.size - b.size by simp [cmpRk, h1])
    clear h1
    go_enter Tryz.func67, Tryz.ntmps67
    go_wp2_with fail
    go_ret
    exact ⟨ret_int (by rw [E.out]), hfin _ _⟩

theorem sort_ranked (w : World) (base blk cap : Nat) (G : Nat → Prop) (hG : ∀ b, G b → b ≠ blk) (L : List (Rk × RH)) (hgood : ∀ e ∈ L, GoodR G w e) (hkey : KeyInj (L.map (·.1))) (hlen : L.length ≤ 1000000000) (hown : w.ownsRow base 90 3 (.slice (some ⟨blk, 0, none⟩) L.length cap) L.length (L.flatMap encR)) :
    Calls Tryz.prog 66 #[.slice (some ⟨blk, 0, none⟩) L.length cap, .func (.func 67) #[] #[]] w fun e w' => e = .returned (.tuple #[]) ∧ Away w.heap.size (fun b => b = blk) w w' ∧ IsSl Elt.ranked (fun b => b = blk ∨ (G b ∧ b < w.heap.size)) w' (.slice (some ⟨blk, 0, none⟩) ((L.map (·.1)).mergeSort rkLe).length cap) ((L.map (·.1)).mergeSort rkLe) := by
  obtain ⟨d, hd⟩ : ∃ d : List (RKs G w), d.map (·.1) = L := ⟨L.attachWith (GoodR G w) hgood, by first | exact List.attachWith_map_subtype_val .. | (simp; exact List.attach_map_subtype_val L)⟩
  have hdl : d.length = L.length := by rw [← hd, List.length_map]
  have hfl : d.flatMap (fun e => encR e.1) = L.flatMap encR := by rw [← hd, List.flatMap_map]
  have hblk : blk < w.heap.size := (hown.lt blk rfl).2
  have hown2 : w.ownsRow base 90 3 (.slice (some ⟨blk, 0, none⟩) d.length cap) d.length (d.flatMap fun e => encR e.1) := by rw [hfl, hdl]; exact hown
  have hH := holds_own (fun e : RKs G w => encR e.1) (fun _ => rfl) d hown2
  have eg : ∀ args w, (callFunc 67 args).run Tryz.prog w = .ok (.enter 67 args) w := enters_of Tryz.func67 (by kernel_rfl) rfl
  have hcmp : CmpLays Tryz.prog 67 #[] (fun e : RKs G w => encR e.1) 3 (cfR G w) blk 0 d.toArray.size w := fun m os dk _ x y => by
    have ha := sort_away (fun e : RKs G w => encR e.1) 3 w blk 0 m dk os
    have hk : ∀ (e : RKs G w), IsSl Elt.int (fun b => G b ∧ b < w.heap.size) (sortWorldK (fun e : RKs G w => encR e.1) 3 w blk 0 m dk os) (.slice e.1.2.P e.1.1.pre.length e.1.2.cp) e.1.1.pre := fun e => e.2.pre.old.keep (fun b hb => ha.block b hb.2 (hG b hb.1)) ha.size
    exact mOrder_any _ _ x.1.1 y.1.1 _ _ _ _ _ _ _ _ _ (hk x) (hk y) x.2.lo x.2.hi y.2.lo y.2.hi
  have hcon := AnyQ.slices_SortFunc Tryz.sortranked 3 Tryz.isAgg90 Tryz.sizeOf90 (fun e : RKs G w => encR e.1) (fun _ => rfl) (fun x v hv => by simp [encR] at hv; rcases hv with rfl | rfl | rfl <;> rfl) (cfR G w) (swoR G w) 67 #[] blk 0 cap d.toArray w eg hcmp hH hblk (by simp; omega)
  change Calls Tryz.prog 66 _ _ _ at hcon
  have hsz : d.toArray.size = L.length := by simpa using hdl
  rw [hsz] at hcon
  refine hcon.mono ?_
  rintro e w' ⟨rfl, d', n, os, hperm, hsort, rfl⟩
  have ha := sort_away (fun e : RKs G w => encR e.1) 3 w blk 0 n d' os
  refine ⟨rfl, ha, ?_⟩
  have hs' : d'.size = L.length := by have := hperm.1; rw [hsz] at this; exact this
  have hperm2 : d'.toList.Perm d := by
    have h1 := hperm.2.2
    have e1 : d'.extract 0 L.length = d' := by rw [← hs']; exact Array.extract_size
    have e2 : d.toArray.extract 0 L.length = d.toArray := by rw [← hsz]; exact Array.extract_size
    rw [e1, e2] at h1
    exact h1
  have hmap : d'.toList.map (·.1.1) = (L.map (·.1)).mergeSort rkLe := by
    refine rk_sorted hkey ?_ ?_
    · rw [← hd, List.map_map]; exact hperm2.map _
    · rw [List.pairwise_map, List.pairwise_iff_getElem]
      intro i j hi hj hij
      have := hsort i j (by omega) hij (by rw [hs'.symm]; simpa using hj)
      change decide (cmpRk _ _ < 0) = false at this
      rw [decide_eq_false_iff_not, getElem!_pos d' i (by simpa using hi), getElem!_pos d' j (by simpa using hj)] at this
      simpa using this
  have hH2 := holdsK_sortWorldK_c (fun e : RKs G w => encR e.1) 3 w blk 0 d.toArray d' n os hH hblk (by rw [hs', hsz])
  have hml : ((L.map (·.1)).mergeSort rkLe).length = L.length := by rw [List.length_mergeSort, List.length_map]
  refine ⟨_, cap, rfl, by rw [hml]; omega, fun k hk => ?_⟩
  have hk1 : k < d'.size := by omega
  have hel : ((L.map (·.1)).mergeSort rkLe)[k] = (d'[k]).1.1 := by
    have h1 : ((L.map (·.1)).mergeSort rkLe)[k]? = (d'.toList.map (·.1.1))[k]? := by rw [hmap]
    rw [List.getElem?_eq_getElem hk, List.getElem?_map, List.getElem?_eq_getElem (by simpa using hk1)] at h1
    simpa using h1
  have e0 := (hH2.cell (i := k) (c := 0) hk1 (by omega)).1
  have e1 := (hH2.cell (i := k) (c := 1) hk1 (by omega)).1
  have e2 := (hH2.cell (i := k) (c := 2) hk1 (by omega)).1
  rw [getElem!_pos d' k hk1] at e0 e1 e2
  rw [hel]
  generalize d'[k] = x at e0 e1 e2
  obtain ⟨⟨xd, xh⟩, hx⟩ := x
  have hb2 : blk < (sortWorldK (fun e : RKs G w => encR e.1) 3 w blk 0 n d' os).heap.size := Nat.lt_of_lt_of_le hblk ha.size
  have hx2 := hx.keep (H := fun b => b = blk ∨ (G b ∧ b < w.heap.size)) ha.size fun b h1 h2 => ⟨.inr ⟨h1, h2⟩, ha.block b h2 (hG b h1)⟩
  exact ⟨blk, 0, rfl, .inl rfl, hb2, ⟨.inl rfl, e0⟩, ⟨.inl rfl, xh.P, xh.cp, e1, hx.cp, hx2.pre⟩, .inl rfl, xh.R, xh.cr, e2, hx.cr, hx2.row⟩

def firstP (most : Nat) (l : List Rk) : List Rk := (l.mergeSort rkLe).take most
theorem IsSl.take {α : Type} {d : Elt α} {F : Nat → Prop} {w : World} {A : Option Addr} {n c m : Nat} {l : List α} (h : IsSl d F w (.slice A n c) l) (hm : m = (l.take m).length) : IsSl d F w (.slice A m c) (l.take m) := by
  obtain ⟨A', c', he, hl, h⟩ := h
  injection he with h1 h2 h3
  subst h1
  have hml : m ≤ l.length := by rw [List.length_take] at hm; omega
  refine ⟨A, c, by rw [← hm], by omega, fun k hk => ?_⟩
  rw [List.getElem_take]
  exact h k (by omega)

/-- the first rows in order -/
def FirstEnd (G : Nat → Prop) (most : Nat) (l : List Rk) (v : Value) (w w' : World) (e : Ending) : Prop := ∃ A n c, e = .returned (.slice A n c) ∧ n = (firstP most l).length ∧ n ≤ c ∧ IsSl Elt.ranked (fun b => v.ownBlock = some b ∨ (G b ∧ b < w.heap.size)) w' (.slice A n c) (firstP most l) ∧ Away w.heap.size (fun b => v.ownBlock = some b) w w'

set_option maxRecDepth 100000 in
set_option maxHeartbeats 800000 in
theorem first_any (w : World) (base bb most : Nat) (v : Value) (G : Nat → Prop) (hG : ∀ b, G b → v.ownBlock ≠ some b) (L : List (Rk × RH)) (hgood : ∀ e ∈ L, GoodR G w e) (hkey : KeyInj (L.map (·.1))) (hlen : L.length ≤ 1000000000) (hown : w.ownsRow base 90 3 v L.length (L.flatMap encR)) (hbb : bb < base) (hm : w.cell? ⟨bb, 1, none⟩ = some (.int .i64 most)) (hmost : most ≤ 1000) :
    Calls Tryz.prog 49 #[.pointer (some ⟨bb, 0, none⟩), v] w fun e w' => FirstEnd G most (L.map (·.1)) v w w' e := by
  obtain ⟨A, c, rfl⟩ := own_form hown
  have hcap := own_cap hown
  have hml : ((L.map (·.1)).mergeSort rkLe).length = L.length := by rw [List.length_mergeSort, List.length_map]
  have hfl : (firstP most (L.map (·.1))).length = min L.length most := by unfold firstP; rw [List.length_take, hml, Nat.min_comm]
  rcases Nat.eq_zero_or_pos L.length with h0 | hpos
  · have hL : L = [] := List.eq_nil_of_length_eq_zero h0
    subst hL
    have hcon := AnyF.slices_SortFunc_none (P := Tryz.prog) (ρ := Tryz.sortranked_ren) { Tryz.sortranked with } A c (.func (.func 67) #[] #[]) w
    change Calls Tryz.prog 66 _ _ _ at hcon
    clear hml hfl h0
    have hmin : min (0 : Int) (most : Int) = 0 := by omega
    simp only [List.length_nil] at *
    have hfin : ∀ A' n', n' = 0 → FirstEnd G most (([] : List (Rk × RH)).map (·.1)) (.slice A 0 c) w w (.returned (.slice A' n' c)) := fun A' n' hn => by
      subst hn
      exact ⟨A', 0, c, rfl, by simp [firstP], Nat.zero_le _, ⟨A', c, by simp [firstP], by simp [firstP], fun k hk => absurd hk (by simp [firstP])⟩, Away.refl _ _ _⟩
    go_enter Tryz.func49, Tryz.ntmps49
    cases A
    all_goals
      go_wp2_with fail
      refine hcon.mono ?_
      rintro e1 w1 ⟨rfl, rfl⟩
      go_wp2_with fail
      go_ret
      exact hfin _ _ rfl
  · obtain ⟨g, cap, he, hg, hg2⟩ := hown.form hpos
    injection he with h1 h2 h3
    subst h1
    subst h3
    have hcon := sort_ranked w base g c G (fun b hb e => hG b hb (by rw [e]; rfl)) L hgood hkey hlen hown
    have hmin : min (L.length : Int) (most : Int) = ((min L.length most : Nat) : Int) := by omega
    have hmc : min L.length most ≤ c := by omega
    have hcap2 : c ≤ 9223372036854775807 := by
      rcases hown.2 with ⟨he, _⟩ | ⟨g', cap', cur, he, _, _, _, h7, _⟩
      · cases he
      · injection he with _ _ e3
        unfold maxLen at h7
        omega
    generalize hmn : min L.length most = mn at hfl hmin hmc
    go_enter Tryz.func49, Tryz.ntmps49
    go_wp2_with fail
    refine hcon.mono ?_
    rintro e1 w1 ⟨rfl, ha, hs⟩
    have hm1 := (World.cell?_of_block (w := w) (a := ⟨bb, 1, none⟩) (ha.block bb (cell_lt hm) (by show ¬ bb = g; omega))).trans hm
    have hfin : FirstEnd G most (L.map (·.1)) (.slice (some ⟨g, 0, none⟩) L.length c) w w1 (.returned (.slice (some ⟨g, 0, none⟩) mn c)) := by
      have hmn2 : mn = (firstP most (L.map (·.1))).length := hfl.symm
      have h4 : firstP most (L.map (·.1)) = ((L.map (·.1)).mergeSort rkLe).take mn := by
        unfold firstP
        exact List.take_eq_take_iff.2 (by rw [hml, ← hmn]; omega)
      refine ⟨_, mn, c, rfl, hmn2, hmc, ?_, ha.mono (Nat.le_refl _) fun j _ hj => by have hj : j = g := hj; rw [hj]; rfl⟩
      rw [h4]
      refine (hs.take (by rw [← h4]; exact hmn2)).weak fun b hb => hb.imp (fun h => by rw [h]; rfl) id
    have HF := Lib.hid hfin
    clear hfin hs hcon hgood hkey hown
    go_wp2_with fail
    go_ret
    exact HF.out
end Go.Proofs.YtdbkbkopcnkgcaaGreat
