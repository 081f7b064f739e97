import Derived.Test.YtdbkbkopcnkgcaaForC
import Derived.Test.YtdbkbkopcnkgcaaAway
import Derived.Test.YtdbkbkopcnkgcaaMakeG
open Go Go.RowKit
open Go.ChangeMaps (setBlock)
namespace Go.Proofs.Ytdbkbkopcnkgcaa

theorem Try.infoFpart : (Try.prog.info? 177).map (fun i => (i.zero, i.size, i.bytes)) = some (some (.agg #[.bool false, .int .i64 0, .int .i64 0, .int .i64 0]), 4, 32) := by kernel_rfl
theorem Try.infoWay : (Try.prog.info? 209).map (fun i => (i.zero, i.size, i.bytes)) = some (some (.agg #[.int .i64 0, .slice none 0 0]), 2, 32) := by kernel_rfl

/-! ### ways that the call has made -/
structure OwnWays (w : World) (base : Nat) (v : Value) (l : List Way) (xs : List Value) : Prop where
  own : w.ownsRow base 209 2 v l.length xs
  at_ : ∀ k (h : k < l.length), xs[k * 2]? = some (.int .i64 l[k].rule) ∧ ∃ A c, xs[k * 2 + 1]? = some (.slice A l[k].kids.length c) ∧ w.ownsRow base 177 4 (.slice A l[k].kids.length c) l[k].kids.length (partCells l[k].kids)

theorem OwnWays.nil (w : World) (base : Nat) : OwnWays w base (.slice none 0 0) [] [] := ⟨World.ownsRow_nil _ _ _ _, fun k h => by simp at h⟩
theorem OwnWays.below {w w' : World} {base : Nat} {v : Value} {l : List Way} {xs : List Value} (h : OwnWays w base v l xs) (hb : Below w.heap.size w w') : OwnWays w' base v l xs :=
  have hg : w.grownBy w' none := ⟨hb.os, hb.tape, hb.output, hb.size, fun k hk _ => hb.block k hk⟩
  ⟨h.own.kept (row := none) hg (by cases v.ownBlock <;> simp), fun k hk => by
    obtain ⟨h1, A, c, h2, h3⟩ := h.at_ k hk
    exact ⟨h1, A, c, h2, h3.kept (row := none) hg (by cases (Value.slice A l[k].kids.length c).ownBlock <;> simp)⟩⟩
theorem OwnWays.notCells {w w' : World} {base b : Nat} {v : Value} {l : List Way} {xs : List Value} (h : OwnWays w base v l xs) (hg : w.grownBy w' (some b)) (hb : ∀ cs T fr, w.heap[b]? ≠ some (.cells cs T fr)) : OwnWays w' base v l xs :=
  ⟨own_kept h.own hg hb, fun k hk => by
    obtain ⟨h1, A, c, h2, h3⟩ := h.at_ k hk
    exact ⟨h1, A, c, h2, own_kept h3 hg hb⟩⟩
theorem OwnWays.setCell {w : World} {base b i : Nat} {v u : Value} {l : List Way} {xs : List Value} (h : OwnWays w base v l xs) (hb : b < base) : OwnWays (w.setCell ⟨b, i, none⟩ u) base v l xs :=
  ⟨own_setCell h.own hb u, fun k hk => by
    obtain ⟨h1, A, c, h2, h3⟩ := h.at_ k hk
    exact ⟨h1, A, c, h2, own_setCell h3 hb u⟩⟩
/-- a way is laid in -/
theorem OwnWays.snoc {w w1 : World} {base : Nat} {v v' : Value} {l : List Way} {xs : List Value} {r : Way} {A : Option Addr} {c : Nat} (h : OwnWays w base v l xs) (hr : w.ownsRow base 177 4 (.slice A r.kids.length c) r.kids.length (partCells r.kids)) (hg : w.grownBy w1 v.ownBlock)
    (hown : w1.ownsRow base 209 2 v' (l.length + 1) (xs ++ [.int .i64 r.rule, .slice A r.kids.length c])) : OwnWays w1 base v' (l ++ [r]) (xs ++ [.int .i64 r.rule, .slice A r.kids.length c]) := by
  have hxl := h.own.1
  refine ⟨by simpa using hown, fun k hk => ?_⟩
  by_cases e : k < l.length
  · obtain ⟨h1, A', c', h2, h3⟩ := h.at_ k e
    have e2 : (l ++ [r])[k] = l[k] := by simp [e]
    rw [e2, List.getElem?_append_left (by omega), List.getElem?_append_left (by omega)]
    exact ⟨h1, A', c', h2, own_other h3 h.own (by decide) hg⟩
  · have e1 : k = l.length := by simp at hk; omega
    subst e1
    have e2 : (l ++ [r])[l.length] = r := by simp
    rw [e2, List.getElem?_append_right (by omega), List.getElem?_append_right (by omega), hxl]
    refine ⟨by simp, A, c, by simp, own_other hr h.own (by decide) hg⟩
theorem OwnWays.isSl {w : World} {base : Nat} {v : Value} {l : List Way} {xs : List Value} (h : OwnWays w base v l xs) : IsSl Elt.way (fun b => base ≤ b) w v l := by
  have ho := h.own
  have hm := own_max ho
  obtain ⟨A, c, rfl⟩ := own_form ho
  refine ⟨A, c, rfl, hm, fun k hk => ?_⟩
  obtain ⟨b, cap, he, hb1, hb2⟩ := ho.form (by omega)
  injection he with he1 he2 he3
  subst he1
  obtain ⟨h1, A', c', h2, h3⟩ := h.at_ k hk
  have k1 := ho.cells (g := b) rfl _ _ h1
  have k2 := ho.cells (g := b) rfl _ _ h2
  rw [add_lit0] at k1 k2
  refine ⟨b, 0, rfl, hb1, cell_lt k1, ⟨hb1, ?_⟩, ⟨hb1, A', c', ?_, own_cap h3, (own_parts h3).weak fun j hj => hj.1⟩⟩
  · show w.cell? ⟨b, 0 + k * 2, none⟩ = _
    rw [Nat.zero_add]; exact k1
  · show w.cell? ⟨b, 0 + k * 2 + 1, none⟩ = _
    rw [Nat.zero_add]; exact k2

set_option maxRecDepth 100000 in
/-- slices.Clone of parts -/
theorem clone_parts (F : Nat → Prop) (l : List Part) (A : Option Addr) (n c : Nat) (w : World) (hl : IsSl Elt.fpart F w (.slice A n c) l) (hn : l.length ≤ 1000000) :
    Calls Try.prog 140 #[.slice A n c] w fun e w' => ∃ A' c', e = .returned (.slice A' l.length c') ∧ Below w.heap.size w w' ∧ w'.ownsRow w.heap.size 177 4 (.slice A' l.length c') l.length (partCells l) := by
  obtain ⟨rfl, hmx⟩ := hl.len
  obtain ⟨ip, hip, h0, h2, h3⟩ := info_parts Try.infoFpart
  cases A with
  | none =>
    have hz := sl_none hl rfl
    have hl0 : l = [] := List.eq_nil_of_length_eq_zero hz
    subst hl0
    have hu : ∀ (w : World) (n : Nat), (binOp .eql 207 (.slice none n c) (.slice none 0 0)).run Try.prog w = .ok (.bool true) w := fun w n => Lib.run_eql_slice_nil w _ _ none n c 0 0 Try.underlying207
    go_enter Try.func140, Try.ntmps140
    go_wp2
    go_ret
    exact ⟨none, 0, rfl, Below.refl _ _, World.ownsRow_nil _ _ _ _⟩
  | some a =>
    have hcells := sl_parts hl a rfl
    have HC := Lib.hid hcells
    have HN := Lib.hid hn
    have HL := Lib.hid hl
    clear hcells hn hl
    have hu : ∀ (w : World) (n : Nat), (binOp .eql 207 (.slice (some a) n c) (.slice none 0 0)).run Try.prog w = .ok (.bool false) w := fun w n => Lib.run_eql_slice_nil w _ _ (some a) n c 0 0 Try.underlying207
    go_enter Try.func140, Try.ntmps140
    go_wp2_with (first | (at_builtin; refine wpList_append_src _ rfl (.tmp 5) (.tmp 6) 207 rfl w.heap.size 177 ip (.agg #[.bool false, .int .i64 0, .int .i64 0, .int .i64 0]) 4 32 Try.underlying207 hip h0 h2 h3 rfl (by decide) _ 0 [] rfl ?ho (some a) l.length c (partCells l) rfl ?c0 ?c1 ?c2 ?c3 ?c4 ?c5 ?c6 ?_))
    case ho => exact ⟨rfl, .inr ⟨w.heap.size, 0, #[], rfl, Nat.le_refl _, heap_alloc_new w _, Nat.le_refl _, by unfold maxLen; omega, rfl, rfl⟩⟩
    case c0 => rw [partCells_length]
    case c1 => intro h; cases h
    case c2 =>
      intro a' ha j u hj
      injection ha with ha
      subst ha
      have hlt := HC.out j u hj
      exact (World.cell?_of_block (w := w) (Below.heap_alloc w _ _ (World.block_lt_of_cell? w _ hlt))).trans hlt
    case c3 => exact partCells_one l
    case c4 => have := HN.out; unfold maxLen; omega
    case c5 => have := HN.out; omega
    case c6 => rw [World.size_alloc]; omega
    intro v' w1 hown hg _
    obtain ⟨A', c', rfl⟩ := own_form hown
    go_wp2
    go_ret
    refine ⟨A', c', by simp, ?_, hown⟩
    exact ((Below.refl _ _).alloc (Nat.le_refl _) _).grown hg (by simp) (fun k hk => by
      have : k = w.heap.size := by simpa [Value.ownBlock] using hk.symm
      omega)

abbrev Hdr := Option Addr × Nat × Nat
def hdrV (h : Hdr) : Value := .slice h.1 h.2.1 h.2.2

/-- split's state: the maker, and the ways of the part that it is at -/
structure SpAt (w : World) (bm r base : Nat) (g : Gram) (x : List Int) (M : List (List Nat)) (A : Option Addr) (c : Nat) (B : Option Addr) (d : Nat) (C : Option Addr) (q : Nat) (l0 : List (Part × Hdr)) (p : Part) (cur : List Way) (many : Nat) (h : Hdr) : Prop where
  bml : bm < base
  rl : r < base
  ne : bm ≠ r
  le : base ≤ w.heap.size
  mker : MkAt (fun b => b < base ∧ b ≠ bm ∧ b ≠ r) w bm g x M A c B d C q (.map (some r)) many
  map : IsMap partV hdrV w r (aput l0 p h)
  own : ∃ xs, OwnWays w base (hdrV h) cur xs
  len : cur.length ≤ many

def SpF (bm r : Nat) (h : Hdr) (b : Nat) : Prop := b = bm ∨ b = r ∨ (hdrV h).ownBlock = some b
structure SpStep (w w' : World) (bm r : Nat) (h h' : Hdr) : Prop where
  away : Away w.heap.size (SpF bm r h) w w'
  own : (hdrV h').ownBlock = (hdrV h).ownBlock ∨ ∃ b, (hdrV h').ownBlock = some b ∧ w.heap.size ≤ b

theorem SpStep.refl (w : World) (bm r : Nat) (h : Hdr) : SpStep w w bm r h h := ⟨Away.refl _ _ _, .inl rfl⟩
theorem SpStep.trans {a b c : World} {bm r : Nat} {h h' h'' : Hdr} (h1 : SpStep a b bm r h h') (h2 : SpStep b c bm r h' h'') : SpStep a c bm r h h'' := by
  have hs := h1.away.size
  refine ⟨h1.away.trans (h2.away.mono hs fun j hj hF => ?_), ?_⟩
  · rcases hF with hF | hF | hF
    · exact .inl hF
    · exact .inr (.inl hF)
    · rcases h1.own with h3 | ⟨b', h3, h4⟩
      · exact .inr (.inr (h3 ▸ hF))
      · rw [h3] at hF; injection hF with hF; omega
  · rcases h2.own with h3 | ⟨b', h3, h4⟩
    · rcases h1.own with h5 | ⟨b', h5, h6⟩
      · exact .inl (h3.trans h5)
      · exact .inr ⟨b', h3.trans h5, h6⟩
    · exact .inr ⟨b', h3, by omega⟩
theorem SpStep.ofBelow {w w' : World} (bm r : Nat) (h : Hdr) (hb : Below w.heap.size w w') : SpStep w w' bm r h h := ⟨Away.ofBelow hb, .inl rfl⟩
/-- what the state's blocks are apart from is read as before -/
theorem SpStep.keep {α : Type} {e : Elt α} {w w' : World} {bm r : Nat} {h h' : Hdr} {v : Value} {l : List α} (hs : SpStep w w' bm r h h') (hl : IsSl e (fun b => ¬ SpF bm r h b) w v l) : IsSl e (fun b => ¬ SpF bm r h' b) w' v l := by
  refine ((hl.old).keep (fun k hk => hs.away.block k hk.2 hk.1) hs.away.size).weak fun k hk hF => ?_
  rcases hF with hF | hF | hF
  · exact hk.1 (.inl hF)
  · exact hk.1 (.inr (.inl hF))
  · rcases hs.own with h3 | ⟨b', h3, h4⟩
    · exact hk.1 (.inr (.inr (h3 ▸ hF)))
    · rw [h3] at hF; injection hF with hF; omega
theorem SpStep.blk {w w' : World} {bm r : Nat} {h h' : Hdr} {b : Nat} {o : Obj} (hs : SpStep w w' bm r h h') (hb : w.heap[b]? = some o) (hF : ¬ SpF bm r h b) : w'.heap[b]? = some o := (hs.away.block b (blk_lt hb) hF).trans hb

section
variable {w w' : World} {bm r base : Nat} {g : Gram} {x : List Int} {M : List (List Nat)} {A : Option Addr} {c : Nat} {B : Option Addr} {d : Nat} {C : Option Addr} {q : Nat} {l0 : List (Part × Hdr)} {p : Part} {cur : List Way} {many : Nat} {h : Hdr}

theorem SpAt.below (hs : SpAt w bm r base g x M A c B d C q l0 p cur many h) (hb : Below w.heap.size w w') : SpAt w' bm r base g x M A c B d C q l0 p cur many h := by
  obtain ⟨xs, ho⟩ := hs.own
  exact ⟨hs.bml, hs.rl, hs.ne, Nat.le_trans hs.le hb.size, hs.mker.below hb, hs.map.below hb, ⟨xs, ho.below hb⟩, hs.len⟩
theorem SpAt.hown (hs : SpAt w bm r base g x M A c B d C q l0 p cur many h) {b : Nat} (hb : (hdrV h).ownBlock = some b) : base ≤ b ∧ b < w.heap.size := by
  obtain ⟨xs, ho⟩ := hs.own
  exact ho.own.lt b hb
theorem SpAt.new (hs : SpAt w bm r base g x M A c B d C q l0 p cur many h) {b : Nat} (hb : w.heap.size ≤ b) : ¬ SpF bm r h b := by
  have h1 := hs.bml
  have h2 := hs.rl
  have h3 := hs.le
  rintro (hF | hF | hF)
  · omega
  · omega
  · have := (hs.hown hF).2; omega

/-- one more -/
theorem SpAt.count (hs : SpAt w bm r base g x M A c B d C q l0 p cur many h) : SpAt (w.setCell ⟨bm, 7, none⟩ (.int .i64 (many + 1 : Nat))) bm r base g x M A c B d C q l0 p cur (many + 1) h := by
  have hb := blk_lt hs.mker.blk
  have hk : ∀ b, b ≠ bm → (w.setCell ⟨bm, 7, none⟩ (.int .i64 (many + 1 : Nat))).heap[b]? = w.heap[b]? := fun b hb => heap_set_ne hb _ _
  have hle : w.heap.size ≤ (w.setCell ⟨bm, 7, none⟩ (.int .i64 (many + 1 : Nat))).heap.size := by rw [size_setCell]; exact Nat.le_refl _
  obtain ⟨xs, ho⟩ := hs.own
  refine ⟨hs.bml, hs.rl, hs.ne, by rw [size_setCell]; exact hs.le, ⟨?_, hs.mker.rules.keep (fun b hb => hk b hb.2.1) hle, hs.mker.word.keep (fun b hb => hk b hb.2.1) hle, hs.mker.mat.keep (fun b hb => hk b hb.2.1) hle⟩, hs.map.same (hk _ hs.ne.symm), ⟨xs, ho.setCell hs.bml⟩, by have := hs.len; omega⟩
  rw [heap_set hs.mker.blk]; rfl
theorem SpStep.count (bm r : Nat) (h : Hdr) (u : Value) : SpStep w (w.setCell ⟨bm, 7, none⟩ u) bm r h h := ⟨Away.setCell _ _ _ _ (.inl (.inl rfl)), .inl rfl⟩

/-- the map's block has turned -/
theorem SpAt.setMap {h2 : Hdr} {o : Obj} (hs : SpAt w bm r base g x M A c B d C q l0 p cur many h) (hm : IsMap partV hdrV (setBlock w r o) r (aput l0 p h2)) (ho : ∃ xs, OwnWays (setBlock w r o) base (hdrV h2) cur xs) : SpAt (setBlock w r o) bm r base g x M A c B d C q l0 p cur many h2 := by
  have hk : ∀ b, b ≠ r → (setBlock w r o).heap[b]? = w.heap[b]? := fun b hb => setBlock_other _ _ _ hb
  have hle : w.heap.size ≤ (setBlock w r o).heap.size := by rw [setBlock_size]; exact Nat.le_refl _
  exact ⟨hs.bml, hs.rl, hs.ne, by rw [setBlock_size]; exact hs.le, ⟨(hk _ hs.ne).trans hs.mker.blk, hs.mker.rules.keep (fun b hb => hk b hb.2.2) hle, hs.mker.word.keep (fun b hb => hk b hb.2.2) hle, hs.mker.mat.keep (fun b hb => hk b hb.2.2) hle⟩, hm, ho, hs.len⟩
end
end Go.Proofs.Ytdbkbkopcnkgcaa
