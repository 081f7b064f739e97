import Derived.Test.YtcndbohiiodndaaCykM
import Derived.Test.YtcndbohiiodndaaOwnLt
import Derived.Test.YtcndbohiiodndaaBlkNew
open Go Go.RowKit
namespace Go.Proofs.Ytcndbohiiodndaa

/-! ### rows of rows that grow -/

/-- a row whose elements are heads of rows that lie in F -/
structure GRow {α : Type} (d : Elt α) (F : Nat → Prop) (w : World) (base : Nat) (ty : TypeId) (v : Value) (L : List (List α)) (xs : List Value) : Prop where
  own : w.ownsRow base ty 1 v L.length xs
  out : ∀ b, v.ownBlock = some b → ¬ F b
  lt : ∀ b, F b → b < w.heap.size
  row : ∀ k (h : k < L.length), ∃ A c, xs[k]? = some (.slice A L[k].length c) ∧ L[k].length ≤ c ∧ IsSl d F w (.slice A L[k].length c) L[k]

section
variable {α : Type} {d : Elt α} {F F' : Nat → Prop} {w w' : World} {base : Nat} {ty : TypeId} {v v' : Value} {L : List (List α)} {xs : List Value}

theorem GRow.nil (w : World) (hlt : ∀ b, F b → b < w.heap.size) : GRow d F w base ty (.slice none 0 0) [] [] := ⟨World.ownsRow_nil _ _ _ _, (fun b hb => by cases hb), hlt, fun k hk => absurd hk (Nat.not_lt_zero _)⟩
theorem GRow.below (h : GRow d F w base ty v L xs) (hb : Below w.heap.size w w') : GRow d F w' base ty v L xs := by
  refine ⟨?_, h.out, fun b hF => Nat.lt_of_lt_of_le (h.lt b hF) hb.size, fun k hk => ?_⟩
  · exact h.own.kept (row := none) ⟨hb.os, hb.tape, hb.output, hb.size, fun j hj _ => hb.block j hj⟩ (by cases v.ownBlock <;> simp)
  · obtain ⟨A, c, h1, h2, h3⟩ := h.row k hk
    exact ⟨A, c, h1, h2, h3.below hb⟩
/-- another row has grown -/
theorem GRow.other (h : GRow d F w base ty v L xs) {row : Option Nat} (hg : w.grownBy w' row) (h1 : ∀ b, row = some b → ¬ F b) (h2 : ∀ b, row = some b → v.ownBlock ≠ some b) : GRow d F w' base ty v L xs := by
  refine ⟨?_, h.out, fun b hF => Nat.lt_of_lt_of_le (h.lt b hF) hg.size, fun k hk => ?_⟩
  · refine h.own.kept hg ?_
    rcases row with _ | b
    · cases v.ownBlock <;> simp
    · exact .inr (h2 b rfl)
  · obtain ⟨A, c, k1, k2, k3⟩ := h.row k hk
    exact ⟨A, c, k1, k2, k3.keep (fun j hj => hg.block j (h.lt j hj) fun e => h1 j e.symm hj) hg.size⟩
theorem GRow.more (h : GRow d F w base ty v L xs) (hF : ∀ b, F b → F' b) (hlt : ∀ b, F' b → b < w.heap.size) (ho : ∀ b, v.ownBlock = some b → ¬ F' b) : GRow d F' w base ty v L xs :=
  ⟨h.own, ho, hlt, fun k hk => by obtain ⟨A, c, h1, h2, h3⟩ := h.row k hk; exact ⟨A, c, h1, h2, h3.weak hF⟩⟩
/-- one more row -/
theorem GRow.snoc (h : GRow d F w base ty v L xs) (hg : w.grownBy w' v.ownBlock) {A : Option Addr} {c : Nat} {l : List α} (hown : w'.ownsRow base ty 1 v' (L.length + 1) (xs ++ [.slice A l.length c])) (hat : v'.ownBlock = v.ownBlock ∨ v'.ownBlock = some w.heap.size)
    (hc : l.length ≤ c) (hl : IsSl d F w (.slice A l.length c) l) : GRow d F w' base ty v' (L ++ [l]) (xs ++ [.slice A l.length c]) := by
  have hk : ∀ j, F j → w'.heap[j]? = w.heap[j]? := fun j hj => hg.block j (h.lt j hj) fun e => h.out j e.symm hj
  refine ⟨by rw [List.length_append]; exact hown, fun b hb hF => ?_, fun b hF => Nat.lt_of_lt_of_le (h.lt b hF) hg.size, fun k hk2 => ?_⟩
  · rcases hat with e | e
    · exact h.out b (e ▸ hb) hF
    · rw [e] at hb
      injection hb with hb
      have := h.lt b hF
      omega
  · have hxl : xs.length = L.length := by have := h.own.1; omega
    by_cases hk3 : k < L.length
    · obtain ⟨A', c', h1, h2, h3⟩ := h.row k hk3
      rw [List.getElem_append_left hk3]
      exact ⟨A', c', by rw [List.getElem?_append_left (by omega)]; exact h1, h2, h3.keep hk hg.size⟩
    · obtain rfl : k = L.length := by rw [List.length_append, List.length_singleton] at hk2; omega
      rw [List.getElem_append_right (by omega)]
      simp only [Nat.sub_self, List.getElem_cons_zero]
      exact ⟨A, c, by rw [List.getElem?_append_right (by omega)]; simp [hxl], hc, hl.keep hk hg.size⟩
/-- such a row reads as a slice of slices -/
theorem GRow.isSl (h : GRow d F w base ty v L xs) : IsSl (Elt.sl d) (fun b => F b ∨ v.ownBlock = some b) w v L := by
  obtain ⟨A, c, rfl⟩ := own_form h.own
  refine ⟨A, c, rfl, own_max h.own, fun k hk => ?_⟩
  obtain ⟨b, cap, he, hb1, hb2⟩ := h.own.form (by omega)
  injection he with he1 he2 he3
  subst he1
  obtain ⟨A', c', h1, h2, h3⟩ := h.row k hk
  have k1 := h.own.cells (g := b) rfl _ _ h1
  rw [add_lit0] at k1
  refine ⟨b, 0, rfl, .inr rfl, cell_lt k1, .inr rfl, A', c', ?_, h2, h3.weak fun _ => .inl⟩
  show w.cell? ⟨b, 0 + k * 1, none⟩ = _
  rw [Nat.zero_add, Nat.mul_one]; exact k1
theorem GRow.cap {A : Option Addr} {n c : Nat} (h : GRow d F w base ty (.slice A n c) L xs) : L.length ≤ c := by
  obtain ⟨A', c', he⟩ := own_form h.own
  injection he with e1 e2 e3
  subst e2
  exact own_cap h.own
end

/-- a row of heads of rows of bits -/
theorem own_hds {w : World} {base n : Nat} {e : TypeId} {v : Value} {L : List (Nat × Nat)} (h : w.ownsRow base e 1 v n (L.map hdV)) : n = L.length ∧ IsSl Elt.hd (fun b => v.ownBlock = some b) w v L := by
  have hl := h.1
  rw [List.length_map, Nat.mul_one] at hl
  subst hl
  refine ⟨rfl, ?_⟩
  obtain ⟨A, c, rfl⟩ := own_form h
  refine ⟨A, c, rfl, own_max h, fun k hk => ?_⟩
  obtain ⟨b, cap, he, hb1, hb2⟩ := h.form (by omega)
  injection he with he1 he2 he3
  subst he1
  have k1 := h.cells (g := b) rfl k (hdV L[k]) (by simp [hk])
  rw [add_lit0] at k1
  refine ⟨b, 0, rfl, rfl, cell_lt k1, rfl, ?_⟩
  show w.cell? ⟨b, 0 + k * 1, none⟩ = _
  rw [Nat.zero_add, Nat.mul_one]; exact k1

/-- rows of bits that are all false -/
def Blank (w : World) (l : List (Nat × Nat)) : Prop := ∀ p ∈ l, w.heap[p.1]? = some (.cells (bitsOf (fun _ => false) p.2) 4 (0, 0))
theorem Blank.below {w w' : World} {l : List (Nat × Nat)} (h : Blank w l) (hb : Below w.heap.size w w') : Blank w' l := fun p hp => blk_below hb (blk_lt (h p hp)) (h p hp)
theorem Blank.grown {w w' : World} {l : List (Nat × Nat)} (h : Blank w l) {base n : Nat} {e : TypeId} {v : Value} {xs : List Value} (ho : w.ownsRow base e 1 v n xs) (he : e ≠ 4) (hg : w.grownBy w' v.ownBlock) : Blank w' l := fun p hp => by
  have := h p hp
  refine (hg.block _ (blk_lt this) fun e2 => ?_).trans this
  obtain ⟨cs, h1, _⟩ := own_typed ho _ e2.symm
  rw [h1] at this
  injection this with this
  injection this with _ h3
  exact he h3
theorem Blank.cells {w : World} {l : List (Nat × Nat)} (h : Blank w l) {b i : Nat} {u : Value} (hb : ∀ cs fr, w.heap[b]? ≠ some (.cells cs 4 fr)) : Blank (w.setCell ⟨b, i, none⟩ u) l := fun p hp => by
  rw [heap_set_ne fun e => hb _ _ (e ▸ h p hp)]
  exact h p hp
theorem Blank.snoc {w : World} {l : List (Nat × Nat)} (h : Blank w l) {p : Nat × Nat} (hp : w.heap[p.1]? = some (.cells (bitsOf (fun _ => false) p.2) 4 (0, 0))) : Blank w (l ++ [p]) := fun q hq => by
  rcases List.mem_append.1 hq with hq | hq
  · exact h q hq
  · simp at hq; subst hq; exact hp
theorem Blank.app {w : World} {l m : List (Nat × Nat)} (h : Blank w l) (h2 : Blank w m) : Blank w (l ++ m) := fun q hq => by
  rcases List.mem_append.1 hq with hq | hq
  · exact h q hq
  · exact h2 q hq
theorem bits_made (n : Nat) : madeCells #[Value.bool false] n = bitsOf (fun _ => false) n := by
  rw [made_one]
  unfold bitsOf
  congr 1
  apply List.ext_getElem <;> simp

theorem cell_new1 {w : World} {a : Nat} (ha : w.heap.size = a) (cs : List Value) (T : TypeId) (o : Obj) (j : Nat) (u : Value) (h : cs[j]? = some u) : ((w.alloc (.cells cs.toArray T)).alloc o).cell? ((⟨a, 0, none⟩ : Addr).add j) = some u := by
  rw [add_lit0]
  exact blk_cell (blk_new1 ha _ o) (by simpa using h)
theorem cell_new2 {w : World} {a : Nat} (ha : w.heap.size = a) (cs : List Value) (T : TypeId) (o o2 : Obj) (j : Nat) (u : Value) (h : cs[j]? = some u) : (((w.alloc (.cells cs.toArray T)).alloc o).alloc o2).cell? ((⟨a, 0, none⟩ : Addr).add j) = some u := by
  rw [add_lit0]
  exact blk_cell (blk_new2 ha _ o o2) (by simpa using h)
/-- what lies apart from a row that grew -/
theorem cell_after {W1 w1 : World} {B : Nat} {v : Value} (hg : W1.grownBy w1 v.ownBlock) (hv : ∀ k, v.ownBlock = some k → k < B) (a j : Nat) (u : Value) (ha : B ≤ a) (h : W1.cell? ((⟨a, 0, none⟩ : Addr).add j) = some u) : w1.cell? ((⟨a, 0, none⟩ : Addr).add j) = some u := by
  rw [add_lit0] at h ⊢
  exact (World.cell?_of_block (w := W1) (hg.block a (cell_lt h) fun e => by have := hv a e.symm; omega)).trans h

/-- append of one element that was laid into a block of its own, at a step of a region that draws its order -/
theorem step_append_one {P : Program} (w : World) {ops : Array Oper} {o : Oper} {a : Act} {K : Act → World → Prop} {Q : Exit → Act → World → Prop} {E : Prop} (hgd : o.guard = none) (s x u : Operand) (t : TypeId)
    (ho : o.op = .call { callee := .builtin .append, args := #[s, x], argTypes := #[t, t] })
    (base : Nat) (e : TypeId) (i : TypeInfo) (z : Value) (bytes : Nat) (ht : P.underlying t = some (.slice e)) (hi : P.info? e = some i) (hz : i.zero = some z)
    (hsize : i.size = 1) (hby : i.bytes = bytes) (hzs : z.cells.size = 1)
    (v : Value) (n : Nat) (xs : List Value) (hs : a.eval s = v) (hown : w.ownsRow base e 1 v n xs) {val : Value} (hu : a.eval u = val)
    {A : Addr} (hx : a.eval x = .slice (some A) 1 1) (hnews : ∀ j y, [val][j]? = some y → w.cell? (A.add j) = some y) (h1 : val.oneCell' = true)
    (nm : Nat) (hnm : n + 1 = nm) (h63 : n + 1 ≤ maxLen) (hbytes : (n + 1) * bytes ≤ 140737488355328) (hbase : base ≤ w.heap.size)
    (h : ∀ A' c' w', w'.ownsRow base e 1 (.slice A' nm c') nm (xs ++ [val]) → w.grownBy w' v.ownBlock → ((Value.slice A' nm c').ownBlock = v.ownBlock ∨ (Value.slice A' nm c').ownBlock = some w.heap.size) → K (a.put o.dst (.slice A' nm c')) w') :
    if Region.wanted o (yielded ops a.tmps) = true then Oper.wp P o a w K Q else E :=
  step_append_src w hgd s x t ho base e i z 1 bytes ht hi hz hsize hby hzs (by decide) v n xs hs hown (some A) 1 1 [val] hx rfl (fun h => by cases h) (fun a' ha j y hj => by injection ha with ha; subst ha; exact hnews j y hj) (fun y hy => by simp at hy; subst hy; exact h1) nm hnm h63 hbytes hbase h
end Go.Proofs.Ytcndbohiiodndaa
