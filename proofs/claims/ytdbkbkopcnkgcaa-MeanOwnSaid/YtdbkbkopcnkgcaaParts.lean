import Derived.Test.YtdbkbkopcnkgcaaMeanD
import Derived.Test.YtdbkbkopcnkgcaaForMN
import Derived.Test.YtdbkbkopcnkgcaaCopy
import Derived.Test.YtdbkbkopcnkgcaaOwn
import Derived.Test.YtdbkbkopcnkgcaaWorld
import Derived.Test.YtdbkbkopcnkgcaaForO
open Go Go.RowKit
namespace Go.Proofs.Ytdbkbkopcnkgcaa

/-! ### parts of a word -/
theorem part_get {x : List Int} {i m k : Nat} (hk : k < m) : ((x.drop i).take m)[k]? = x[i + k]? := by
  rw [List.getElem?_take, if_pos hk, List.getElem?_drop]
theorem drv_up {g : Gram} {x : List Int} {i m : Nat} (him : i + m ≤ x.length) {l : List Sym} {a b : Nat} (h : Drv g ((x.drop i).take m) l a b) : Drv g x l (i + a) (i + b) := by
  have hl : ((x.drop i).take m).length = m := by rw [List.length_take, List.length_drop]; omega
  induction h with
  | nil a h => exact .nil _ (by omega)
  | @term t l a b h _ ih =>
    have := (List.getElem?_eq_some_iff.1 h).1
    exact .term (by rw [← part_get (m := m) (by omega)]; exact h) ih
  | non hr hn _ _ ih1 ih2 => exact .non hr hn ih1 ih2
theorem drv_down {g : Gram} {x : List Int} {i m : Nat} (him : i + m ≤ x.length) {l : List Sym} {p q : Nat} (h : Drv g x l p q) : i ≤ p → q ≤ i + m → Drv g ((x.drop i).take m) l (p - i) (q - i) := by
  have hl : ((x.drop i).take m).length = m := by rw [List.length_take, List.length_drop]; omega
  induction h with
  | nil p h => exact fun h1 h2 => .nil _ (by omega)
  | @term t l p q h hr ih =>
    intro h1 h2
    have hle := drv_le hr
    refine .term ?_ ?_
    · rw [part_get (by omega), show i + (p - i) = p by omega]; exact h
    · have := ih (by omega) h2
      rwa [show p + 1 - i = p - i + 1 by omega] at this
  | @non n l r p k q hr hn h1 h2 ih1 ih2 =>
    intro k1 k2
    have e1 := drv_le h1
    have e2 := drv_le h2
    exact .non hr hn (ih1 k1 (by omega)) (ih2 (by omega) k2)
theorem drv_part {g : Gram} {x : List Int} {i m : Nat} (him : i + m ≤ x.length) {l : List Sym} : Drv g ((x.drop i).take m) l 0 m ↔ Drv g x l i (i + m) :=
  ⟨fun h => drv_up him h, fun h => by have := drv_down him h (Nat.le_refl _) (Nat.le_refl _); rwa [Nat.sub_self, Nat.add_sub_cancel_left] at this⟩

theorem run_part_sl {P : Program} {t E : TypeId} (ht : P.underlying t = some (.slice E)) {size : Nat} (hz : ∀ w, (sizeOf E).run P w = .ok size w) {α : Type} {d : Elt α} (hd : d.sz = size) {F : Nat → Prop} {w0 : World} {A : Option Addr} {n c : Nat} {xs : List α} (h : IsSl d F w0 (.slice A n c) xs) (hc : n ≤ c) (i j : Nat) (hij : i ≤ j) (hj : j ≤ n) :
    ∃ A', (∀ w : World, (Instr.slice t (.slice A n c) (some (.int .i64 i)) (some (.int .i64 j)) none).run P w = .ok (.slice A' (j - i) (c - i)) w) ∧ IsSl d F w0 (.slice A' (j - i) (c - i)) ((xs.drop i).take (j - i)) := by
  obtain ⟨rfl, hn⟩ := h.len
  refine ⟨if c = i then A else A.map (·.add (i * size)), fun w => ?_, ?_⟩
  · have hjc : j ≤ c := by omega
    simp [Instr.slice, run_underlying ht, hz, Instr.sliceBounds, Instr.sliceBound, asIntOf, hjc, hij]
  · obtain ⟨A', c', he, hl, h⟩ := h
    injection he with h1 h2 h3
    subst h1
    refine ⟨_, c - i, by rw [List.length_take, List.length_drop, Nat.min_eq_left (by omega)], by rw [List.length_take, List.length_drop]; omega, fun k hk => ?_⟩
    rw [List.length_take, List.length_drop] at hk
    obtain ⟨b, o, rfl, hb, hlt, he⟩ := h (i + k) (by omega)
    rw [if_neg (by omega)]
    refine ⟨b, o + i * size, by simp [add_lit], hb, hlt, ?_⟩
    rw [List.getElem_take, List.getElem_drop, Nat.add_assoc, hd, ← Nat.add_mul, ← hd]
    exact he

/-- ends that hold just what is derived are the word's -/
theorem isM_of {g : Gram} {x : List Int} {M : List (List Nat)} (hv : Valid g) (hs : MShape g x M) (h : ∀ n i j, 0 ≤ n → ((entry M n i).testBit j = true ↔ Drv g x [⟨false, n⟩] i j)) : IsM g x M := by
  have hso : Sound g x M := fun n i j hn hb => (h n i j hn).1 hb
  refine ⟨hs, hso, fun r hr i hi j hj => ?_⟩
  have hok := hv.ok r hr
  have hsh : j ≤ x.length := seq_short (sound_short hso (entry_neg M)) r.r (2 ^ i) j (fun i' hi' => by
    rw [Nat.testBit_two_pow] at hi'
    have : i = i' := by simpa using hi'
    omega) hj
  obtain ⟨i', hi', hd⟩ := seq_drv hso r.r (fun y hy => (hok.syms y hy).n0) _ j hj hsh
  rw [Nat.testBit_two_pow] at hi'
  have : i = i' := by simpa using hi'
  subst this
  exact (h r.l i j hok.l0).2 (.non hr rfl hd (.nil _ hsh))

theorem drv_nons {g : Gram} {x : List Int} (hv : Valid g) {n : Int} {i j : Nat} (h : Drv g x [⟨false, n⟩] i j) : n < g.nons := by
  generalize hl : [(⟨false, n⟩ : Sym)] = l at h
  cases h with
  | nil => cases hl
  | term => injection hl with h1; injection h1 with h1; cases h1
  | non hr hn _ _ =>
    injection hl with h1
    injection h1 with _ h1
    subst h1
    have := (hv.ok _ hr).l1
    omega


/-! ### the ends of a word are there -/
open Classical in
noncomputable def bitsOf (f : Nat → Prop) : Nat → Nat
  | 0 => 0
  | k + 1 => if f k then bitsOf f k + 2 ^ k else bitsOf f k
theorem bitsOf_lt (f : Nat → Prop) : ∀ k, bitsOf f k < 2 ^ k
  | 0 => by unfold bitsOf; decide
  | k + 1 => by
    have := bitsOf_lt f k
    unfold bitsOf
    rw [Nat.pow_succ]
    split <;> omega
theorem bitsOf_bit (f : Nat → Prop) : ∀ k j, (bitsOf f k).testBit j = true ↔ j < k ∧ f j
  | 0, j => by unfold bitsOf; simp
  | k + 1, j => by
    have h1 := bitsOf_bit f k j
    have h2 := bitsOf_lt f k
    unfold bitsOf
    split
    · rename_i hf
      by_cases e : j = k
      · subst e
        rw [Nat.add_comm, Nat.testBit_two_pow_add_eq, Nat.testBit_lt_two_pow h2]
        exact ⟨fun _ => ⟨by omega, hf⟩, fun _ => rfl⟩
      · rcases Nat.lt_or_ge j k with h | h
        · rw [Nat.add_comm, Nat.testBit_two_pow_add_gt h, h1]
          exact ⟨fun ⟨_, h4⟩ => ⟨by omega, h4⟩, fun ⟨_, h4⟩ => ⟨h, h4⟩⟩
        · rw [Nat.testBit_lt_two_pow (show bitsOf f k + 2 ^ k < 2 ^ j by
            have := Nat.pow_le_pow_right (n := 2) (by omega) (show k + 1 ≤ j by omega)
            rw [Nat.pow_succ] at this
            omega)]
          exact ⟨fun h => (Bool.noConfusion h), fun ⟨h3, _⟩ => by omega⟩
    · rename_i hf
      rw [h1]
      exact ⟨fun ⟨h3, h4⟩ => ⟨by omega, h4⟩, fun ⟨h3, h4⟩ => ⟨by by_cases e : j = k; subst e; exact absurd h4 hf; omega, h4⟩⟩
noncomputable def matX (g : Gram) (x : List Int) : List (List Nat) := (List.range g.nons.toNat).map fun n : Nat => (List.range (x.length + 1)).map fun i => bitsOf (fun j => Drv g x [⟨false, (n : Int)⟩] i j) (x.length + 1)
theorem isM_ex {g : Gram} {x : List Int} (hv : Valid g) (hm : x.length ≤ 12) : ∃ M, IsM g x M := by
  have he : ∀ n i, entry (matX g x) n i = if n.toNat < g.nons.toNat ∧ i < x.length + 1 then bitsOf (fun j => Drv g x [⟨false, (n.toNat : Int)⟩] i j) (x.length + 1) else 0 := fun n i => by
    unfold entry matX
    rw [List.getD_eq_getElem?_getD, List.getD_eq_getElem?_getD]
    by_cases h1 : n.toNat < g.nons.toNat
    · by_cases h2 : i < x.length + 1
      · simp [h1, h2]
      · simp [h1, h2]
    · simp [h1]
  refine ⟨matX g x, isM_of hv ⟨?_, fun r hr => ?_, fun r hr v hv2 => ?_⟩ fun n i j hn => ?_⟩
  · have := hv.n1
    unfold matX
    rw [List.length_map, List.length_range]
    omega
  · unfold matX at hr; obtain ⟨n, _, rfl⟩ := List.mem_map.1 hr
    simp
  · unfold matX at hr; obtain ⟨n, _, rfl⟩ := List.mem_map.1 hr
    obtain ⟨i, _, rfl⟩ := List.mem_map.1 hv2
    exact Nat.lt_of_lt_of_le (bitsOf_lt _ _) (Nat.pow_le_pow_right (by omega) (by omega))
  · rw [he]
    rw [Int.toNat_of_nonneg hn]
    by_cases h : n.toNat < g.nons.toNat ∧ i < x.length + 1
    · rw [if_pos h, bitsOf_bit]
      exact ⟨fun h => h.2, fun h => ⟨by have := (drv_le h).2; omega, h⟩⟩
    · rw [if_neg h]
      refine ⟨fun h2 => by simp at h2, fun h2 => absurd ⟨?_, ?_⟩ h⟩
      · have := drv_nons hv h2; omega
      · have := drv_le h2; omega
end Go.Proofs.Ytdbkbkopcnkgcaa

open Go Go.RowKit
namespace Go.Proofs.Ytdbkbkopcnkgcaa

/-! ### rows of uint32 that a call has made -/
def rowV (r : Nat × List Nat) : Value := .slice (some ⟨r.1, 0, none⟩) r.2.length r.2.length
structure RowsAt (w : World) (base : Nat) (v : Value) (L : List (Nat × List Nat)) : Prop where
  own : w.ownsRow base 60 1 v L.length (L.map rowV)
  row : ∀ r ∈ L, base ≤ r.1 ∧ w.heap[r.1]? = some (.cells (r.2.map fun v : Nat => Value.int .u32 v).toArray 61 (0, 0)) ∧ r.2.length ≤ 9223372036854775807
  nodup : (L.map (·.1)).Nodup

section
variable {w w' : World} {base : Nat} {v v' : Value} {L : List (Nat × List Nat)}
theorem RowsAt.nil (w : World) (base : Nat) : RowsAt w base (.slice none 0 0) [] := ⟨World.ownsRow_nil _ _ _ _, (by intro r hr; cases hr), by simp⟩
theorem RowsAt.keep (h : RowsAt w base v L) (hk : ∀ b, base ≤ b → b < w.heap.size → w'.heap[b]? = w.heap[b]?) : RowsAt w' base v L :=
  ⟨own_same h.own fun k e => hk k (own_base' h.own k e) (own_lt h.own k e), fun r hr => ⟨(h.row r hr).1, (hk _ (h.row r hr).1 (blk_lt (h.row r hr).2.1)).trans (h.row r hr).2.1, (h.row r hr).2.2⟩, h.nodup⟩
theorem RowsAt.below (h : RowsAt w base v L) (hb : Below w.heap.size w w') : RowsAt w' base v L := h.keep fun b _ hlt => hb.block b hlt
theorem rows_own (h : w.ownsRow base 60 1 v L.length (L.map rowV)) {b : Nat} {cs : Array Value} (hb : w.heap[b]? = some (.cells cs 61 (0, 0))) : v.ownBlock ≠ some b := fun e => by
  obtain ⟨cs', h1, _⟩ := own_typed h b e
  rw [h1] at hb
  injection hb with hb
  injection hb with _ hb
  cases hb
theorem RowsAt.snoc (h : RowsAt w base v L) (hg : w.grownBy w' v.ownBlock) {rb : Nat} {R : List Nat} (hown : w'.ownsRow base 60 1 v' (L.length + 1) (L.map rowV ++ [rowV (rb, R)])) (hr : w.heap[rb]? = some (.cells (R.map fun v : Nat => Value.int .u32 v).toArray 61 (0, 0))) (hb : base ≤ rb) (hn : rb ∉ L.map (·.1)) (hl : R.length ≤ 9223372036854775807) : RowsAt w' base v' (L ++ [(rb, R)]) := by
  have hk : ∀ {b : Nat} {cs : Array Value}, w.heap[b]? = some (.cells cs 61 (0, 0)) → w'.heap[b]? = some (.cells cs 61 (0, 0)) := fun h1 => (hg.block _ (blk_lt h1) fun e => rows_own h.own h1 e.symm).trans h1
  refine ⟨by simpa using hown, fun r hr2 => ?_, ?_⟩
  · rcases List.mem_append.1 hr2 with hr2 | hr2
    · exact ⟨(h.row r hr2).1, hk (h.row r hr2).2.1, (h.row r hr2).2.2⟩
    · rw [List.mem_singleton] at hr2
      subst hr2
      exact ⟨hb, hk hr, hl⟩
  · rw [List.map_append, List.nodup_append]
    exact ⟨h.nodup, by simp, fun a ha b hb e => by simp at hb; subst hb; subst e; exact hn ha⟩
theorem RowsAt.isSl (h : RowsAt w base v L) : IsSl (Elt.sl Elt.u32) (fun b => base ≤ b) w v (L.map (·.2)) := by
  obtain ⟨A, c, rfl⟩ := own_form h.own
  refine ⟨A, c, by rw [List.length_map], by rw [List.length_map]; exact own_max h.own, fun k hk => ?_⟩
  rw [List.length_map] at hk
  obtain ⟨b, cap, he, hb1, hb2⟩ := h.own.form (by omega)
  injection he with he1 he2 he3
  subst he1
  have hx : (L.map rowV)[k]? = some (rowV L[k]) := by rw [List.getElem?_map, List.getElem?_eq_getElem hk]; rfl
  have k0 := h.own.cells (g := b) rfl _ _ hx
  rw [add_lit0] at k0
  have hr := h.row L[k] (List.getElem_mem hk)
  have e : (L.map (·.2))[k]'(by rw [List.length_map]; exact hk) = L[k].2 := by simp
  rw [e]
  refine ⟨b, 0, rfl, hb1, cell_lt k0, hb1, some ⟨L[k].1, 0, none⟩, L[k].2.length, ?_, Nat.le_refl _, ?_⟩
  · show w.cell? ⟨b, 0 + k * 1, none⟩ = _
    rw [Nat.zero_add, Nat.mul_one]; exact k0
  · exact sl_of_blk (enc := fun v : Nat => Value.int .u32 v) _ hr.1 hr.2.1 rfl hr.2.2
theorem RowsAt.cap {A : Option Addr} {n c : Nat} (h : RowsAt w base (.slice A n c) L) : n = L.length ∧ n ≤ c := by
  obtain ⟨A', c', e⟩ := own_form h.own
  injection e with e1 e2 e3
  subst e2
  exact ⟨rfl, own_cap h.own⟩
/-- a number of a row is written -/
theorem RowsAt.put (h : RowsAt w base v L) {k i : Nat} (hk : k < L.length) (u : Nat) : RowsAt (w.setCell ⟨L[k].1, i, none⟩ (.int .u32 u)) base v (L.set k (L[k].1, L[k].2.set i u)) := by
  have hr := h.row L[k] (List.getElem_mem hk)
  have hmap : (L.set k (L[k].1, L[k].2.set i u)).map (·.1) = L.map (·.1) := by
    refine List.ext_getElem? fun j => ?_
    rw [List.getElem?_map, List.getElem?_map, List.getElem?_set]
    by_cases e : k = j
    · subst e
      simp [hk]
    · simp [e]
  have hmap2 : (L.set k (L[k].1, L[k].2.set i u)).map rowV = L.map rowV := by
    refine List.ext_getElem? fun j => ?_
    rw [List.getElem?_map, List.getElem?_map, List.getElem?_set]
    by_cases e : k = j
    · subst e
      simp [hk, rowV]
    · simp [e]
  refine ⟨?_, fun r hr2 => ?_, by rw [hmap]; exact h.nodup⟩
  · rw [List.length_set, hmap2]
    refine own_same h.own fun g e => heap_set_ne (fun e2 => ?_) _ _
    subst e2
    exact rows_own h.own hr.2.1 e
  · obtain ⟨j, hj, rfl⟩ := List.getElem_of_mem hr2
    rw [List.length_set] at hj
    rw [List.getElem_set]
    by_cases e : k = j
    · subst e
      rw [if_pos rfl]
      refine ⟨hr.1, ?_, by simpa using hr.2.2⟩
      rw [heap_set hr.2.1]
      simp [List.map_set]
    · rw [if_neg e]
      have hj2 := h.row L[j] (List.getElem_mem hj)
      refine ⟨hj2.1, (heap_set_ne (fun e2 => ?_) _ _).trans hj2.2.1, hj2.2.2⟩
      have hnd := List.pairwise_iff_getElem.1 h.nodup
      rcases Nat.lt_or_ge k j with h1 | h1
      · exact hnd k j (by simpa using hk) (by simpa using hj) h1 (by simpa using e2.symm)
      · exact hnd j k (by simpa using hj) (by simpa using hk) (by omega) (by simpa using e2)
end
end Go.Proofs.Ytdbkbkopcnkgcaa

open Go Go.RowKit
namespace Go.Proofs.Ytdbkbkopcnkgcaa

/-! ### parlkeep3.parts: the ends of a word, by mean.Accepts -/
def startG (g : Gram) (n : Int) : Gram := ⟨g.terms, g.nons, n, g.rules⟩
theorem start_drv {g g' : Gram} (e : g'.rules = g.rules) {x : List Int} {l : List Sym} {i j : Nat} (h : Drv g x l i j) : Drv g' x l i j := by
  induction h with
  | nil i h => exact .nil i h
  | term h _ ih => exact .term h ih
  | non hr hn _ _ ih1 ih2 => exact .non (by rw [e]; exact hr) hn ih1 ih2
theorem start_valid {g : Gram} (hv : Valid g) {n : Int} (h0 : 0 ≤ n) (h1 : n < g.nons) : Valid (startG g n) := ⟨hv.t1, hv.t8, hv.n1, hv.n10, h0, h1, hv.len, fun r hr => ⟨(hv.ok r hr).l0, (hv.ok r hr).l1, (hv.ok r hr).len, fun s hs => ⟨((hv.ok r hr).syms s hs).n0, ((hv.ok r hr).syms s hs).nt, ((hv.ok r hr).syms s hs).nn⟩⟩, hv.nodup⟩

/-- a row, as far as it is filled -/
def rowR (M : List (List Nat)) (n m a j : Nat) : List Nat := (List.range m).map fun z => if z < a then entry M n z else if z = a then entry M n z % 2 ^ j else 0
theorem rowR_len {M : List (List Nat)} {n m a j : Nat} : (rowR M n m a j).length = m := by unfold rowR; simp
theorem rowR_get {M : List (List Nat)} {n m a j z : Nat} (h : z < m) : (rowR M n m a j)[z]? = some (if z < a then entry M n z else if z = a then entry M n z % 2 ^ j else 0) := by
  unfold rowR
  rw [List.getElem?_map, List.getElem?_range h]; rfl
theorem rowR_start {M : List (List Nat)} {n m : Nat} : rowR M n m 0 0 = List.replicate m 0 := by
  refine List.ext_getElem? fun z => ?_
  by_cases h : z < m
  · rw [rowR_get h, List.getElem?_replicate, if_pos h, if_neg (by omega)]
    split
    · rw [Nat.pow_zero, Nat.mod_one]
    · rfl
  · rw [List.getElem?_eq_none (by rw [rowR_len]; omega), List.getElem?_eq_none (by simp; omega)]
theorem mod_low {b a : Nat} (h : ∀ j, b.testBit j = true → a ≤ j) : b % 2 ^ a = 0 := by
  refine Nat.eq_of_testBit_eq fun j => ?_
  rw [Nat.testBit_mod_two_pow, Nat.zero_testBit]
  cases hb : b.testBit j
  · simp
  · have := h j hb
    simp; omega
theorem mod_high {b a : Nat} (h : ∀ j, b.testBit j = true → j < a) : b % 2 ^ a = b := by
  refine Nat.eq_of_testBit_eq fun j => ?_
  rw [Nat.testBit_mod_two_pow]
  cases hb : b.testBit j
  · simp
  · have := h j hb
    simp; omega
theorem rowR_next {M : List (List Nat)} {n m a : Nat} (hlow : MLow M) (hshort : ∀ i j, (entry M n i).testBit j = true → j < m) : rowR M n m a m = rowR M n m (a + 1) (a + 1) := by
  refine List.ext_getElem? fun z => ?_
  by_cases h : z < m
  · rw [rowR_get h, rowR_get h]
    congr 1
    by_cases h1 : z < a
    · rw [if_pos h1, if_pos (by omega)]
    · by_cases h2 : z = a
      · rw [if_neg h1, if_pos h2, if_pos (by omega), mod_high fun j hj => hshort z j hj]
      · rw [if_neg h1, if_neg h2, if_neg (by omega)]
        by_cases h3 : z = a + 1
        · rw [if_pos h3, mod_low fun j hj => by have := hlow n z j hj; omega]
        · rw [if_neg h3]
  · rw [List.getElem?_eq_none (by rw [rowR_len]; omega), List.getElem?_eq_none (by rw [rowR_len]; omega)]
theorem mod_step (b j : Nat) : b % 2 ^ (j + 1) = if b.testBit j = true then b % 2 ^ j ||| 2 ^ j else b % 2 ^ j := by
  refine Nat.eq_of_testBit_eq fun k => ?_
  rw [Nat.testBit_mod_two_pow]
  split
  · rename_i h
    rw [Nat.testBit_or, Nat.testBit_mod_two_pow, Nat.testBit_two_pow]
    by_cases e : j = k
    · subst e; simp [h]
    · have : k < j + 1 ↔ k < j := by omega
      simp [this, e]
  · rename_i h
    rw [Nat.testBit_mod_two_pow]
    by_cases e : j = k
    · subst e
      have h : b.testBit j = false := by simpa using h
      simp [h]
    · have : k < j + 1 ↔ k < j := by omega
      simp [this]
theorem rowR_yes {M : List (List Nat)} {n m a j : Nat} (ha : a < m) (hb : (entry M n a).testBit j = true) : (rowR M n m a j).set a (entry M n a % 2 ^ j ||| 2 ^ j) = rowR M n m a (j + 1) := by
  refine List.ext_getElem? fun z => ?_
  rw [List.getElem?_set, rowR_len]
  by_cases h : z < m
  · rw [rowR_get h, rowR_get h]
    by_cases e : a = z
    · subst e
      rw [if_pos rfl, if_pos ha, if_neg (by omega), if_pos rfl, mod_step, if_pos hb]
    · rw [if_neg e]
      congr 1
      by_cases h1 : z < a
      · rw [if_pos h1, if_pos h1]
      · rw [if_neg h1, if_neg h1, if_neg (by omega), if_neg (by omega)]
  · rw [if_neg (by omega), List.getElem?_eq_none (by rw [rowR_len]; omega), List.getElem?_eq_none (by rw [rowR_len]; omega)]
theorem rowR_no {M : List (List Nat)} {n m a j : Nat} (hb : (entry M n a).testBit j = false) : rowR M n m a (j + 1) = rowR M n m a j := by
  refine List.ext_getElem? fun z => ?_
  by_cases h : z < m
  · rw [rowR_get h, rowR_get h]
    congr 1
    by_cases h1 : z < a
    · rw [if_pos h1, if_pos h1]
    · by_cases h2 : z = a
      · subst h2
        rw [if_neg h1, if_neg h1, if_pos rfl, if_pos rfl, mod_step, if_neg (by rw [hb]; simp)]
      · rw [if_neg h1, if_neg h1, if_neg h2, if_neg h2]
  · rw [List.getElem?_eq_none (by rw [rowR_len]; omega), List.getElem?_eq_none (by rw [rowR_len]; omega)]
theorem rowR_full {g : Gram} {x : List Int} {M : List (List Nat)} {n : Nat} (hs : MShape g x M) (hn : n < M.length) : rowR M n (x.length + 1) (x.length + 1) (x.length + 1) = M[n] := by
  have hl := hs.row M[n] (List.getElem_mem hn)
  refine List.ext_getElem? fun z => ?_
  by_cases h : z < x.length + 1
  · rw [rowR_get h, if_pos h, List.getElem?_eq_getElem (by omega)]
    simp [entry, List.getD_eq_getElem?_getD, hn, show z < M[n].length by omega]
  · rw [List.getElem?_eq_none (by rw [rowR_len]; omega), List.getElem?_eq_none (by omega)]

set_option maxRecDepth 100000 in
set_option maxHeartbeats 3200000 in
theorem parts_any (F : Nat → Prop) {g : Gram} {x : List Int} {M : List (List Nat)} {A : Option Addr} {c : Nat} {B : Option Addr} {d : Nat} (hv : Valid g) (hx12 : x.length ≤ 12) (hM : IsM g x M) (w : World) (_hc : g.rules.length ≤ c) (hd : x.length ≤ d) (ho : OkWord g x)
    (hr : IsSl Elt.rule F w (.slice A g.rules.length c) g.rules) (hx : IsSl Elt.int F w (.slice B x.length d) x) :
    Calls Try.prog 28 #[gramV g (.slice A g.rules.length c), .slice B x.length d] w fun e w' => ∃ A' c' L, e = .returned (.slice A' M.length c') ∧ Below w.heap.size w w' ∧ RowsAt w' (w.heap.size + 1) (.slice A' M.length c') L ∧ L.map (·.2) = M := by
  obtain ⟨N, hN⟩ : ∃ N : Nat, g.nons = N := ⟨g.nons.toNat, by have := hv.n1; omega⟩
  have hN10 : N ≤ 10 := by have := hv.n10; omega
  have hML : M.length = N := by have := hM.1.len; omega
  have hlow := sound_low hM.2.1
  have hshort : Short x M := sound_short hM.2.1 (entry_neg M)
  have hmk2 := run_make_row' (P := Try.prog) 60 61 (.int .u32 0) 4 Try.underlying60 Try.infoU32 rfl .i64 .i64 (x.length + 1) (by omega) (by omega)
  simp only [Int.natCast_add, Int.natCast_one] at hmk2
  obtain ⟨ir, hir, hr0, hr2, hr3⟩ := info_parts Try.infoU32s
  have hb0 := below1 w (.cells #[.int .i64 g.terms, .int .i64 g.nons, .int .i64 g.start, .slice A g.rules.length c] 25)
  have hg0 := heap_alloc_new w (.cells #[.int .i64 g.terms, .int .i64 g.nons, .int .i64 g.start, .slice A g.rules.length c] 25)
  have hsz0 := World.size_alloc w (.cells #[.int .i64 g.terms, .int .i64 g.nons, .int .i64 g.start, .slice A g.rules.length c] 25)
  have k1 := blk_cell hg0 (i := 1) rfl
  simp only [List.getElem_toArray, List.getElem_cons_succ, List.getElem_cons_zero] at k1
  unfold gramV
  rw [hN] at hb0 hg0 hsz0 k1 ⊢
  have HR := Lib.hid hr
  have HX := Lib.hid hx
  have HM := Lib.hid hM
  clear hr hx
  go_enter Try.func28, Try.ntmps28
  go_wp2_with fail
  clear k1
  generalize w.alloc (.cells #[.int .i64 g.terms, .int .i64 N, .int .i64 g.start, .slice A g.rules.length c] 25) = w0 at hb0 hg0 hsz0 ⊢
  go_loopg [5, 15] N (fun gk so i wr => ∃ (n : Nat) (L : List (Nat × List Nat)), n ≤ N ∧ gk = N - n ∧ i = .int .i64 n ∧ Below w.heap.size w wr ∧ w.heap.size + 1 ≤ wr.heap.size ∧ wr.heap[w.heap.size]? = some (.cells #[.int .i64 g.terms, .int .i64 N, .int .i64 g.start, .slice A g.rules.length c] 25 (0, 0)) ∧ RowsAt wr (w.heap.size + 1) so L ∧ L.map (·.2) = M.take n)
  case atStart => exact ⟨0, [], by omega, by omega, rfl, hb0, by omega, hg0, RowsAt.nil _ _, rfl⟩
  case round =>
    clear hb0 hg0 hsz0
    obtain ⟨n, L, hn, rfl, rfl, hb, hsz, hg, hL, hLM⟩ := hrel
    obtain ⟨Av, cv, rfl⟩ := own_form hL.own
    obtain ⟨wo, rfl⟩ : ∃ wo : World, wo = wr := ⟨_, rfl⟩
    have hLl : L.length = n := by have := congrArg List.length hLM; rw [List.length_map, List.length_take] at this; omega
    by_cases hlt : n < N
    · have hnz : (n : Int) < (N : Int) := by omega
      have k0 := blk_cell hg (i := 0) rfl
      have k1 := blk_cell hg (i := 1) rfl
      have k2 := blk_cell hg (i := 2) rfl
      have k3 := blk_cell hg (i := 3) rfl
      have hcp := copyOf_any F g A c wo (HR.out.below hb) hv
      unfold gramV at hcp
      rw [hN] at hcp
      go_wp2_with fail
      refine hcp.mono ?_
      rintro e2 w2 ⟨A2, c2, rfl, hb2, hcap2, hs2⟩
      clear k0 k1 k2 k3 hcp
      go_wp2_with fail
      have hb2' := below2 w2 (.cells #[.int .i64 g.terms, .int .i64 N, .int .i64 n, .slice A2 g.rules.length c2] 25) (.cells (madeCells #[.int .u32 0] (x.length + 1)) 61)
      have hg5 := blk_new1 (w := w2) rfl (.cells #[.int .i64 g.terms, .int .i64 N, .int .i64 n, .slice A2 g.rules.length c2] 25) (.cells (madeCells #[.int .u32 0] (x.length + 1)) 61)
      have hr5 := blk_new' (w := w2.alloc (.cells #[.int .i64 g.terms, .int .i64 N, .int .i64 n, .slice A2 g.rules.length c2] 25)) (a := w2.heap.size + 1) (World.size_alloc _ _) (.cells (madeCells #[.int .u32 0] (x.length + 1)) 61)
      replace hr5 : ((w2.alloc (.cells #[.int .i64 g.terms, .int .i64 N, .int .i64 n, .slice A2 g.rules.length c2] 25)).alloc (.cells (madeCells #[.int .u32 0] (x.length + 1)) 61)).heap[w2.heap.size + 1]? = some (.cells ((rowR M n (x.length + 1) 0 0).map fun v : Nat => Value.int .u32 v).toArray 61 (0, 0)) := by rw [hr5, made_one, rowR_start, List.map_replicate]; rfl
      have hs5 := (hs2.old.below hb2').weak (G := fun b => b < w2.heap.size) fun _ h => h.2
      have hsz5 : ((w2.alloc (.cells #[.int .i64 g.terms, .int .i64 N, .int .i64 n, .slice A2 g.rules.length c2] 25)).alloc (.cells (madeCells #[.int .u32 0] (x.length + 1)) 61)).heap.size = w2.heap.size + 2 := by rw [World.size_alloc, World.size_alloc]
      have hbo : Below wo.heap.size wo ((w2.alloc (.cells #[.int .i64 g.terms, .int .i64 N, .int .i64 n, .slice A2 g.rules.length c2] 25)).alloc (.cells (madeCells #[.int .u32 0] (x.length + 1)) 61)) := hb2.trans (hb2'.mono hb2.size)
      have hso := hb2.size
      generalize (w2.alloc (.cells #[.int .i64 g.terms, .int .i64 N, .int .i64 n, .slice A2 g.rules.length c2] 25)).alloc (.cells (madeCells #[.int .u32 0] (x.length + 1)) 61) = W5 at hb2' hg5 hr5 hs5 hsz5 hbo ⊢
      have HS5 := Lib.hid hs5
      have HL := Lib.hid hL
      have HB := Lib.hid hb
      have HBO := Lib.hid hbo
      have HG := Lib.hid hg
      have hLM' := hLM
      clear hs5 hs2 hL hb hb2 hb2' hbo hg
      generalize w2.heap.size = bh at HS5 hg5 hr5 hsz5 hso ⊢
      clear w2
      go_loopg [28] (x.length + 1) (fun gk i wr => ∃ a : Nat, a ≤ x.length + 1 ∧ gk = x.length + 1 - a ∧ i = .int .i64 a ∧ Away W5.heap.size (fun b => b = bh + 1) W5 wr ∧ wr.heap[bh + 1]? = some (.cells ((rowR M n (x.length + 1) a a).map fun v : Nat => Value.int .u32 v).toArray 61 (0, 0)))
      case atStart => exact ⟨0, by omega, by omega, rfl, Away.refl _ _ _, hr5⟩
      case round =>
        clear hr5
        obtain ⟨a, ha, rfl, rfl, haw, hrow⟩ := hrel
        obtain ⟨wi, rfl⟩ : ∃ wi : World, wi = wr := ⟨_, rfl⟩
        by_cases hlt2 : a < x.length + 1
        · have haz : (a : Int) < (x.length : Int) + 1 := by omega
          go_wp2_with fail
          go_loopg [10] (x.length + 1 - a) (fun gk jv wr => ∃ j : Nat, a ≤ j ∧ j ≤ x.length + 1 ∧ gk = x.length + 1 - j ∧ jv = .int .i64 j ∧ Away W5.heap.size (fun b => b = bh + 1) W5 wr ∧ wr.heap[bh + 1]? = some (.cells ((rowR M n (x.length + 1) a j).map fun v : Nat => Value.int .u32 v).toArray 61 (0, 0)))
          case atStart => exact ⟨a, Nat.le_refl _, by omega, rfl, rfl, haw, hrow⟩
          case round =>
            clear haw hrow
            obtain ⟨j, haj, hj, rfl, rfl, haw, hrow⟩ := hrel
            obtain ⟨wj, rfl⟩ : ∃ wj : World, wj = wr := ⟨_, rfl⟩
            by_cases hlt3 : j < x.length + 1
            · have hjz : (j : Int) ≤ (x.length : Int) := by omega
              have hajz : (a : Int) ≤ (j : Int) := by omega
              have hgj := (haw.block bh (by omega) (by omega)).trans hg5
              have k0 := cell_behind (blk_cell hgj (i := 0) rfl)
              have k1 := cell_behind (blk_cell hgj (i := 1) rfl)
              have k2 := cell_behind (blk_cell hgj (i := 2) rfl)
              have k3 := cell_behind (blk_cell hgj (i := 3) rfl)
              have hxj : IsSl Elt.int (fun _ => True) wj (.slice B x.length d) x := (HX.out.old.keep (fun b hb => (haw.block b (by have := HB.out.size; omega) (by have := HB.out.size; omega)).trans ((HBO.out.block b (by have := HB.out.size; omega)).trans (HB.out.block b hb.2))) (by have := haw.size; have := HB.out.size; omega)).weak fun _ _ => trivial
              have hsj : IsSl Elt.rule (fun _ => True) wj (.slice A2 g.rules.length c2) g.rules := (HS5.out.keep (fun b hb => haw.block b (by omega) (by omega)) haw.size).weak fun _ _ => trivial
              obtain ⟨A7, hsl, hx7⟩ := run_part_sl (P := Try.prog) (size := 1) Try.underlying22 Try.sizeOf3 rfl hxj hd a j haj (by omega)
              have hvn : Valid (startG g n) := start_valid hv (by omega) (by omega)
              have hsub : ((x.drop a).take (j - a)).length = j - a := by rw [List.length_take, List.length_drop]; omega
              have hokn : OkWord (startG g n) ((x.drop a).take (j - a)) := fun t ht => ho t (List.mem_of_mem_drop (List.mem_of_mem_take ht))
              have hbit : (entry M n a).testBit j = true ↔ Drv (startG g n) ((x.drop a).take (j - a)) [⟨false, (startG g n).start⟩] 0 ((x.drop a).take (j - a)).length := by
                rw [ends_iff HM.out.2.1 HM.out.2.2 n (by omega), hsub]
                have hp : Drv g ((x.drop a).take (j - a)) [⟨false, (n : Int)⟩] 0 (j - a) ↔ Drv g x [⟨false, (n : Int)⟩] a (a + (j - a)) := drv_part (by omega)
                rw [show a + (j - a) = j by omega] at hp
                rw [← hp]
                exact ⟨fun h => start_drv (g := g) (g' := startG g n) rfl h, fun h => start_drv (g := startG g n) (g' := g) rfl h⟩
              have hacc : ∀ P : Behind wj, Calls Try.prog 60 #[.agg #[.int .i64 g.terms, .int .i64 N, .int .i64 n, .slice A2 g.rules.length c2], .slice A7 (j - a) (d - a)] P.w' fun e w' => e = .returned (.tuple #[.bool ((entry M n a).testBit j), .int .i64 0]) ∧ Below P.w'.heap.size P.w' w' := fun P => by
                have h := accepts_any (fun _ => True) (startG g n) A2 _ c2 ((x.drop a).take (j - a)) A7 _ (d - a) P.w' (hsj.below P.h) hvn hcap2 (hx7.below P.h) hokn (by rw [hsub]; omega)
                unfold gramV at h
                have h' : (startG g n).nons = N := hN
                rw [h'] at h
                refine h.mono ?_
                rintro e w' ⟨b, rfl, hb, hbl⟩
                have e : b = (entry M n a).testBit j := Bool.eq_iff_iff.2 (hb.trans hbit.symm)
                rw [e]
                exact ⟨rfl, hbl⟩
              have hcall := fun P : Behind wj => Calls.behind (hacc P)
              have HCALL := Lib.hid hcall
              clear hcall hacc hbit hokn hvn hx7 hsj hxj
              have hyes := rowR_yes (M := M) (n := n) (m := x.length + 1) (a := a) (j := j) hlt2
              have hno := rowR_no (M := M) (n := n) (m := x.length + 1) (a := a) (j := j)
              have he32 : entry M n a % 2 ^ j < 2 ^ 32 := Nat.lt_of_lt_of_le (Nat.mod_lt _ (Nat.two_pow_pos j)) (Nat.pow_le_pow_right (by omega) (by omega))
              have hcell : wj.cell? ⟨bh + 1, a, none⟩ = some (.int .u32 (entry M n a % 2 ^ j : Nat)) := blk_cell hrow (by rw [List.getElem?_toArray, List.getElem?_map, rowR_get hlt2, if_neg (by omega), if_pos rfl]; rfl)
              cases hb : (entry M n a).testBit j
              · rw [hb] at HCALL
                have HNO := Lib.hid (hno hb)
                clear hno hyes hb
                go_wp2_with fail
                refine wp_region_behind (by kernel_rfl) (by kernel_rfl) ?_
                repeat (go_big_quiet_step ((with_reducible exact HCALL.out _)))
                refine wpQuiet_nil ?_
                intro _ hw'
                obtain ⟨P2, hw''⟩ := hw'
                subst hw''
                have hbP := P2.h
                have haw2 := haw.trans (Away.ofBelow (F := fun b => b = bh + 1) (hbP.mono haw.size))
                have hrow2 := blk_below hbP (blk_lt hrow) hrow
                go_wp2_with fail
                go_roundg (x.length + 1 - (j + 1))
                case measure => omega
                case rel => exact ⟨j + 1, by omega, by omega, rfl, by go_num, haw2, by rw [HNO.out]; exact hrow2⟩
              · rw [hb] at HCALL
                have HYES := Lib.hid (hyes hb)
                clear hno hyes hb
                go_wp2_with fail
                refine wp_region_behind (by kernel_rfl) (by kernel_rfl) ?_
                repeat (go_big_quiet_step ((with_reducible exact HCALL.out _)))
                refine wpQuiet_nil ?_
                intro _ hw'
                obtain ⟨P2, hw''⟩ := hw'
                subst hw''
                have hbP := P2.h
                have haw2 := haw.trans (Away.ofBelow (F := fun b => b = bh + 1) (hbP.mono haw.size))
                have hrow2 := blk_below hbP (blk_lt hrow) hrow
                have hcell2 := cell_behind hcell P2
                clear hrow hcell hbP haw k0 k1 k2 k3 HCALL
                generalize P2.w' = w7 at haw2 hrow2 hcell2 ⊢
                have hf7 : w7.frozen? ⟨bh + 1, a, none⟩ = false := blk_free hrow2
                have hpl : 2 ^ j < 2 ^ 32 := pow_lt13 (by omega)
                have hpw := pow_mod13 (k := j) (by omega)
                have hor := u32_or_nat (entry M n a % 2 ^ j) (2 ^ j) he32 hpl
                have hset := fun q => heap_set (w := w7.drewN q) (b := bh + 1) hrow2 a (.int .u32 ((entry M n a % 2 ^ j ||| 2 ^ j : Nat) : Int))
                have hrow3 : ∀ q, ((w7.drewN q).setCell ⟨bh + 1, a, none⟩ (.int .u32 ((entry M n a % 2 ^ j ||| 2 ^ j : Nat) : Int))).heap[bh + 1]? = some (.cells ((rowR M n (x.length + 1) a (j + 1)).map fun v : Nat => Value.int .u32 v).toArray 61 (0, 0)) := fun q => by rw [hset q, ← HYES.out]; simp [List.map_set]
                have haw3 : ∀ q, Away W5.heap.size (fun b => b = bh + 1) W5 ((w7.drewN q).setCell ⟨bh + 1, a, none⟩ (.int .u32 ((entry M n a % 2 ^ j ||| 2 ^ j : Nat) : Int))) := fun q => (haw2.trans (Away.ofBelow (below_drewN (Below.refl _ _) q))).trans (Away.setCell _ (bh + 1) a _ (.inl rfl))
                have HR3 := Lib.hid hrow3
                have HA3 := Lib.hid haw3
                clear hset hrow3 haw3 hrow2 haw2 HYES
                generalize entry M n a % 2 ^ j ||| 2 ^ j = vv at hor HR3 HA3
                generalize entry M n a % 2 ^ j = cc at hor hcell2 he32
                generalize 2 ^ j = pp at hor hpl hpw
                go_wp2_with fail
                go_region
                go_wp2_with fail
                go_roundg (x.length + 1 - (j + 1))
                case measure => omega
                case rel => exact ⟨j + 1, by omega, by omega, rfl, by go_num, HA3.out 1, HR3.out 1⟩
            · obtain rfl : j = x.length + 1 := by omega
              have hjz : ¬ (((x.length + 1 : Nat) : Int) ≤ (x.length : Int)) := by omega
              go_wp2_with fail
              go_roundg (x.length + 1 - (a + 1))
              case measure => omega
              case rel => exact ⟨a + 1, by omega, rfl, by go_num, haw, by rw [← rowR_next hlow fun i j h => by have := hshort n i j h; omega]; exact hrow⟩
        · obtain rfl : a = x.length + 1 := by omega
          have haz : ¬ (((x.length + 1 : Nat) : Int) < (x.length : Int) + 1) := by omega
          rw [rowR_full HM.out.1 (by omega)] at hrow
          have hMl := HM.out.1.row M[n] (List.getElem_mem (by omega))
          have hLw : RowsAt wi (w.heap.size + 1) (.slice Av n cv) L := by
            have h1 : RowsAt wo (w.heap.size + 1) (.slice Av n cv) L := by rw [← hLl]; exact HL.out
            exact h1.keep fun b hb1 hb2 => (haw.block b (by omega) (by omega)).trans (HBO.out.block b hb2)
          have hrow2 := (Below.heap_alloc wi (.cells #[.slice (some ⟨bh + 1, 0, none⟩) (x.length + 1) (x.length + 1)] 60) _ (blk_lt hrow)).trans hrow
          have hLA := hLw.below (below1 wi (.cells #[.slice (some ⟨bh + 1, 0, none⟩) (x.length + 1) (x.length + 1)] 60))
          have hownA := hLA.own
          rw [hLl] at hownA
          have hszw := haw.size
          have hszA := World.size_alloc wi (.cells #[.slice (some ⟨bh + 1, 0, none⟩) (x.length + 1) (x.length + 1)] 60)
          have hwiB : Below w.heap.size w wi := ((Away.ofBelow (F := fun _ => False) (HB.out.trans (HBO.out.mono HB.out.size))).trans (haw.mono (by have := HB.out.size; have := HBO.out.size; omega) fun b hb h => by have := HB.out.size; omega)).below fun _ _ h => h
          have hgw := (haw.block w.heap.size (by omega) (by omega)).trans ((HBO.out.block _ (by omega)).trans HG.out)
          have HOWN := Lib.hid hownA
          have HLA := Lib.hid hLA
          have HR2 := Lib.hid hrow2
          have HML2 := Lib.hid hMl
          clear hLw hLA hownA hrow hrow2 hMl
          go_wp2_with (first | (at_builtin; refine wpList_append_src _ rfl (.tmp 57) (.tmp 59) 57 rfl (w.heap.size + 1) 60 ir (.slice none 0 0) 1 24 Try.underlying57 hir hr0 hr2 hr3 rfl (by decide) _ n (L.map rowV) rfl HOWN.out (some ⟨wi.heap.size, 0, none⟩) 1 1 [.slice (some ⟨bh + 1, 0, none⟩) (x.length + 1) (x.length + 1)] rfl rfl ?c1 ?c2 ?c3 ?c4 ?c5 ?c6 ?_))
          case c3 => first | rfl | (intro u hu; simp at hu; subst hu; rfl)
          case c4 => unfold maxLen; omega
          case c5 => omega
          case c6 => omega
          intro v' w9 hown9 hg9 _
          have hrv : rowV (bh + 1, M[n]) = .slice (some ⟨bh + 1, 0, none⟩) (x.length + 1) (x.length + 1) := by unfold rowV; rw [HML2.out]
          have hnin : bh + 1 ∉ L.map (·.1) := fun h => by
            obtain ⟨r, hr, e⟩ := List.mem_map.1 h
            have := blk_lt (HL.out.row r hr).2.1
            omega
          have hL9 : RowsAt w9 (w.heap.size + 1) v' (L ++ [(bh + 1, M[n])]) := HLA.out.snoc hg9 (by rw [hLl, hrv]; exact hown9) HR2.out (by omega) hnin (by rw [HML2.out]; omega)
          have hw9 : Below w.heap.size w w9 := (hwiB.alloc hwiB.size _).grown hg9 (by rw [hszA]; have := hwiB.size; omega) (fun k hk => by have := own_base' HOWN.out k hk; omega)
          have hg10 : w9.heap[w.heap.size]? = some (.cells #[.int .i64 g.terms, .int .i64 N, .int .i64 g.start, .slice A g.rules.length c] 25 (0, 0)) := (hg9.block _ (by omega) (fun e => by have := own_base' HOWN.out _ e.symm; omega)).trans ((Below.heap_alloc wi _ _ (by omega)).trans hgw)
          have hsz9 := hg9.size
          go_wp2_with fail
          go_roundg (N - (n + 1))
          case measure => omega
          case rel => exact ⟨n + 1, L ++ [(bh + 1, M[n])], by omega, rfl, by go_num, hw9, by omega, hg10, hL9, by rw [List.map_append, hLM', List.take_succ_eq_append_getElem (by omega)]; rfl⟩
    · obtain rfl : n = N := by omega
      have hfin : L.map (·.2) = M := by rw [hLM, ← hML, List.take_length]
      have e : M.length = n := hML
      have HE := Lib.hid e
      have HL := Lib.hid hL
      clear hL hLM e hML
      go_wp2_with fail
      go_ret
      have hE2 : M.length = L.length := HE.out.trans hLl.symm
      exact ⟨Av, cv, L, by rw [hE2]; rfl, hb, by rw [hE2]; exact HL.out, hfin⟩
end Go.Proofs.Ytdbkbkopcnkgcaa
