import Derived.Test.YtcndbohiiodndaaFeedG
import Derived.Test.YtcndbohiiodndaaAway
open Go Go.RowKit
open Go.ChangeMaps (setBlock)
namespace Go.Proofs.Ytcndbohiiodndaa

theorem SetIs.own {w w1 : World} {r : Nat} {T : Item → Prop} {base size n : Nat} {e : TypeId} {v : Value} {xs : List Value} (h : SetIs w r T) (ho : w.ownsRow base e size v n xs) (hg : w.grownBy w1 v.ownBlock) : SetIs w1 r T := by
  refine h.same (hg.block _ h.lt fun e => ?_)
  obtain ⟨cs, T, fr, hb⟩ := own_block ho _ e.symm
  obtain ⟨l, ⟨es, clock, h3, _⟩, _⟩ := h
  rw [h3] at hb; cases hb
theorem SetIs.setCell {w : World} {r b i : Nat} {T : Item → Prop} {cs : Array Value} {ty : TypeId} {fr : Nat × Nat} (h : SetIs w r T) (hb : w.heap[b]? = some (.cells cs ty fr)) (v : Value) : SetIs (w.setCell ⟨b, i, none⟩ v) r T := by
  refine h.same (heap_set_ne (fun e => ?_) _ _)
  subst e
  obtain ⟨l, ⟨es, clock, h3, _⟩, _⟩ := h
  rw [h3] at hb; cases hb
section
variable {D : Nat → Prop} {bf lim : Nat} {g : Gram} {gd : List Bool} {x : List Int} {S : Nat → Item → Prop} {A : Option Addr} {cr : Nat} {B : Option Addr} {cg : Nat} {C : Option Addr} {cw : Nat} {E : Option Addr} {cs : Nat} {rs : List Nat}

/-- the word is laid in, the sets are not yet -/
structure Half (D : Nat → Prop) (w0 w : World) (bf lim : Nat) (g : Gram) (gd : List Bool) (x : List Int) (S : Nat → Item → Prop) (A : Option Addr) (cr : Nat) (B : Option Addr) (cg : Nat) (v : Value) (E : Option Addr) (cs : Nat) (rs : List Nat) (M : Nat) (T : Item → Prop) : Prop where
  blk : w.heap[bf]? = some (.cells #[.int .i64 g.terms, .int .i64 g.nons, .int .i64 g.start, .slice A g.rules.length cr, .slice B gd.length cg, v, .slice E rs.length cs] 110 (0, 0))
  away : Away w0.heap.size (fun b => b = bf ∨ (lim ≤ b ∧ D b)) w0 w
  word : w.ownsRow lim 3 1 v x.length (x.map (Value.int .i64))
  wordD : ∀ k, v.ownBlock = some k → D k ∨ w0.heap.size ≤ k
  sets : w.ownsRow lim 112 1 (.slice E rs.length cs) rs.length (rs.map fun r => Value.map (some r))
  maps : ∀ k (h : k < rs.length), SetIs w rs[k] (S k)
  new : SetIs w M T
  lt : w0.heap.size ≤ M

theorem FeedAt.blk1 {w w1 : World} {a : Value} (h : FeedAt D w bf lim g gd x S A cr B cg C cw E cs rs) (hg : (w.alloc (.cells #[a] 3)).grownBy w1 (Value.slice C x.length cw).ownBlock) :
    w1.heap[bf]? = some (.cells #[.int .i64 g.terms, .int .i64 g.nons, .int .i64 g.start, .slice A g.rules.length cr, .slice B gd.length cg, .slice C x.length cw, .slice E rs.length cs] 110 (0, 0)) := by
  have hbl := blk_lt h.blk
  have hlt2 := h.lt
  have hCb : ∀ k, (Value.slice C x.length cw).ownBlock = some k → lim ≤ k := own_base' h.word
  have hne : some bf ≠ (Value.slice C x.length cw).ownBlock := fun e => by have := hCb _ e.symm; omega
  exact (hg.block bf (by rw [World.size_alloc]; omega) hne).trans ((Below.heap_alloc _ _ _ hbl).trans h.blk)

theorem FeedAt.half {w0 w w1 : World} {M : Nat} {T : Item → Prop} {t : Int} {v : Value} {a : Value} (h0 : FeedAt D w0 bf lim g gd x S A cr B cg C cw E cs rs) (h : FeedAt D w bf lim g gd x S A cr B cg C cw E cs rs) (hb : Below w0.heap.size w0 w) (hM : SetIs w M T) (hlt : w0.heap.size ≤ M)
    (hown : w1.ownsRow lim 3 1 v (x.length + 1) (x.map (Value.int .i64) ++ [.int .i64 t])) (hg : (w.alloc (.cells #[a] 3)).grownBy w1 (Value.slice C x.length cw).ownBlock) (hat : v.ownBlock = (Value.slice C x.length cw).ownBlock ∨ v.ownBlock = some (w.heap.size + 1)) :
    Half D w0 (w1.setCell ⟨bf, 5, none⟩ v) bf lim g gd (x ++ [t]) S A cr B cg v E cs rs M T := by
  have hbl := blk_lt h.blk
  have hlt2 := h.lt
  have hle := h.le
  have hs1 := hg.size
  have hC : ∀ k, (Value.slice C x.length cw).ownBlock = some k → D k := by
    intro k hk
    cases C with
    | none => cases hk
    | some a =>
      have : a.block = k := by simpa [Value.ownBlock] using hk
      rw [← this]; exact h.wordD _ rfl
  have hwA := h.word.alloc (.cells #[a] 3)
  have hCb : ∀ k, (Value.slice C x.length cw).ownBlock = some k → lim ≤ k := own_base' h.word
  have hne : some bf ≠ (Value.slice C x.length cw).ownBlock := fun e => by have := hCb _ e.symm; omega
  have hblk1 : w1.heap[bf]? = some (.cells #[.int .i64 g.terms, .int .i64 g.nons, .int .i64 g.start, .slice A g.rules.length cr, .slice B gd.length cg, .slice C x.length cw, .slice E rs.length cs] 110 (0, 0)) :=
    (hg.block bf (by rw [World.size_alloc]; omega) hne).trans ((Below.heap_alloc _ _ _ hbl).trans h.blk)
  refine ⟨?_, ?_, ?_, ?_, ?_, ?_, ?_, hlt⟩
  · rw [heap_set hblk1]; rfl
  · refine ((Away.ofBelow hb).trans ((Away.ofBelow ((Below.refl _ _).alloc (show w0.heap.size ≤ w.heap.size from hb.size) _)).trans (Away.grown hg (by rw [World.size_alloc]; have := hb.size; omega) ?_))).trans (Away.setCell _ _ _ _ (.inl (.inl rfl)))
    intro k hk
    exact .inl (.inr ⟨hCb k hk, hC k hk⟩)
  · have := own_setCell (b := bf) (i := 5) hown hlt2 v
    simpa using this
  · intro k hk
    rcases hat with hat | hat
    · rw [hat] at hk; exact .inl (hC k hk)
    · rw [hat] at hk
      injection hk with hk
      have := hb.size
      exact .inr (by omega)
  · exact own_setCell (own_other (h.sets.alloc _) hwA (by decide) hg) hlt2 _
  · intro k hk
    exact (((h.maps k hk).1.same (Below.heap_alloc _ _ _ (h.maps k hk).1.lt)).own hwA hg).setCell hblk1 _
  · exact ((hM.same (Below.heap_alloc _ _ _ hM.lt)).own hwA hg).setCell hblk1 _

theorem Half.blk1 {w0 w w1 : World} {M : Nat} {T : Item → Prop} {v : Value} {a : Value} (h0 : FeedAt D w0 bf lim g gd x S A cr B cg C cw E cs rs) {t : Int} (h : Half D w0 w bf lim g gd (x ++ [t]) S A cr B cg v E cs rs M T) (hg : (w.alloc (.cells #[a] 112)).grownBy w1 (Value.slice E rs.length cs).ownBlock) :
    w1.heap[bf]? = some (.cells #[.int .i64 g.terms, .int .i64 g.nons, .int .i64 g.start, .slice A g.rules.length cr, .slice B gd.length cg, v, .slice E rs.length cs] 110 (0, 0)) := by
  have hbl := blk_lt h.blk
  have hlt2 := h0.lt
  have hEb : ∀ k, (Value.slice E rs.length cs).ownBlock = some k → lim ≤ k := own_base' h.sets
  have hne : some bf ≠ (Value.slice E rs.length cs).ownBlock := fun e => by have := hEb _ e.symm; omega
  exact (hg.block bf (by rw [World.size_alloc]; omega) hne).trans ((Below.heap_alloc _ _ _ hbl).trans h.blk)

theorem Half.full {w0 w w1 : World} {M : Nat} {T : Item → Prop} {v u : Value} {a : Value} (h0 : FeedAt D w0 bf lim g gd x S A cr B cg C cw E cs rs) {t : Int} (h : Half D w0 w bf lim g gd (x ++ [t]) S A cr B cg v E cs rs M T)
    (hown : w1.ownsRow lim 112 1 u (rs.length + 1) ((rs.map fun r => Value.map (some r)) ++ [.map (some M)])) (hg : (w.alloc (.cells #[a] 112)).grownBy w1 (Value.slice E rs.length cs).ownBlock) (hat : u.ownBlock = (Value.slice E rs.length cs).ownBlock ∨ u.ownBlock = some (w.heap.size + 1))
    (hT : ∀ y, T y → OkItem g (x.length + 1) y) :
    Away w0.heap.size (fun b => b = bf ∨ (lim ≤ b ∧ D b)) w0 (w1.setCell ⟨bf, 6, none⟩ u) ∧ ∃ C' cw' E' cs', v = .slice C' (x ++ [t]).length cw' ∧ u = .slice E' (rs ++ [M]).length cs' ∧
      FeedAt (fun b => D b ∨ w0.heap.size ≤ b) (w1.setCell ⟨bf, 6, none⟩ u) bf lim g gd (x ++ [t]) (updS S (x.length + 1) T) A cr B cg C' cw' E' cs' (rs ++ [M]) := by
  have hbl := blk_lt h.blk
  have hlt2 := h0.lt
  have hle := h0.le
  have hs1 := hg.size
  have hlen := h0.len
  have hE : ∀ k, (Value.slice E rs.length cs).ownBlock = some k → D k := by
    intro k hk
    cases E with
    | none => cases hk
    | some a =>
      have : a.block = k := by simpa [Value.ownBlock] using hk
      rw [← this]; exact h0.setsD _ rfl
  have hwA := h.sets.alloc (.cells #[a] 112)
  have hEb : ∀ k, (Value.slice E rs.length cs).ownBlock = some k → lim ≤ k := own_base' h.sets
  have hne : some bf ≠ (Value.slice E rs.length cs).ownBlock := fun e => by have := hEb _ e.symm; omega
  have hblk1 : w1.heap[bf]? = some (.cells #[.int .i64 g.terms, .int .i64 g.nons, .int .i64 g.start, .slice A g.rules.length cr, .slice B gd.length cg, v, .slice E rs.length cs] 110 (0, 0)) :=
    (hg.block bf (by rw [World.size_alloc]; omega) hne).trans ((Below.heap_alloc _ _ _ hbl).trans h.blk)
  have haw : Away w0.heap.size (fun b => b = bf ∨ (lim ≤ b ∧ D b)) w0 (w1.setCell ⟨bf, 6, none⟩ u) := by
    refine (h.away.trans ((Away.ofBelow ((Below.refl _ _).alloc h.away.size _)).trans (Away.grown hg (by rw [World.size_alloc]; have := h.away.size; omega) ?_))).trans (Away.setCell _ _ _ _ (.inl (.inl rfl)))
    intro k hk
    exact .inl (.inr ⟨hEb k hk, hE k hk⟩)
  refine ⟨haw, ?_⟩
  obtain ⟨C', cw', rfl⟩ := own_form h.word
  obtain ⟨E', cs', rfl⟩ := own_form hown
  have hown2 : w1.ownsRow lim 112 1 (.slice E' (rs ++ [M]).length cs') (rs ++ [M]).length ((rs ++ [M]).map fun r => Value.map (some r)) := by simpa using hown
  have hl2 : (rs ++ [M]).length = rs.length + 1 := by simp
  refine ⟨C', cw', E', cs', rfl, by rw [hl2], ?_⟩
  rw [← hl2]
  have hF : ∀ j, j < lim ∧ j ≠ bf → (w1.setCell ⟨bf, 6, none⟩ (.slice E' (rs ++ [M]).length cs')).heap[j]? = w0.heap[j]? := fun j hj => by
    rw [hl2]; exact haw.block j (by omega) (by rintro (h1 | ⟨h1, _⟩); exact hj.2 h1; omega)
  have hsz : w0.heap.size ≤ (w1.setCell ⟨bf, 6, none⟩ (.slice E' (rs ++ [M]).length cs')).heap.size := by
    rw [size_setCell]; have h5 := haw.size; rw [size_setCell] at h5; exact h5
  refine ⟨?_, hlt2, Nat.le_trans hle hsz, h0.rules.keep hF hsz, h0.good.keep hF hsz, h0.gdlen, ?_, ?_, own_setCell hown2 hlt2 _, ?_, by simp [hlen], ?_, ?_, ?_⟩
  · rw [heap_set hblk1]; rfl
  · exact own_setCell (own_other (h.word.alloc _) hwA (by decide) hg) hlt2 _
  · rintro a rfl
    exact h.wordD a.block rfl
  · rintro a rfl
    rcases hat with hat | hat
    · exact .inl (hE _ hat.symm)
    · injection hat with hat
      have := h.away.size
      exact .inr (by omega)
  · rw [List.nodup_append]
    refine ⟨h0.dist, by simp, ?_⟩
    intro a ha b hb e
    simp only [List.mem_singleton] at hb
    subst hb
    subst e
    obtain ⟨k, hk, rfl⟩ := List.getElem_of_mem ha
    have := (h0.maps k hk).1.lt
    have := h.lt
    omega
  · intro k hk
    by_cases e : k = x.length + 1
    · subst e
      rw [updS_same]
      have e2 : (rs ++ [M])[x.length + 1] = M := by simp [← hlen]
      rw [e2]
      refine ⟨((h.new.same (Below.heap_alloc _ _ _ h.new.lt)).own hwA hg).setCell hblk1 _, .inr h.lt, ?_⟩
      have := h.lt
      omega
    · have hk2 : k < rs.length := by rw [hl2] at hk; omega
      rw [updS_other _ _ _ e]
      have e2 : (rs ++ [M])[k] = rs[k] := by simp [hk2]
      rw [e2]
      exact ⟨(((h.maps k hk2).same (Below.heap_alloc _ _ _ (h.maps k hk2).lt)).own hwA hg).setCell hblk1 _, .inl (h0.maps k hk2).2.1, (h0.maps k hk2).2.2⟩
  · intro k y hk hy
    by_cases e : k = x.length + 1
    · subst e; rw [updS_same] at hy; exact hT y hy
    · rw [updS_other _ _ _ e] at hy
      exact h0.ok k y (by simp at hk; omega) hy
end
end Go.Proofs.Ytcndbohiiodndaa
