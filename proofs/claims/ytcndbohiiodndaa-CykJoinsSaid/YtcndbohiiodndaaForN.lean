import Derived.Test.YtcndbohiiodndaaForM
open Go Go.RowKit
namespace Go.Proofs.Ytcndbohiiodndaa

theorem ends_unique {g : Gram} {x : List Int} {M M' : List (List Nat)} (h : MShape g x M) (hs : Sound g x M) (hc : Closed g x M) (h' : MShape g x M') (hs' : Sound g x M') (hc' : Closed g x M') : M = M' := by
  have hl := h.len
  have hl' := h'.len
  have hlen : M.length = M'.length := by omega
  have he : ∀ n : Nat, ∀ i : Nat, entry M n i = entry M' n i := fun n i => by
    apply Nat.eq_of_testBit_eq
    intro j
    have a := ends_iff hs hc n (by omega) i j
    have b := ends_iff hs' hc' n (by omega) i j
    cases h1 : (entry M n i).testBit j <;> cases h2 : (entry M' n i).testBit j <;> simp_all
  apply List.ext_getElem hlen
  intro n h1 h2
  have r1 := h.row M[n] (by simp)
  have r2 := h'.row M'[n] (by simp)
  apply List.ext_getElem (by omega)
  intro i h3 h4
  have := he n i
  simpa [entry, List.getD_eq_getElem?_getD, h1, h2, h3, h4] using this

/-- the ends of a word -/
def IsM (g : Gram) (x : List Int) (M : List (List Nat)) : Prop := MShape g x M ∧ Sound g x M ∧ Closed g x M
theorem IsM.unique {g : Gram} {x : List Int} {M M' : List (List Nat)} (h : IsM g x M) (h' : IsM g x M') : M = M' := ends_unique h.1 h.2.1 h.2.2 h'.1 h'.2.1 h'.2.2

/-- what Of leaves -/
def OfEnd (w w' : World) (e : Ending) (g : Gram) (x : List Int) : Prop :=
  ∃ M N cn, IsM g x M ∧ e = .returned (.tuple #[.agg #[.slice N (madeF g x M).1.nodes.length cn, .int .i64 (madeF g x M).1.root], .int .i64 (madeF g x M).2]) ∧ Below w.heap.size w w' ∧ IsSl Elt.node (fun b => w.heap.size ≤ b) w' (.slice N (madeF g x M).1.nodes.length cn) (madeF g x M).1.nodes

section
variable {g : Gram} {x : List Int} {A : Option Addr} {c : Nat} {B : Option Addr} {d : Nat}

set_option maxRecDepth 100000 in
set_option maxHeartbeats 1600000 in
theorem of_any (F : Nat → Prop) (hv : Valid g) (hm : x.length ≤ 12) (w : World) (hc : g.rules.length ≤ c) (ho : OkWord g x)
    (hr : IsSl Elt.rule F w (.slice A g.rules.length c) g.rules) (hx : IsSl Elt.int F w (.slice B x.length d) x) :
    Calls Try.prog 65 #[gramV g (.slice A g.rules.length c), .slice B x.length d] w fun e w' => OfEnd w w' e g x := by
  unfold gramV
  go_enter Try.func65, Try.ntmps65
  go_wp2_with fail
  have hb2 : Below w.heap.size w ((w.alloc (.cells #[.int .i64 g.terms, .int .i64 g.nons, .int .i64 g.start, .slice A g.rules.length c] 25)).alloc (.cells #[.slice none 0 0, .int .i64 0] 101)) := ((Below.refl _ _).alloc (Nat.le_refl _) _).alloc (by rw [World.size_alloc]; omega) _
  have hacc := accepts_any F g A _ c x B _ d _ (hr.below hb2) hv hc (hx.below hb2) ho hm
  unfold gramV at hacc
  with_reducible refine hacc.mono ?_
  rintro e3 w3 ⟨whole, rfl, -, hb3⟩
  have hw2 : ((w.alloc (.cells #[.int .i64 g.terms, .int .i64 g.nons, .int .i64 g.start, .slice A g.rules.length c] 25)).alloc (.cells #[.slice none 0 0, .int .i64 0] 101)).heap[w.heap.size]? = some (.cells #[.int .i64 g.terms, .int .i64 g.nons, .int .i64 g.start, .slice A g.rules.length c] 25 (0, 0)) := by
    rw [Below.heap_alloc _ _ _ (by simp), heap_alloc_new]
  have hw3 : ((w.alloc (.cells #[.int .i64 g.terms, .int .i64 g.nons, .int .i64 g.start, .slice A g.rules.length c] 25)).alloc (.cells #[.slice none 0 0, .int .i64 0] 101)).heap[w.heap.size + 1]? = some (.cells #[.slice none 0 0, .int .i64 0] 101 (0, 0)) := by
    rw [show w.heap.size + 1 = (w.alloc (.cells #[.int .i64 g.terms, .int .i64 g.nons, .int .i64 g.start, .slice A g.rules.length c] 25)).heap.size by simp, heap_alloc_new]
  have hbx3 := blk_below hb3 (blk_lt hw2) hw2
  have hfo3 := blk_below hb3 (blk_lt hw3) hw3
  have hb3' : Below w.heap.size w w3 := hb2.trans (hb3.mono hb2.size)
  clear hw2 hw3 hb3 hacc hb2
  have k0 := blk_cell hbx3 (i := 0) rfl
  have k1 := blk_cell hbx3 (i := 1) rfl
  have k2 := blk_cell hbx3 (i := 2) rfl
  have k3 := blk_cell hbx3 (i := 3) rfl
  have hb4 : Below w.heap.size w (w3.alloc (.cells #[.int .i64 g.terms, .int .i64 g.nons, .int .i64 g.start, .slice A g.rules.length c, .slice B x.length d, .slice none 0 0, .map none, .int .i64 0] 189)) := hb3'.alloc hb3'.size _
  have hmk4 := heap_alloc_new w3 (.cells #[.int .i64 g.terms, .int .i64 g.nons, .int .i64 g.start, .slice A g.rules.length c, .slice B x.length d, .slice none 0 0, .map none, .int .i64 0] 189)
  have hfo4 := (Below.heap_alloc w3 (.cells #[.int .i64 g.terms, .int .i64 g.nons, .int .i64 g.start, .slice A g.rules.length c, .slice B x.length d, .slice none 0 0, .map none, .int .i64 0] 189) _ (blk_lt hfo3)).trans hfo3
  have hsz3 := blk_lt hfo3
  have hs3 := hb3'.size
  have hcl := close_any (bm := w3.heap.size) hv hm _ hmk4 (((hr.old.below hb4).weak fun b hb => by omega)) (((hx.old.below hb4).weak fun b hb => by omega))
  go_wp2_with fail
  with_reducible refine hcl.mono ?_
  rintro e5 w5 ⟨rfl, M, C, q, ha5, hmk5, hsh, hso, hcd⟩
  have hfo5 := (ha5.block _ (blk_lt hfo4) (by omega)).trans hfo4
  have hmd := maker_made_any hv hm hsh (sound_low hso) w5 hmk5
  clear k0 k1 k2 k3 hcl
  go_wp2_with fail
  with_reducible refine hmd.mono ?_
  rintro e6 w6 ⟨N, cn, rfl, ha6, hsl6⟩
  have hfo6 := (ha6.block _ (blk_lt hfo5) (by omega)).trans hfo5
  have ha46 : Away w.heap.size (fun b => b = w3.heap.size) w w6 := ((Away.ofBelow hb4).trans (ha5.mono hb4.size (fun _ _ h => h))).trans (ha6.mono (Nat.le_trans hb4.size ha5.size) (fun _ _ h => h))
  have hg0 : w6.frozen? ⟨w.heap.size + 1, 0, none⟩ = false := blk_free hfo6
  have hg1 : w6.frozen? ⟨w.heap.size + 1, 1, none⟩ = false := blk_free hfo6
  have hd0 := blk_cell hfo6 (i := 0) rfl
  have hd1 := blk_cell hfo6 (i := 1) rfl
  have hs56 := ha6.size
  have hs45 := ha5.size
  rw [World.size_alloc] at hs45
  have HFF := Lib.hid (show madeF g x M = madeF g x M from rfl)
  have hfin : ∀ u v, ((w6.setCell ⟨w.heap.size + 1, 0, none⟩ u).setCell ⟨w.heap.size + 1, 1, none⟩ v).heap[w.heap.size + 1]? = some (.cells #[u, v] 101 (0, 0)) := fun u v => by
    rw [heap_set (heap_set hfo6 _ _)]; rfl
  go_wp2_with fail
  refine bodyPost_ret (results_cell_tmp rfl rfl (run_loadVar_row _ (w.heap.size + 1) 101 101 #[.slice N (madeF g x M).1.nodes.length cn, .int .i64 (madeF g x M).1.root] (0, 0) _ (hfin _ _) Try.underlying101 rfl (by kernel_rfl))) rfl ?_
  refine ⟨M, N, cn, ⟨hsh, hso, hcd⟩, rfl, ?_, ?_⟩
  · exact (((ha46.below fun j hj => by omega).setCell (by show w.heap.size ≤ w.heap.size + 1; omega) _).setCell (by show w.heap.size ≤ w.heap.size + 1; omega) _)
  · exact (hsl6.keep (fun b hb => by rw [heap_set_ne (by omega), heap_set_ne (by omega)]) (by rw [size_setCell, size_setCell]; exact Nat.le_refl _)).weak fun b hb => by omega
end
end Go.Proofs.Ytcndbohiiodndaa
