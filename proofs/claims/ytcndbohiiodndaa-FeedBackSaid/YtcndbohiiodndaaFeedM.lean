import Derived.Test.YtcndbohiiodndaaForO
import Derived.Test.YtcndbohiiodndaaFeeds
open Go Go.RowKit
namespace Go.Proofs.Ytcndbohiiodndaa

/-- what the forest of a feed leaves, in the result's own cells -/
def FOut (w wx : World) (s3 : Value) (g : Gram) (x : List Int) : Prop :=
  ∃ M N cn, IsM g x M ∧ s3 = .int .i64 (madeF g x M).2 ∧ Below w.heap.size w wx ∧ wx.heap[w.heap.size]? = some (.cells #[.slice N (madeF g x M).1.nodes.length cn, .int .i64 (madeF g x M).1.root] 101 (0, 0)) ∧ IsSl Elt.node (fun b => w.heap.size ≤ b) wx (.slice N (madeF g x M).1.nodes.length cn) (madeF g x M).1.nodes

theorem fout {w WA wd w3 : World} {g : Gram} {x : List Int} {M : List (List Nat)} {N : Option Addr} {cn : Nat} (hb1 : Below w.heap.size w WA) (hd : Below (w.heap.size + 1) WA wd) (hsz : WA.heap.size = w.heap.size + 1) (hfo : WA.heap[w.heap.size]? = some (.cells #[.slice none 0 0, .int .i64 0] 101 (0, 0)))
    (hM : IsM g x M) (hb : Below wd.heap.size wd w3) (hs : IsSl Elt.node (fun b => wd.heap.size ≤ b) w3 (.slice N (madeF g x M).1.nodes.length cn) (madeF g x M).1.nodes) :
    FOut w ((w3.setCell ⟨w.heap.size, 0, none⟩ (.slice N (madeF g x M).1.nodes.length cn)).setCell ⟨w.heap.size, 1, none⟩ (.int .i64 (madeF g x M).1.root)) (.int .i64 (madeF g x M).2) g x := by
  have hds := hd.size
  have hb3 : Below (w.heap.size + 1) WA w3 := hd.trans (hb.mono (by omega))
  have hfo3 := blk_below hb3 (by omega) hfo
  refine ⟨M, N, cn, hM, rfl, (((hb1.trans (hb3.mono (by omega))).setCell (Nat.le_refl _) _).setCell (Nat.le_refl _) _), by rw [heap_set (heap_set hfo3 _ _)]; rfl, ?_⟩
  exact (hs.keep (fun b hb => by rw [heap_set_ne (by omega), heap_set_ne (by omega)]) (by rw [size_setCell, size_setCell]; exact Nat.le_refl _)).weak fun b hb => by omega

section
variable {D : Nat → Prop} {bf lim : Nat} {g : Gram} {gd : List Bool} {x : List Int} {S : Nat → Item → Prop} {A : Option Addr} {cr : Nat} {B : Option Addr} {cg : Nat} {C : Option Addr} {cw : Nat} {E : Option Addr} {cs : Nat} {rs : List Nat}

set_option maxRecDepth 100000 in
set_option maxHeartbeats 800000 in
theorem forestOf_any (w : World) (h : FeedAt D w bf lim g gd x S A cr B cg C cw E cs rs) (hv : Valid g) (hx : x.length ≤ 12) (ho : OkWord g x) (hcr : g.rules.length ≤ cr) :
    Calls Try.prog 63 #[.pointer (some ⟨bf, 0, none⟩)] w fun e w' => OfEnd w w' e g x := by
  have hsl := own_ints h.word
  have hlt := blk_lt h.blk
  go_enter Try.func63, Try.ntmps63
  go_wp2_with fail
  have hb1 : Below w.heap.size w (w.alloc (.cells #[.slice none 0 0, .int .i64 0] 101)) := (Below.refl _ _).alloc (Nat.le_refl _) _
  have hfo := heap_alloc_new w (.cells #[.slice none 0 0, .int .i64 0] 101)
  have hk1 := blk_below hb1 hlt h.blk
  have c0 := blk_cell hk1 (i := 0) rfl
  have c1 := blk_cell hk1 (i := 1) rfl
  have c2 := blk_cell hk1 (i := 2) rfl
  have c3 := blk_cell hk1 (i := 3) rfl
  have c5 := blk_cell hk1 (i := 5) rfl
  have hsz : (w.alloc (.cells #[.slice none 0 0, .int .i64 0] 101)).heap.size = w.heap.size + 1 := World.size_alloc _ _
  have hof : ∀ W : World, Below (w.heap.size + 1) (w.alloc (.cells #[.slice none 0 0, .int .i64 0] 101)) W → Calls Try.prog 65 #[gramV g (.slice A g.rules.length cr), .slice C x.length cw] W fun e w' => OfEnd W w' e g x := fun W hW =>
    of_any (fun _ => True) hv hx W hcr ho (((h.rules.below hb1).weak fun _ _ => trivial).below (hsz ▸ hW)) (((hsl.below hb1).weak fun _ _ => trivial).below (hsz ▸ hW))
  unfold gramV at hof
  generalize hWA : (w.alloc (.cells #[.slice none 0 0, .int .i64 0] 101)) = WA at hb1 hfo hk1 c0 c1 c2 c3 c5 hsz hof ⊢
  go_cut [3] (fun s3 wx => FOut w wx s3 g x)
  case first =>
    have hbd : ∀ k, Below (w.heap.size + 1) WA (WA.drewN k) := fun k => below_drewN (hsz ▸ Below.refl _ _) k
    go_region_law (first | (refine step_call rfl 65 Try.f65 Try.func65 (by kernel_rfl) (by kernel_rfl) [_, _] _ rfl [.agg #[.int .i64 g.terms, .int .i64 g.nons, .int .i64 g.start, .slice A g.rules.length cr], .slice C x.length cw] rfl _ (hof _ (hbd 1)) ?_; rintro e3 w3 ⟨M, N, cn, hM, rfl, hb3, hs3⟩; refine ⟨_, rfl, ?_⟩; have hfo3 := blk_below hb3 (blk_lt hfo) hfo; have hg0 : w3.frozen? ⟨w.heap.size, 0, none⟩ = false := blk_free hfo3; have hg1 : w3.frozen? ⟨w.heap.size, 1, none⟩ = false := blk_free hfo3; have hd0 := blk_cell hfo3 (i := 0) rfl; have hd1 := blk_cell hfo3 (i := 1) rfl))
    all_goals
      go_wp2_with fail
      go_meet
      exact fout hb1 (hbd 1) hsz hfo hM hb3 hs3
  case rest =>
  obtain ⟨M, N, cn, hM, rfl, hb, hk, hs⟩ := hcut
  go_wp2_with fail
  refine bodyPost_ret (results_cell_tmp rfl rfl (run_loadVar_row _ w.heap.size 101 101 #[.slice N (madeF g x M).1.nodes.length cn, .int .i64 (madeF g x M).1.root] (0, 0) _ hk Try.underlying101 rfl (by kernel_rfl))) rfl ?_
  exact ⟨M, N, cn, hM, rfl, hb, hs⟩
end

theorem forest_feed {D : Nat → Prop} {bf lim : Nat} {g : Gram} {gd : List Bool} {x : List Int} (w : World) (h : IsFeed D w bf lim g gd x) (hv : Valid g) (hx : x.length ≤ 12) (ho : OkWord g x) :
    Calls Try.prog 63 #[.pointer (some ⟨bf, 0, none⟩)] w fun e w' => OfEnd w w' e g x := by
  obtain ⟨hg, A, cr, B, cg, C, cw, E, cs, rs, hcr, h⟩ := h
  exact forestOf_any w h hv hx ho hcr
end Go.Proofs.Ytcndbohiiodndaa
