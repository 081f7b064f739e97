import Derived.Test.YtdbkbkopcnkgcaaForK
import Derived.Test.YtdbkbkopcnkgcaaMade
import Derived.Test.YtdbkbkopcnkgcaaBits
open Go Go.RowKit
open Go.ChangeMaps (setBlock)
namespace Go.Proofs.Ytdbkbkopcnkgcaa

section
variable {bm : Nat} {g : Gram} {x : List Int} {M : List (List Nat)} {A : Option Addr} {c : Nat} {B : Option Addr} {d : Nat} {C : Option Addr} {q : Nat}

/-- what made leaves -/
def MEnd (w w' : World) (bm : Nat) (e : Ending) (r : ForD × Int) : Prop := ∃ N cn, e = .returned (.tuple #[.agg #[.slice N r.1.nodes.length cn, .int .i64 r.1.root], .int .i64 r.2]) ∧ Away w.heap.size (fun b => b = bm) w w' ∧ IsSl Elt.node (fun b => w.heap.size ≤ b) w' (.slice N r.1.nodes.length cn) r.1.nodes

set_option maxRecDepth 100000 in
set_option maxHeartbeats 800000 in
theorem maker_made_any (hv : Valid g) (hxl : x.length ≤ 12) (hsh : MShape g x M) (hlow : MLow M) (w : World) (hs : MkAt (fun b => b ≠ bm) w bm g x M A c B d C q (.map none) 0) :
    Calls Try.prog 62 #[.pointer (some ⟨bm, 0, none⟩)] w fun e w' => MEnd w w' bm e (madeF g x M) := by
  have hbm := blk_lt hs.blk
  have hbA : Below w.heap.size w (w.alloc (.cells #[.slice none 0 0, .int .i64 0] 30)) := (Below.refl _ _).alloc (Nat.le_refl _) _
  have hfo := heap_alloc_new w (.cells #[.slice none 0 0, .int .i64 0] 30)
  have hs1 := hs.below hbA
  have hk2 := blk_cell hs1.blk (i := 2) rfl
  have hk4 := blk_cell hs1.blk (i := 4) rfl
  have hk5 := blk_cell hs1.blk (i := 5) rfl
  have hs0 := hv.s0
  have hs1' := hv.s1
  have hMl : (M.length : Int) = g.nons := hsh.len
  go_enter Try.func62, Try.ntmps62
  go_wp2_with fail
  go_region
  have hbB : Below w.heap.size w ((w.alloc (.cells #[.slice none 0 0, .int .i64 0] 30)).alloc (.cells #[.bool false, .int .i64 g.start, .int .i64 0, .int .i64 x.length] 177)).drew := ((hbA.alloc hbA.size _)).drew
  have hfo2 : ((w.alloc (.cells #[.slice none 0 0, .int .i64 0] 30)).alloc (.cells #[.bool false, .int .i64 g.start, .int .i64 0, .int .i64 x.length] 177)).drew.heap[w.heap.size]? = some (.cells #[.slice none 0 0, .int .i64 0] 30) := by
    rw [drew_heap, Below.heap_alloc _ _ _ (by simp), heap_alloc_new]
  have hbx2 : ((w.alloc (.cells #[.slice none 0 0, .int .i64 0] 30)).alloc (.cells #[.bool false, .int .i64 g.start, .int .i64 0, .int .i64 x.length] 177)).drew.heap[w.heap.size + 1]? = some (.cells #[.bool false, .int .i64 g.start, .int .i64 0, .int .i64 x.length] 177) := by
    rw [drew_heap, show w.heap.size + 1 = (w.alloc (.cells #[.slice none 0 0, .int .i64 0] 30)).heap.size by simp, heap_alloc_new]
  generalize ((w.alloc (.cells #[.slice none 0 0, .int .i64 0] 30)).alloc (.cells #[.bool false, .int .i64 g.start, .int .i64 0, .int .i64 x.length] 177)).drew = W2 at hbB hfo2 hbx2 ⊢
  clear hk2 hk4 hk5 hfo hs1 hbA
  have hs2 := hs.below hbB
  obtain ⟨b, o, rfl, hF, hl2, A2, c2, hc6, hro⟩ := hs2.mat.rowAt g.start.toNat (by omega)
  have hrl := hsh.row M[g.start.toNat] (by simp)
  obtain ⟨b3, o3, rfl, hF3, hl3, hc7⟩ := hro.oneAt 0 (by omega)
  have hen : entry M g.start 0 = M[g.start.toNat][0] := by simp [entry, List.getD_eq_getElem?_getD, List.getElem?_eq_getElem (show g.start.toNat < M.length by omega), List.getElem?_eq_getElem (show 0 < M[g.start.toNat].length by omega)]
  have hlt32 := entry_lt hsh g.start 0
  rw [← hen] at hc7
  have q2 := cell_behind (blk_cell hs2.blk (i := 2) rfl)
  have q4 := cell_behind (blk_cell hs2.blk (i := 4) rfl)
  have q5 := cell_behind (blk_cell hs2.blk (i := 5) rfl)
  have q6 := cell_behind hc6
  have q7 := cell_behind hc7
  have hrl0 : 0 < M[g.start.toNat].length := by omega
  have hstz : g.start < (M.length : Int) := by omega
  simp only [Nat.add_zero] at q7
  clear hen
  have hbt := bit_test (entry M g.start 0) x.length hlt32
  cases hbit : (entry M g.start 0).testBit x.length
  · rw [hbit] at hbt
    have HMF := Lib.hid (show madeF g x M = (⟨[], -1⟩, 0) by unfold madeF; rw [if_pos hbit])
    clear hbit
    go_wp2_with fail
    refine wp_region_behind (by kernel_rfl) (by kernel_rfl) ?_
    repeat (go_big_quiet_step (fail))
    refine wpQuiet_nil ?_
    intro _ hw'
    obtain ⟨P2, hw''⟩ := hw'
    subst hw''
    have hbP := P2.h
    generalize P2.w' = W3 at hbP ⊢
    clear q2 q4 q5 q6 q7 hbt
    have hfo3 := blk_below hbP (blk_lt hfo2) hfo2
    have hf0 : W3.frozen? ⟨w.heap.size, 0, none⟩ = false := blk_free hfo3
    have hf1 : W3.frozen? ⟨w.heap.size, 1, none⟩ = false := blk_free hfo3
    have hc0 := blk_cell hfo3 (i := 0) rfl
    have hc1 := blk_cell hfo3 (i := 1) rfl
    have hb3 := hbB.trans (hbP.mono hbB.size)
    have hfin : ((W3.setCell ⟨w.heap.size, 0, none⟩ (.slice none 0 0)).setCell ⟨w.heap.size, 1, none⟩ (.int .i64 (-1))).heap[w.heap.size]? = some (.cells #[.slice none 0 0, .int .i64 (-1)] 30 (0, 0)) := by
      rw [heap_set (heap_set hfo3 _ _)]; rfl
    go_wp2_with fail
    refine bodyPost_ret (results_cell_tmp rfl rfl (run_loadVar_row _ w.heap.size 30 30 #[.slice none 0 0, .int .i64 (-1)] (0, 0) _ hfin Try.underlying30 rfl (by kernel_rfl))) rfl ?_
    rw [HMF.out]
    exact ⟨none, 0, rfl, (Away.ofBelow ((hb3.setCell (Nat.le_refl _) _).setCell (Nat.le_refl _) _)), none, 0, rfl, by simp, fun k hk => absurd hk (by simp)⟩
  · rw [hbit] at hbt
    obtain ⟨s, hrs, hok⟩ := reach_root (M := M) hv hxl
    have hmf : madeF g x M = if maxPacks < s.many then (⟨[], 0⟩, 2) else (forestF s (rootF g x), 0) := by unfold madeF; rw [if_neg (by rw [hbit]; simp), hrs]
    have HMF := Lib.hid hmf
    clear hbit hmf
    go_wp2_with fail
    refine wp_region_behind (by kernel_rfl) (by kernel_rfl) ?_
    repeat (go_big_quiet_step (fail))
    refine wpQuiet_nil ?_
    intro _ hw'
    obtain ⟨P2, hw''⟩ := hw'
    subst hw''
    have hbP := P2.h
    generalize P2.w' = W3 at hbP ⊢
    clear q2 q4 q5 q6 q7 hbt hro hc6 hc7
    have hfo3 := blk_below hbP (blk_lt hfo2) hfo2
    have hbx3 := blk_below hbP (blk_lt hbx2) hbx2
    have hb3 : Below w.heap.size w W3 := hbB.trans (hbP.mono hbB.size)
    have hs3 := hs.below hb3
    have hx3 := blk_lt hbx3
    have hmm : (Instr.makeMap 107 none).run Try.prog W3 = .ok (.map (some W3.heap.size)) (W3.alloc (.map #[] 0)) := rfl
    have hk6 : (W3.alloc (.map #[] 0)).cell? ⟨bm, 6, none⟩ = some (.map none) := cell_alloc_old (blk_cell hs3.blk (i := 6) rfl) _
    have hf6 : (W3.alloc (.map #[] 0)).frozen? ⟨bm, 6, none⟩ = false := blk_free ((Below.heap_alloc _ _ _ (blk_lt hs3.blk)).trans hs3.blk)
    have hbm3 := blk_lt hs3.blk
    have hk4 : ∀ b, b ≠ bm → b < W3.heap.size → ((W3.setCell ⟨bm, 6, none⟩ (.map (some W3.heap.size))).alloc (.map #[] 0)).heap[b]? = W3.heap[b]? := fun b hb hl => (Below.heap_alloc _ _ _ (by rw [size_setCell]; exact hl)).trans (heap_set_ne hb _ _)
    have hle4 : W3.heap.size ≤ ((W3.setCell ⟨bm, 6, none⟩ (.map (some W3.heap.size))).alloc (.map #[] 0)).heap.size := by rw [World.size_alloc, size_setCell]; omega
    have hR : RAt ((W3.setCell ⟨bm, 6, none⟩ (.map (some W3.heap.size))).alloc (.map #[] 0)) bm W3.heap.size g x M A c B d (some ⟨b, o, none⟩) q ⟨[], 0⟩ := by
      have hap : ∀ {α : Type} {e : Elt α} {u : Value} {l : List α}, IsSl e (fun b => b ≠ bm) W3 u l → IsSl e (fun b => b ≠ bm ∧ b ≠ W3.heap.size) ((W3.setCell ⟨bm, 6, none⟩ (.map (some W3.heap.size))).alloc (.map #[] 0)) u l := fun h => (h.old.keep (fun b hb => hk4 b hb.1 hb.2) hle4).weak fun b hb => ⟨hb.1, by omega⟩
      refine ⟨by omega, ⟨?_, hap hs3.rules, hap hs3.word, hap hs3.mat⟩, ⟨[], ?_, rfl, by simp [alook]⟩, by simp⟩
      · rw [Below.heap_alloc _ _ _ (by rw [size_setCell]; exact hbm3), heap_set hs3.blk]; rfl
      · have := IsMap.new partV hdrV (W3.setCell ⟨bm, 6, none⟩ (.map (some W3.heap.size)))
        rw [size_setCell] at this
        exact this
    have hbx4 : ((W3.setCell ⟨bm, 6, none⟩ (.map (some W3.heap.size))).alloc (.map #[] 0)).heap[w.heap.size + 1]? = _ := (hk4 _ (by omega) hx3).trans hbx3
    have hfo4 : ((W3.setCell ⟨bm, 6, none⟩ (.map (some W3.heap.size))).alloc (.map #[] 0)).heap[w.heap.size]? = _ := (hk4 _ (by omega) (blk_lt hfo3)).trans hfo3
    have ha4 : Away w.heap.size (fun b => b = bm) w ((W3.setCell ⟨bm, 6, none⟩ (.map (some W3.heap.size))).alloc (.map #[] 0)) := ((Away.ofBelow hb3).trans (Away.setCell (F := fun b => b = bm) W3 bm 6 (.map (some W3.heap.size)) (.inl rfl))).trans (Away.ofBelow ((Below.refl _ _).alloc (by rw [size_setCell]; exact hb3.size) _))
    have v0 := blk_cell hbx4 (i := 0) rfl
    have v1 := blk_cell hbx4 (i := 1) rfl
    have v2 := blk_cell hbx4 (i := 2) rfl
    have v3 := blk_cell hbx4 (i := 3) rfl
    have hreach := reach_any (A := A) (c := c) (B := B) (d := d) (C := some ⟨b, o, none⟩) (q := q) (bm := bm) (r := W3.heap.size) hv hxl hsh hlow 4000 (rootF g x) ⟨[], 0⟩ s _ hrs (root_ok hv) hR
    unfold partV rootF at hreach
    rw [show ((0 : Nat) : Int) = 0 from rfl] at hreach
    clear hk4 hbx3 hfo3
    go_wp2_with fail
    with_reducible refine hreach.mono ?_
    rintro e5 w5 ⟨rfl, hs5, ha5⟩
    have hF5 : ∀ b, b < W3.heap.size → b ≠ bm → ¬ (b = bm ∨ b = W3.heap.size) := fun b h1 h2 => by omega
    have hfo5 := (ha5.block _ (blk_lt hfo4) (hF5 _ (by omega) (by omega))).trans hfo4
    have hbx5 := (ha5.block _ (blk_lt hbx4) (hF5 _ (by omega) (by omega))).trans hbx4
    have hk7 := blk_cell hs5.mker.blk (i := 7) rfl
    have hf0 : w5.frozen? ⟨w.heap.size, 0, none⟩ = false := blk_free hfo5
    have hf1 : w5.frozen? ⟨w.heap.size, 1, none⟩ = false := blk_free hfo5
    have hc0 := blk_cell hfo5 (i := 0) rfl
    have hc1 := blk_cell hfo5 (i := 1) rfl
    have ha6 : Away w.heap.size (fun b => b = bm) w w5 := ha4.trans (ha5.mono (Nat.le_trans hb3.size hle4) (fun j hj e => by rcases e with e | e; exact e; omega))
    have u0 := blk_cell hbx5 (i := 0) rfl
    have u1 := blk_cell hbx5 (i := 1) rfl
    have u2 := blk_cell hbx5 (i := 2) rfl
    have u3 := blk_cell hbx5 (i := 3) rfl
    clear v0 v1 v2 v3 hreach hk6 hf6 hmm
    by_cases hgt : maxPacks < s.many
    · have hgz : (20000 : Int) < (s.many : Int) := by unfold maxPacks at hgt; omega
      have HGT := Lib.hid hgt
      clear hgt
      have hfin : ((w5.setCell ⟨w.heap.size, 0, none⟩ (.slice none 0 0)).setCell ⟨w.heap.size, 1, none⟩ (.int .i64 0)).heap[w.heap.size]? = some (.cells #[.slice none 0 0, .int .i64 0] 30 (0, 0)) := by
        rw [heap_set (heap_set hfo5 _ _)]; rfl
      go_wp2_with fail
      refine bodyPost_ret (results_cell_tmp rfl rfl (run_loadVar_row _ w.heap.size 30 30 #[.slice none 0 0, .int .i64 0] (0, 0) _ hfin Try.underlying30 rfl (by kernel_rfl))) rfl ?_
      rw [HMF.out, if_pos HGT.out]
      exact ⟨none, 0, rfl, (ha6.trans (Away.setCell _ _ _ _ (.inr (Nat.le_refl _)))).trans (Away.setCell _ _ _ _ (.inr (Nat.le_refl _))), none, 0, rfl, by simp, fun k hk => absurd hk (by simp)⟩
    · have hgz : decide ((20000 : Int) < (s.many : Int)) = false := by unfold maxPacks at hgt; simp; omega
      have HGT := Lib.hid hgt
      clear hgt
      have hfor := forest_any (rootF g x) w5 hs5 hok.ne hok.ok hok.len hok.wys
      unfold partV rootF at hfor
      rw [show ((0 : Nat) : Int) = 0 from rfl] at hfor
      go_wp2_with fail
      with_reducible refine hfor.mono ?_
      rintro e7 w7 ⟨N, cn, rfl, hb7, hsl7⟩
      have hfo7 := blk_below hb7 (blk_lt hfo5) hfo5
      have hg0 : w7.frozen? ⟨w.heap.size, 0, none⟩ = false := blk_free hfo7
      have hg1 : w7.frozen? ⟨w.heap.size, 1, none⟩ = false := blk_free hfo7
      have hd0 := blk_cell hfo7 (i := 0) rfl
      have hd1 := blk_cell hfo7 (i := 1) rfl
      have hws5 : w.heap.size < w5.heap.size := blk_lt hfo5
      have HFF := Lib.hid (show forestF s (rootF g x) = forestF s ⟨⟨false, g.start⟩, 0, x.length⟩ from rfl)
      generalize forestF s ⟨⟨false, g.start⟩, 0, x.length⟩ = fd at hsl7 HFF ⊢
      have hfin : ((w7.setCell ⟨w.heap.size, 0, none⟩ (.slice N fd.nodes.length cn)).setCell ⟨w.heap.size, 1, none⟩ (.int .i64 fd.root)).heap[w.heap.size]? = some (.cells #[.slice N fd.nodes.length cn, .int .i64 fd.root] 30 (0, 0)) := by
        rw [heap_set (heap_set hfo7 _ _)]; rfl
      go_wp2_with fail
      refine bodyPost_ret (results_cell_tmp rfl rfl (run_loadVar_row _ w.heap.size 30 30 #[.slice N fd.nodes.length cn, .int .i64 fd.root] (0, 0) _ hfin Try.underlying30 rfl (by kernel_rfl))) rfl ?_
      rw [HMF.out, if_neg HGT.out, HFF.out]
      refine ⟨N, cn, rfl, ((ha6.trans ((Away.ofBelow hb7).mono ha6.size (fun _ _ h => h))).trans (Away.setCell _ _ _ _ (.inr (Nat.le_refl _)))).trans (Away.setCell _ _ _ _ (.inr (Nat.le_refl _))), ?_⟩
      exact (hsl7.keep (fun b hb => by rw [heap_set_ne (by omega), heap_set_ne (by omega)]) (by rw [size_setCell, size_setCell]; exact Nat.le_refl _)).weak fun b hb => by omega
end
end Go.Proofs.Ytdbkbkopcnkgcaa
