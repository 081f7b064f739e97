import Derived.Test.YtdbkbkopcnkgcaaGreatMakeW
open Go Go.RowKit
namespace Go.Proofs.YtdbkbkopcnkgcaaGreat

theorem results_cell_tmp {fn : Func} {t u : Tmp} {T : TypeId} {tmps : Array Value} {P : Program} {w : World} {b : Addr} {v : Value} (h : fn.results = #[.cell t T, .tmp u]) (hp : tmps.getD t undef = .pointer (some b)) (hl : (loadVar T b).run P w = .ok v w) : (results fn tmps).run P w = .ok (.tuple #[v, tmps.getD u undef]) w := by
  rw [Array.getD_eq_getD_getElem?] at hp
  simp [results, h, hp, asAddr, hl]

/-- its rules are rows of their own, and the word lies behind them -/
def MadeOwn (w w' : World) (g : Gram) (A : Option Addr) (c : Nat) (x : List Int) (C : Option Addr) (cx : Nat) : Prop :=
  ∃ base mid xs, w.heap.size < base ∧ mid ≤ w'.heap.size ∧ OwnRules w' base (.slice A g.rules.length c) g.rules xs ∧ IsSl Elt.rule (fun b => b < mid) w' (.slice A g.rules.length c) g.rules ∧ IsSl Elt.int (fun b => mid ≤ b) w' (.slice C x.length cx) x

/-- what made leaves -/
structure Made (w w' : World) (g : Gram) (A : Option Addr) (c : Nat) (x : List Int) (C : Option Addr) (cx most : Nat) : Prop where
  small : Small g
  below : Below w.heap.size w w'
  cap : g.rules.length ≤ c
  rules : IsSl Elt.rule (fun b => w.heap.size ≤ b) w' (.slice A g.rules.length c) g.rules
  most : x.length ≤ most
  terms : ∀ t ∈ x, 0 ≤ t ∧ t < g.terms
  capx : x.length ≤ cx
  word : IsSl Elt.int (fun b => w.heap.size ≤ b) w' (.slice C x.length cx) x
  own : MadeOwn w w' g A c x C cx

theorem made_end {w w3 : World} {t n s : Int} {v : Value} {α β : Type} {d : Elt α} {d2 : Elt β} {u u2 : Value} {xs : List α} {ys : List β} (hk3 : w3.heap[w.heap.size]? = some (.cells #[.int .i64 0, .int .i64 0, .int .i64 0, .slice none 0 0] 25 (0, 0))) (hb : Below w.heap.size w w3)
    (hx : IsSl d (fun b => w.heap.size + 1 ≤ b) w3 u xs) (hy : IsSl d2 (fun b => w.heap.size + 1 ≤ b) w3 u2 ys) :
    ((((w3.setCell ⟨w.heap.size, 0, none⟩ (.int .i64 t)).setCell ⟨w.heap.size, 1, none⟩ (.int .i64 n)).setCell ⟨w.heap.size, 2, none⟩ (.int .i64 s)).setCell ⟨w.heap.size, 3, none⟩ v).heap[w.heap.size]? = some (.cells #[.int .i64 t, .int .i64 n, .int .i64 s, v] 25 (0, 0)) ∧
    Below w.heap.size w ((((w3.setCell ⟨w.heap.size, 0, none⟩ (.int .i64 t)).setCell ⟨w.heap.size, 1, none⟩ (.int .i64 n)).setCell ⟨w.heap.size, 2, none⟩ (.int .i64 s)).setCell ⟨w.heap.size, 3, none⟩ v) ∧
    IsSl d (fun b => w.heap.size ≤ b) ((((w3.setCell ⟨w.heap.size, 0, none⟩ (.int .i64 t)).setCell ⟨w.heap.size, 1, none⟩ (.int .i64 n)).setCell ⟨w.heap.size, 2, none⟩ (.int .i64 s)).setCell ⟨w.heap.size, 3, none⟩ v) u xs ∧
    IsSl d2 (fun b => w.heap.size ≤ b) ((((w3.setCell ⟨w.heap.size, 0, none⟩ (.int .i64 t)).setCell ⟨w.heap.size, 1, none⟩ (.int .i64 n)).setCell ⟨w.heap.size, 2, none⟩ (.int .i64 s)).setCell ⟨w.heap.size, 3, none⟩ v) u2 ys := by
  have hk : ∀ j, w.heap.size + 1 ≤ j → ((((w3.setCell ⟨w.heap.size, 0, none⟩ (.int .i64 t)).setCell ⟨w.heap.size, 1, none⟩ (.int .i64 n)).setCell ⟨w.heap.size, 2, none⟩ (.int .i64 s)).setCell ⟨w.heap.size, 3, none⟩ v).heap[j]? = w3.heap[j]? := fun j hj => by
    rw [heap_set_ne (by omega), heap_set_ne (by omega), heap_set_ne (by omega), heap_set_ne (by omega)]
  refine ⟨?_, (((hb.setCell (Nat.le_refl _) _).setCell (Nat.le_refl _) _).setCell (Nat.le_refl _) _).setCell (Nat.le_refl _) _, (hx.keep hk ?_).weak (fun j hj => by omega), (hy.keep hk ?_).weak (fun j hj => by omega)⟩
  · rw [heap_set (heap_set (heap_set (heap_set hk3 _ _) _ _) _ _)]; rfl
  · simp only [size_setCell]; exact Nat.le_refl _
  · simp only [size_setCell]; exact Nat.le_refl _

set_option maxRecDepth 100000 in
set_option maxHeartbeats 1600000 in
theorem made_any (F F2 : Nat → Prop) (l l2 : List Int) (A : Option Addr) (n c : Nat) (A2 : Option Addr) (n2 c2 most : Nat) (w : World) (hl : IsSl Elt.int F w (.slice A n c) l) (hl2 : IsSl Elt.int F2 w (.slice A2 n2 c2) l2) (hnc : n ≤ c) (hm : most ≤ 100) :
    Calls Tryz.prog 4 #[.slice A n c, .slice A2 n2 c2, .int .i64 most] w fun e w' => ∃ (g : Gram) (A' : Option Addr) (c' : Nat) (x : List Int) (C : Option Addr) (cx : Nat), e = .returned (.tuple #[gramV g (.slice A' g.rules.length c'), .slice C x.length cx]) ∧ Made w w' g A' c' x C cx most := by
  have hb0 : Below w.heap.size w (w.alloc (.cells #[.int .i64 0, .int .i64 0, .int .i64 0, .slice none 0 0] 25)) := (Below.refl _ _).alloc (Nat.le_refl _) _
  have hk0 := heap_alloc_new w (.cells #[.int .i64 0, .int .i64 0, .int .i64 0, .slice none 0 0] 25)
  go_enter Tryz.func4, Tryz.ntmps4
  go_wp2_with fail
  refine (grammar_any F l A n c _ (hl.below hb0) hnc).mono ?_
  rintro e1 w1 ⟨g, A', c', rfl, hsm, hb1, hcap, hrl, base, xs, hbase, hown⟩
  have hs1 := hb1.size
  have hk1 := blk_below hb1 (by rw [World.size_alloc]; omega) hk0
  rw [World.size_alloc] at hs1
  have hbw1 : Below w.heap.size w w1 := hb0.trans (hb1.mono (by simp))
  unfold gramV
  go_wp2_with fail
  have hb2 : Below w1.heap.size w1 (w1.alloc (.cells #[.int .i64 g.terms, .int .i64 g.nons, .int .i64 g.start, .slice A' g.rules.length c'] 25)).drew := ((Below.refl _ _).alloc (Nat.le_refl _) _).drew
  have hg2 : (w1.alloc (.cells #[.int .i64 g.terms, .int .i64 g.nons, .int .i64 g.start, .slice A' g.rules.length c'] 25)).drew.heap[w1.heap.size]? = some (.cells #[.int .i64 g.terms, .int .i64 g.nons, .int .i64 g.start, .slice A' g.rules.length c'] 25 (0, 0)) := by rw [drew_heap, heap_alloc_new]
  have hs2 : (w1.alloc (.cells #[.int .i64 g.terms, .int .i64 g.nons, .int .i64 g.start, .slice A' g.rules.length c'] 25)).drew.heap.size = w1.heap.size + 1 := World.size_alloc _ _
  have hk2 := blk_below hb2 (by omega) hk1
  have hrl2 := hrl.below hb2
  have hrl2m := hrl2.old
  have hown2 := hown.below hb2
  rw [World.size_alloc] at hbase
  have hl22 := (hl2.below (hbw1.trans (hb2.mono (by omega))))
  have hT : 0 < g.terms ∧ g.terms ≤ 9223372036854775807 := by have := hsm.t3; have := hsm.valid.t1; omega
  have hbw2 := hbw1.trans (hb2.mono (by omega))
  clear hb0 hk0 hb1 hrl hl hl2
  go_region_law (first | (refine step_call rfl 15 Tryz.f15 Tryz.func15 (by kernel_rfl) (by kernel_rfl) [_, _, _] _ rfl [.int .i64 g.terms, .int .i64 most, .slice A2 n2 c2] rfl _ (word_any F2 g.terms most l2 A2 n2 c2 _ hl22 hT hm) ?_; rintro e3 w3 ⟨x, C, cx, rfl, hxm, hxt, hb3, hcx, hxs⟩; refine ⟨_, rfl, ?_⟩; have hs3 := hb3.size; have hg3 := blk_below hb3 (by omega) hg2; have hk3 := blk_below hb3 (by omega) hk2; have hr0 := blk_cell hk3 (i := 0) rfl; have hr1 := blk_cell hk3 (i := 1) rfl; have hr2 := blk_cell hk3 (i := 2) rfl; have hr3 := blk_cell hk3 (i := 3) rfl; have hf0 : w3.frozen? ⟨w.heap.size, 0, none⟩ = false := blk_free hk3; have hf1 : w3.frozen? ⟨w.heap.size, 1, none⟩ = false := blk_free hk3; have hf2 : w3.frozen? ⟨w.heap.size, 2, none⟩ = false := blk_free hk3; have hf3 : w3.frozen? ⟨w.heap.size, 3, none⟩ = false := blk_free hk3; have k0 := blk_cell hg3 (i := 0) rfl; have k1 := blk_cell hg3 (i := 1) rfl; have k2 := blk_cell hg3 (i := 2) rfl; have k3 := blk_cell hg3 (i := 3) rfl))
  all_goals
    have hb4 : Below w.heap.size w w3 := hbw2.trans (hb3.mono (by omega))
    have hr3' := hrl2.below hb3
    have hr3m := hrl2m.below hb3
    have hown3 := hown2.below hb3
    obtain ⟨hfin, hbl, hrr, hxx⟩ := made_end (t := g.terms) (n := g.nons) (s := g.start) (v := .slice A' g.rules.length c') hk3 hb4 (hr3'.weak (fun b (hb : _ ≤ b) => by rw [World.size_alloc] at hb; exact hb)) (hxs.weak (fun b (hb : _ ≤ b) => show w.heap.size + 1 ≤ b by omega))
    have hmo : MadeOwn w ((((w3.setCell ⟨w.heap.size, 0, none⟩ (.int .i64 g.terms)).setCell ⟨w.heap.size, 1, none⟩ (.int .i64 g.nons)).setCell ⟨w.heap.size, 2, none⟩ (.int .i64 g.start)).setCell ⟨w.heap.size, 3, none⟩ (.slice A' g.rules.length c')) g A' c' x C cx := by
      have hk : ∀ j, w.heap.size + 1 ≤ j → ((((w3.setCell ⟨w.heap.size, 0, none⟩ (.int .i64 g.terms)).setCell ⟨w.heap.size, 1, none⟩ (.int .i64 g.nons)).setCell ⟨w.heap.size, 2, none⟩ (.int .i64 g.start)).setCell ⟨w.heap.size, 3, none⟩ (.slice A' g.rules.length c')).heap[j]? = w3.heap[j]? := fun j hj => by
        rw [heap_set_ne (by omega), heap_set_ne (by omega), heap_set_ne (by omega), heap_set_ne (by omega)]
      have hz : w3.heap.size ≤ ((((w3.setCell ⟨w.heap.size, 0, none⟩ (.int .i64 g.terms)).setCell ⟨w.heap.size, 1, none⟩ (.int .i64 g.nons)).setCell ⟨w.heap.size, 2, none⟩ (.int .i64 g.start)).setCell ⟨w.heap.size, 3, none⟩ (.slice A' g.rules.length c')).heap.size := by simp only [size_setCell]; exact Nat.le_refl _
      refine ⟨base, w1.heap.size + 1, xs, by omega, by simp only [size_setCell]; omega, (((hown3.setCell (by omega)).setCell (by omega)).setCell (by omega)).setCell (by omega), (hr3m.keep (fun j hj => hk j (by have := hj.1; rw [World.size_alloc] at this; exact this)) hz).weak (fun j hj => by omega), (hxs.keep (fun j hj => hk j (by omega)) hz).weak (fun j hj => by omega)⟩
    go_wp2
    refine bodyPost_ret (results_cell_tmp rfl rfl (run_loadVar_row _ w.heap.size 25 25 #[.int .i64 g.terms, .int .i64 g.nons, .int .i64 g.start, .slice A' g.rules.length c'] (0, 0) _ hfin Tryz.underlying25 rfl (by kernel_rfl))) rfl ?_
    exact ⟨g, A', c', x, C, cx, rfl, hsm, hbl, hcap, hrr, hxm, hxt, hcx, hxx, hmo⟩
end Go.Proofs.YtdbkbkopcnkgcaaGreat
