import Derived.Test.YtdbkbkopcnkgcaaGreatWoodWd
import Derived.Deep.RegionHeld3
open Go Go.RowKit
namespace Go.Proofs.YtdbkbkopcnkgcaaGreat

/-! ### forest.Check, forest.checked, forest.Count at the forest of a word -/
section
variable {g : Gram} {x : List Int} {M : List (List Nat)} {A : Option Addr} {c : Nat} {B : Option Addr} {d : Nat} {N : Option Addr} {cn : Nat} {F F2 : Nat → Prop}

set_option maxRecDepth 100000 in
set_option maxHeartbeats 1600000 in
theorem fcheck_any (hv : Valid g) (hm : x.length ≤ 12) (w : World) (hc : g.rules.length ≤ c) (ho : OkWord g x)
    (hr : IsSl Elt.rule F w (.slice A g.rules.length c) g.rules) (hx : IsSl Elt.int F w (.slice B x.length d) x) (hM : IsM g x M) (hok : (madeF g x M).2 = 0)
    (hn : IsSl Elt.node F2 w (.slice N (madeF g x M).1.nodes.length cn) (madeF g x M).1.nodes) :
    Calls Tryz.prog 31 #[gramV g (.slice A g.rules.length c), .slice B x.length d, .agg #[.slice N (madeF g x M).1.nodes.length cn, .int .i64 (madeF g x M).1.root]] w fun e w' => e = .returned (.int .i64 0) ∧ Below w.heap.size w w' := by
  generalize hf : madeF g x M = fe at hok hn ⊢
  obtain ⟨f, er⟩ := fe
  simp only at hok hn ⊢
  subst hok
  have hb2 := below2 w (.cells #[.int .i64 g.terms, .int .i64 g.nons, .int .i64 g.start, .slice A g.rules.length c] 25) (.cells #[.slice N f.nodes.length cn, .int .i64 f.root] 31)
  have g0 := blk_new1 (w := w) rfl (.cells #[.int .i64 g.terms, .int .i64 g.nons, .int .i64 g.start, .slice A g.rules.length c] 25) (.cells #[.slice N f.nodes.length cn, .int .i64 f.root] 31)
  have g1 := blk_new' (w := w.alloc (.cells #[.int .i64 g.terms, .int .i64 g.nons, .int .i64 g.start, .slice A g.rules.length c] 25)) (a := w.heap.size + 1) (by rw [World.size_alloc]) (.cells #[.slice N f.nodes.length cn, .int .i64 f.root] 31)
  have hof := of_any F hv hm _ hc ho (hr.below hb2) (hx.below hb2)
  have k0 := blk_cell g0 (i := 0) rfl
  have k1 := blk_cell g0 (i := 1) rfl
  have k2 := blk_cell g0 (i := 2) rfl
  have k3 := blk_cell g0 (i := 3) rfl
  have HN := Lib.hid (hn.below hb2)
  have HF := Lib.hid hf
  unfold gramV at hof ⊢
  clear hr hx hn ho hf
  go_enter Tryz.func31, Tryz.ntmps31
  go_wp2_with fail
  refine hof.mono ?_
  rintro e2 w2 ⟨M', N', cn', hM', rfl, hb, hs⟩
  have := hM'.unique hM
  subst this
  rw [HF.out] at hs ⊢
  simp only at hs ⊢
  have g2 := blk_below hb (blk_lt g1) g1
  have hn2 := HN.out.below hb
  have hw2 := hb2.trans (hb.mono hb2.size)
  have hbx := below1 w2 (.cells #[.slice N' f.nodes.length cn', .int .i64 f.root] 31)
  have gx := heap_alloc_new w2 (.cells #[.slice N' f.nodes.length cn', .int .i64 f.root] 31)
  have hsa := same_any _ _ f N' cn' N cn _ (hs.below hbx) (hn2.below hbx)
  have g3 := blk_below hbx (blk_lt g2) g2
  have hw3 := hw2.trans (hbx.mono hw2.size)
  have m0 := blk_cell gx (i := 0) rfl
  have m1 := blk_cell gx (i := 1) rfl
  have m2 := blk_cell g3 (i := 0) rfl
  have m3 := blk_cell g3 (i := 1) rfl
  clear hof k0 k1 k2 k3 g0 g1 g2 hs hn2 hb hb2 HN HF hw2 hbx
  go_wp2_with fail
  refine hsa.mono ?_
  rintro e4 w4 ⟨rfl, hb4⟩
  go_wp2_with fail
  go_ret
  exact ⟨rfl, hw3.trans (hb4.mono hw3.size)⟩

set_option maxRecDepth 100000 in
set_option maxHeartbeats 1600000 in
theorem fchecked_any (hv : Valid g) (hm : x.length ≤ 12) (w : World) (hc : g.rules.length ≤ c) (ho : OkWord g x)
    (hr : IsSl Elt.rule F w (.slice A g.rules.length c) g.rules) (hM : IsM g x M) (f : ForD) (hf : madeF g x M = (f, 0)) (rn : Nat) (hrt : f.root = rn) (hrn : rn < f.nodes.length) (hj : f.nodes[rn].j = x.length) (hw : wordF f.nodes x.length = ⟨x, List.replicate x.length true⟩)
    (hn : IsSl Elt.node F2 w (.slice N f.nodes.length cn) f.nodes) :
    Calls Tryz.prog 19 #[gramV g (.slice A g.rules.length c), .agg #[.slice N f.nodes.length cn, .int .i64 f.root]] w fun e w' => ∃ b, e = .returned (.tuple #[.slice (some ⟨b, 0, none⟩) x.length x.length, .bool true, .int .i64 0]) ∧ Below w.heap.size w w' ∧ IsSl Elt.int (fun b => w.heap.size ≤ b) w' (.slice (some ⟨b, 0, none⟩) x.length x.length) x := by
  rw [hrt]
  have hb2 := below2 w (.cells #[.int .i64 g.terms, .int .i64 g.nons, .int .i64 g.start, .slice A g.rules.length c] 25) (.cells #[.slice N f.nodes.length cn, .int .i64 rn] 31)
  have g0 := blk_new1 (w := w) rfl (.cells #[.int .i64 g.terms, .int .i64 g.nons, .int .i64 g.start, .slice A g.rules.length c] 25) (.cells #[.slice N f.nodes.length cn, .int .i64 rn] 31)
  have g1 := blk_new' (w := w.alloc (.cells #[.int .i64 g.terms, .int .i64 g.nons, .int .i64 g.start, .slice A g.rules.length c] 25)) (a := w.heap.size + 1) (by rw [World.size_alloc]) (.cells #[.slice N f.nodes.length cn, .int .i64 rn] 31)
  have hck := check_valid F g A _ c _ (hr.below hb2) hv hc
  have k0 := blk_cell g0 (i := 0) rfl
  have k1 := blk_cell g0 (i := 1) rfl
  have k2 := blk_cell g0 (i := 2) rfl
  have k3 := blk_cell g0 (i := 3) rfl
  have HR := Lib.hid (hr.below hb2)
  have HN := Lib.hid (hn.below hb2)
  have HF := Lib.hid hf
  have HW := Lib.hid hw
  unfold gramV at hck ⊢
  clear hr hn hf hw
  go_enter Tryz.func19, Tryz.ntmps19
  go_wp2_with fail
  refine hck.mono ?_
  rintro e2 w2 ⟨rfl, hb⟩
  have g2 := blk_below hb (blk_lt g0) g0
  have g3 := blk_below hb (blk_lt g1) g1
  have hn2 := HN.out.below hb
  have hr2 := HR.out.below hb
  have hw2 := hb2.trans (hb.mono hb2.size)
  have hwo := wordOf_any F2 f.nodes rn N cn w2 hn2 hrn (by rw [hj]; exact hm)
  rw [hj, HW.out] at hwo
  have m0 := blk_cell g3 (i := 0) rfl
  have m1 := blk_cell g3 (i := 1) rfl
  have hr1 : ((rn : Int) == -1) = false := by simp
  have HR2 := Lib.hid hr2
  have HN2 := Lib.hid hn2
  clear hck k0 k1 k2 k3 g0 g1 hb hb2 HN HR hr2 hn2
  go_wp2_with fail
  refine hwo.mono ?_
  rintro e4 w4 ⟨b, rfl, hb4, hs4⟩
  have hseen : (!decide (false ∈ List.replicate x.length true)) = true := by simp
  simp only at hs4 hseen ⊢
  rw [hseen]
  have g4 := blk_below hb4 (blk_lt g2) g2
  have g5 := blk_below hb4 (blk_lt g3) g3
  have hn4 := HN2.out.below hb4
  have hr4 := HR2.out.below hb4
  have hw4 := hw2.trans (hb4.mono hw2.size)
  have hfc := fcheck_any (F := fun _ => True) (F2 := F2) (N := N) (cn := cn) hv hm w4 hc ho (hr4.weak fun _ _ => trivial) (hs4.weak fun _ _ => trivial) hM (by rw [HF.out]) (by rw [HF.out]; exact hn4)
  rw [HF.out] at hfc
  simp only [hrt] at hfc
  have k0 := blk_cell g4 (i := 0) rfl
  have k1 := blk_cell g4 (i := 1) rfl
  have k2 := blk_cell g4 (i := 2) rfl
  have k3 := blk_cell g4 (i := 3) rfl
  have m4 := blk_cell g5 (i := 0) rfl
  have m5 := blk_cell g5 (i := 1) rfl
  have HS4 := Lib.hid (hs4.old.weak (G := fun b => w.heap.size ≤ b ∧ b < w4.heap.size) fun b hb => ⟨Nat.le_trans hw2.size hb.1, hb.2⟩)
  unfold gramV at hfc
  clear hwo m0 m1 hs4 hn4 hr4 g2 g3 g4 g5 HR2 HN2 HF HW
  go_wp2_with fail
  refine hfc.mono ?_
  rintro e6 w6 ⟨rfl, hb6⟩
  go_wp2_with fail
  refine bodyPost_ret (v := .tuple #[.slice (some ⟨b, 0, none⟩) x.length x.length, .bool true, .int .i64 0]) (by kernel_rfl) rfl ⟨b, rfl, hw4.trans (hb6.mono hw4.size), ?_⟩
  exact ((HS4.out.weak (G := fun b => (w.heap.size ≤ b ∧ b < w4.heap.size)) fun _ h => h).keep (fun k hk => hb6.block k hk.2) hb6.size).weak fun _ h => h.1
end
end Go.Proofs.YtdbkbkopcnkgcaaGreat

open Go Go.RowKit
namespace Go.Proofs.YtdbkbkopcnkgcaaGreat

/-! ### forest.Count at the forest of a word -/
section
variable {g : Gram} {x : List Int} {M : List (List Nat)} {A : Option Addr} {c : Nat} {N : Option Addr} {cn : Nat} {F F2 : Nat → Prop}

theorem cf_new {Fe : Nat → Prop} {bc bd bo : Nat} {N : Option Addr} {cn : Nat} {ns : List NodeD} {root : Int} {w : World} (hfe : Fe bc) (hap : ∀ b, Fe b → b ≠ bd ∧ b ≠ bo) (hne : bd ≠ bo)
    (hblk : w.heap[bc]? = some (.cells #[.slice N ns.length cn, .int .i64 root, .slice (some ⟨bd, 0, none⟩) ns.length ns.length, .slice (some ⟨bo, 0, none⟩) ns.length ns.length] 63 (0, 0)))
    (hn : IsSl Elt.node Fe w (.slice N ns.length cn) ns) (hd : w.heap[bd]? = some (.cells (madeCells #[.int .i64 0] ns.length) 3 (0, 0))) (ho : w.heap[bo]? = some (.cells (madeCells #[.bool false] ns.length) 4 (0, 0))) :
    CfAt Fe bc bd bo N cn ns root ⟨List.replicate ns.length 0, List.replicate ns.length false⟩ w :=
  ⟨hfe, hap, hne, hblk, hn, by rw [hd, made_one, List.map_replicate], by rw [ho, made_one, List.map_replicate], ⟨by simp, by simp, fun v hv => by rw [List.eq_of_mem_replicate hv]; unfold CntV maxCount; simp⟩⟩

theorem three_new (w : World) (o1 o2 o3 : Obj) : Below w.heap.size w (((w.alloc o1).alloc o2).alloc o3).drew ∧ (((w.alloc o1).alloc o2).alloc o3).drew.heap[w.heap.size]? = some o1 ∧ (((w.alloc o1).alloc o2).alloc o3).drew.heap[w.heap.size + 1]? = some o2 ∧ (((w.alloc o1).alloc o2).alloc o3).drew.heap[w.heap.size + 1 + 1]? = some o3 :=
  ⟨(below3 w o1 o2 o3).trans ((Below.refl _ _).drew.mono (below3 w o1 o2 o3).size), blk_new2 rfl o1 o2 o3, blk_new1 (World.size_alloc w o1) o2 o3, blk_new' (by rw [World.size_alloc, World.size_alloc]) o3⟩

set_option maxRecDepth 100000 in
set_option maxHeartbeats 3200000 in
theorem fCount_any (hv : Valid g) (hm : x.length ≤ 12) (w : World) (hc : g.rules.length ≤ c) (ho : OkWord g x)
    (hr : IsSl Elt.rule F w (.slice A g.rules.length c) g.rules) (hM : IsM g x M) (f : ForD) (hf : madeF g x M = (f, 0)) (rn : Nat) (hrt : f.root = rn) (hrn : rn < f.nodes.length) (hj : f.nodes[rn].j = x.length) (hw : wordF f.nodes x.length = ⟨x, List.replicate x.length true⟩)
    (hn : IsSl Elt.node F2 w (.slice N f.nodes.length cn) f.nodes) (hkids : ∀ nd ∈ f.nodes, ∀ p ∈ nd.packs, ∀ k ∈ p.kids, 0 ≤ k) (fuel : Nat) (r : Int × CS) (hcnt : cntF f.nodes fuel rn ⟨List.replicate f.nodes.length 0, List.replicate f.nodes.length false⟩ = some r) (hl32 : f.nodes.length ≤ 1000000000) :
    Calls Tryz.prog 7 #[gramV g (.slice A g.rules.length c), .agg #[.slice N f.nodes.length cn, .int .i64 f.root]] w fun e w' => e = .returned (.tuple #[.int .i64 r.1, .int .i64 0]) ∧ Below w.heap.size w w' := by
  have hb2 := below2 w (.cells #[.int .i64 g.terms, .int .i64 g.nons, .int .i64 g.start, .slice A g.rules.length c] 25) (.cells #[.slice N f.nodes.length cn, .int .i64 f.root] 31)
  have g0 := blk_new1 (w := w) rfl (.cells #[.int .i64 g.terms, .int .i64 g.nons, .int .i64 g.start, .slice A g.rules.length c] 25) (.cells #[.slice N f.nodes.length cn, .int .i64 f.root] 31)
  have g1 := blk_new' (w := w.alloc (.cells #[.int .i64 g.terms, .int .i64 g.nons, .int .i64 g.start, .slice A g.rules.length c] 25)) (a := w.heap.size + 1) (by rw [World.size_alloc]) (.cells #[.slice N f.nodes.length cn, .int .i64 f.root] 31)
  have hck := fchecked_any (F := F) (F2 := F2) (N := N) (cn := cn) hv hm _ hc ho (hr.below hb2) hM f hf rn hrt hrn hj hw (hn.below hb2)
  have k0 := blk_cell g0 (i := 0) rfl
  have k1 := blk_cell g0 (i := 1) rfl
  have k2 := blk_cell g0 (i := 2) rfl
  have k3 := blk_cell g0 (i := 3) rfl
  have k4 := blk_cell g1 (i := 0) rfl
  have k5 := blk_cell g1 (i := 1) rfl
  have hsz2 : ((w.alloc (.cells #[.int .i64 g.terms, .int .i64 g.nons, .int .i64 g.start, .slice A g.rules.length c] 25)).alloc (.cells #[.slice N f.nodes.length cn, .int .i64 f.root] 31)).heap.size = w.heap.size + 2 := by rw [World.size_alloc, World.size_alloc]
  have HN := Lib.hid hn
  have HCNT := Lib.hid hcnt
  have HK := Lib.hid hkids
  rw [hrt] at g1 hck k5 hb2 hsz2 g0 k0 k1 k2 k3 k4 ⊢
  unfold gramV at hck ⊢
  clear hr hn hf hw hcnt hkids hM ho
  have hmk := run_make_row' (P := Tryz.prog) 22 3 (.int .i64 0) 8 Tryz.underlying22 Tryz.infoIntW rfl .i64 .i64 f.nodes.length (by omega) (by omega)
  have hmk2 := run_make_row' (P := Tryz.prog) 61 4 (.bool false) 1 Tryz.underlying61 Tryz.infoBoolW rfl .i64 .i64 f.nodes.length (by omega) (by omega)
  go_enter Tryz.func7, Tryz.ntmps7
  go_wp2_with fail
  refine hck.mono ?_
  rintro e2 w2 ⟨b, rfl, hb, -⟩
  have g3 := blk_below hb (blk_lt g1) g1
  have hw2 := hb2.trans (hb.mono hb2.size)
  have hn2 := HN.out.below hw2
  have hs2 := hb.size
  rw [hsz2] at hs2
  clear hck k0 k1 k2 k3 k4 k5 g0 hb hb2 HN
  have HN2 := Lib.hid hn2
  have m0 := blk_cell g3 (i := 0) rfl
  have m1 := blk_cell g3 (i := 1) rfl
  go_wp2_with fail
  go_cut [9] (fun s9 wx => ∃ bc bd bo, s9 = .pointer (some ⟨bc, 0, none⟩) ∧ Below w2.heap.size w2 wx ∧ w2.heap.size ≤ bd ∧ w2.heap.size ≤ bo ∧ CfAt (fun b => b ≠ bd ∧ b ≠ bo) bc bd bo N cn f.nodes rn ⟨List.replicate f.nodes.length 0, List.replicate f.nodes.length false⟩ wx)
  case first =>
    have hl1 : w.heap.size + 1 < w2.heap.size := by omega
    have hl2 : w.heap.size + 1 < w2.heap.size + 1 := by omega
    have hl3 : w.heap.size + 1 < w2.heap.size + 1 + 1 := by omega
    have hl4 : w.heap.size + 1 < w2.heap.size + 2 := by omega
    have hq0 : ∀ o1 o2 o3 : Obj, (((w2.alloc o1).alloc o2).alloc o3).cell? ⟨w.heap.size + 1, 0, none⟩ = some (.slice N f.nodes.length cn) := fun o1 o2 o3 => ((below3 w2 o1 o2 o3).cell (p := ⟨w.heap.size + 1, 0, none⟩) hl1).trans m0
    have hq1 : ∀ o1 o2 o3 : Obj, (((w2.alloc o1).alloc o2).alloc o3).cell? ⟨w.heap.size + 1, 1, none⟩ = some (.int .i64 rn) := fun o1 o2 o3 => ((below3 w2 o1 o2 o3).cell (p := ⟨w.heap.size + 1, 1, none⟩) hl1).trans m1
    go_region_held3 (fun w' => w'.cell? ⟨w.heap.size + 1, 0, none⟩ = some (.slice N f.nodes.length cn) ∧ w'.cell? ⟨w.heap.size + 1, 1, none⟩ = some (.int .i64 rn)) (go_keep) (fail)
    · obtain ⟨t1, t2, t3, t4⟩ := three_new w2 (.cells (madeCells #[.int .i64 0] f.nodes.length) 3) (.cells (madeCells #[.bool false] f.nodes.length) 4) (.cells #[.slice N f.nodes.length cn, .int .i64 rn, .slice (some ⟨w2.heap.size, 0, none⟩) f.nodes.length f.nodes.length, .slice (some ⟨w2.heap.size + 1, 0, none⟩) f.nodes.length f.nodes.length] 63)
      have hcf := cf_new (Fe := fun b => b ≠ w2.heap.size ∧ b ≠ w2.heap.size + 1) (by constructor <;> omega) (fun b h => h) (by omega) t4 ((HN2.out.old.below t1).weak fun b hb => by constructor <;> omega) t2 t3
      have HC := Lib.hid hcf
      clear t2 t3 t4 hcf hq0 hq1
      go_wp2_with fail
      go_meet
      exact ⟨_, _, _, rfl, t1, Nat.le_refl _, by omega, HC.out⟩
    · obtain ⟨t1, t2, t3, t4⟩ := three_new w2 (.cells (madeCells #[.bool false] f.nodes.length) 4) (.cells (madeCells #[.int .i64 0] f.nodes.length) 3) (.cells #[.slice N f.nodes.length cn, .int .i64 rn, .slice (some ⟨w2.heap.size + 1, 0, none⟩) f.nodes.length f.nodes.length, .slice (some ⟨w2.heap.size, 0, none⟩) f.nodes.length f.nodes.length] 63)
      have hcf := cf_new (Fe := fun b => b ≠ w2.heap.size + 1 ∧ b ≠ w2.heap.size) (by constructor <;> omega) (fun b h => h) (by omega) t4 ((HN2.out.old.below t1).weak fun b hb => by constructor <;> omega) t3 t2
      have HC := Lib.hid hcf
      clear t2 t3 t4 hcf hq0 hq1
      go_wp2_with fail
      go_meet
      exact ⟨_, _, _, rfl, t1, by omega, Nat.le_refl _, HC.out⟩
  case rest =>
  obtain ⟨bc, bd, bo, rfl, hb4, hbd, hbo, hcf⟩ := hcut
  have g4 := blk_below hb4 (blk_lt g3) g3
  have m1 := blk_cell g4 (i := 1) rfl
  have hcall := fcount_any _ bc bd bo N cn f.nodes rn HK.out fuel rn _ r wc HCNT.out hcf
  have HCALL := Lib.hid hcall
  clear hcall g3 g4 hcf HN2 HK HCNT
  go_wp2_with fail
  refine HCALL.out.mono ?_
  rintro e6 w6 ⟨rfl, -, -, ha6⟩
  go_wp2_with fail
  go_ret2
  exact ⟨rfl, ((Away.ofBelow (F := fun _ => False) (hw2.trans (hb4.mono hw2.size))).trans (ha6.mono (Nat.le_trans hw2.size hb4.size) fun b hb h => by rcases h with h | h <;> (have := hw2.size; omega))).below fun _ _ h => h⟩
end
end Go.Proofs.YtdbkbkopcnkgcaaGreat

open Go Go.RowKit
namespace Go.Proofs.YtdbkbkopcnkgcaaGreat

/-! ### the fact of the forest statements -/
theorem zeros_slW {w : World} {n : Nat} {l : List Int} (T : TypeId) (hl : l.length = n) (hn : n ≤ 9223372036854775807) : IsSl Elt.int (fun b => w.heap.size ≤ b) (w.alloc (.cells (l.map (Value.int .i64)).toArray T)) (.slice (some ⟨w.heap.size, 0, none⟩) n n) l :=
  sl_of_blk (enc := Value.int .i64) _ (Nat.le_refl _) (heap_alloc_new w _) hl.symm hn
theorem doub_ok2 : OkWord doubG [0, 0] := by
  intro t ht
  simp at ht
  subst ht
  exact ⟨by decide, by decide⟩
theorem doub_cnt : ∃ r, cntF doubF.nodes 6 2 ⟨List.replicate 5 0, List.replicate 5 false⟩ = some r ∧ r.1 = 1 := by
  have h := doub_count
  cases hc : cntF doubF.nodes 6 2 ⟨[0, 0, 0, 0, 0], [false, false, false, false, false]⟩ with
  | none => rw [hc] at h; cases h
  | some r => rw [hc] at h; injection h with h; exact ⟨r, hc, h⟩
theorem doubCount_any (w : World) (A N : Option Addr) (cn : Nat) (F F2 : Nat → Prop) (hr : IsSl Elt.rule F w (.slice A 2 2) doubG.rules) (hn : IsSl Elt.node F2 w (.slice N 5 cn) doubF.nodes) :
    Calls Tryz.prog 7 #[gramV doubG (.slice A 2 2), .agg #[.slice N 5 cn, .int .i64 2]] w fun e w' => e = .returned (.tuple #[.int .i64 1, .int .i64 0]) ∧ Below w.heap.size w w' := by
  obtain ⟨r, h1, h2⟩ := doub_cnt
  have := fCount_any (x := [0, 0]) (M := doubM) (A := A) (c := 2) (N := N) (cn := cn) (F := F) (F2 := F2) doub_valid (by decide) w (by decide) doub_ok2 hr doub_isM doubF doub_forest 2 rfl (by decide) rfl doub_word hn (by decide) 6 r h1 (by decide)
  rw [h2] at this
  exact this
theorem doubCheck_any (w : World) (A B N : Option Addr) (d cn : Nat) (F F2 : Nat → Prop) (hr : IsSl Elt.rule F w (.slice A 2 2) doubG.rules) (hx : IsSl Elt.int F w (.slice B 2 d) [0, 0]) (hn : IsSl Elt.node F2 w (.slice N 5 cn) doubF.nodes) :
    Calls Tryz.prog 31 #[gramV doubG (.slice A 2 2), .slice B 2 d, .agg #[.slice N 5 cn, .int .i64 2]] w fun e w' => e = .returned (.int .i64 0) ∧ Below w.heap.size w w' := by
  have := fcheck_any (x := [0, 0]) (M := doubM) (A := A) (c := 2) (N := N) (cn := cn) (B := B) (d := d) (F := F) (F2 := F2) doub_valid (by decide) w (by decide) doub_ok2 hr hx doub_isM (by rw [doub_forest]) (by rw [doub_forest]; exact hn)
  rw [doub_forest] at this
  exact this

set_option maxRecDepth 100000 in
set_option maxHeartbeats 3200000 in
theorem woods_any (w : World) : Calls Tryz.prog 11 #[] w fun e w' => e = .returned (.bool true) ∧ Below w.heap.size w w' := by
  go_enter Tryz.func11, Tryz.ntmps11
  go_wp2_with fail
  refine (doubling_any w).mono ?_
  rintro e1 w1 ⟨A, rfl, hb1, hr1⟩
  have hxA := zeros_slW (w := w1) (l := [0, 0]) 3 rfl (by decide)
  have hbA := below1 w1 (.cells (([0, 0] : List Int).map (Value.int .i64)).toArray 3)
  have hof := of_any (fun _ => True) doub_valid (by decide) _ (A := A) (c := 2) (B := some ⟨w1.heap.size, 0, none⟩) (d := 2) (x := [0, 0]) (by decide) doub_ok2 ((hr1.below hbA).weak fun _ _ => trivial) (hxA.weak fun _ _ => trivial)
  have hwA := hb1.trans (hbA.mono hb1.size)
  unfold gramV at hof ⊢
  clear hxA hr1
  go_wp2_with fail
  refine hof.mono ?_
  rintro e2 w2 ⟨M, N, cn, hM, rfl, hb2, hs2⟩
  have := hM.unique doub_isM
  subst this
  rw [show (madeF doubG [0, 0] doubM).1.nodes.length = 5 by rw [doub_forest]; rfl, show (madeF doubG [0, 0] doubM).1.root = 2 by rw [doub_forest]; rfl, show (madeF doubG [0, 0] doubM).2 = 0 by rw [doub_forest]]
  rw [doub_forest] at hs2
  have hs2 : IsSl Elt.node (fun _ => True) w2 (.slice N 5 cn) doubF.nodes := hs2.weak fun _ _ => trivial
  have hw2 := hwA.trans (hb2.mono hwA.size)
  have hbX := below1 w2 (.cells #[.slice N 5 cn, .int .i64 2] 31)
  have gx := heap_alloc_new w2 (.cells #[.slice N 5 cn, .int .i64 2] 31)
  have hs3 := hs2.below hbX
  have hw3 := hw2.trans (hbX.mono hw2.size)

  clear hof hs2 hb2 hbX hwA hbA hb1 hM hw2

  go_wp2_with fail
  generalize w2.alloc (.cells #[.slice N 5 cn, .int .i64 2] 31) = w3 at gx hs3 hw3 ⊢
  generalize w2.heap.size = bf at gx ⊢
  have v0 := blk_cell gx (i := 0) rfl
  have v1 := blk_cell gx (i := 1) rfl
  have hbf := blk_lt gx
  refine wp_region_any (by kernel_rfl) ?_
  change wpAny _ _ _ _ _ _ _ (World.drew _)
  refine wpAny_of_D (S := fun w' => w'.cell? ⟨bf, 0, none⟩ = some (.slice N 5 cn) ∧ w'.cell? ⟨bf, 1, none⟩ = some (.int .i64 2)) (dep := 2) _ _ _ _ ?_
  refine wpAnyD_load (i := 1) (v := .agg #[.slice N 5 cn, .int .i64 2]) [2] rfl (by kernel_rfl) (by kernel_rfl) (by kernel_rfl) (by kernel_rfl) (by kernel_rfl) (by kernel_rfl) (by kernel_rfl) (fun _ _ _ h => h) (by go_simp) ?_ ⟨v0, v1⟩ ?_
  · (intro w' hS; obtain ⟨hS1, hS2⟩ := hS; go_simp)
  refine wpAnyD_each (rs := [0]) (by kernel_rfl) (by simp) ?_
  refine EachD.cons (i := 0) (o := _) rfl (fun K hK => ?_) EachD.nil
  simp only [List.getElem_toArray, List.getElem_cons_succ, List.getElem_cons_zero]
  refine step_call rfl 30 Tryz.f30 Tryz.func30 (by kernel_rfl) (by kernel_rfl) [] #[] (by rfl) [] (by kernel_rfl) _ (doubling_any _) ?_
  rintro e4 w4 ⟨A4, rfl, hb4, hr4⟩
  replace hb4 : Below w3.heap.size w3 w4 := (Below.refl _ w3).drew.trans hb4
  have u0 := (hb4.cell (p := ⟨bf, 0, none⟩) hbf).trans v0
  have u1 := (hb4.cell (p := ⟨bf, 1, none⟩) hbf).trans v1
  have g4 := blk_below hb4 hbf gx
  have hs4 := hs3.below hb4
  have hw4 := hw3.trans (hb4.mono hw3.size)
  have hcnt := doubCount_any w4 A4 N cn _ _ hr4 hs4
  unfold gramV at hcnt ⊢
  clear v0 v1 gx hs3 hw3 hb4 hr4
  refine ⟨_, rfl, ?_⟩
  try go_simp
  refine hK _ _ (fun _ => ⟨u0, u1⟩) ?_
  clear hK K
  refine wpAnyD_each (rs := [2]) (by kernel_rfl) (by simp) ?_
  refine EachD.cons (i := 2) (o := _) rfl (fun K hK => ?_) EachD.nil
  simp only [List.getElem_toArray, List.getElem_cons_succ, List.getElem_cons_zero]
  refine step_call (a := ⟨_, []⟩) rfl 7 Tryz.f7 Tryz.func7 (by kernel_rfl) (by kernel_rfl) [.tmp 12, .tmp 13] #[25, 31] (by rfl) [.agg #[.int .i64 doubG.terms, .int .i64 doubG.nons, .int .i64 doubG.start, .slice A4 2 2], .agg #[.slice N 5 cn, .int .i64 2]] (by kernel_rfl) _ hcnt ?_
  rintro e5 w5 ⟨rfl, hb5⟩
  have g5 := blk_below hb5 (blk_lt g4) g4
  have hs5 := hs4.below hb5
  have hw5 := hw4.trans (hb5.mono hw4.size)
  clear u0 u1 g4 hs4 hw4 hb5 hcnt hbf
  refine ⟨_, rfl, ?_⟩
  try go_simp
  refine hK _ _ (fun e => Bool.noConfusion (show true = false from e)) ?_
  clear hK K
  refine wpAnyD_of _ _ _ _ (by kernel_rfl) ?_
  refine wpAny_take (i := 3) (v := ?_) rfl (by kernel_rfl) (by kernel_rfl) (by kernel_rfl) (fun _ _ _ h => h) (Or.inl ⟨by go_simp, ?_⟩) ?_
  rotate_left
  · (intro w'; go_simp; first | done | with_reducible rfl)
  refine wpAny_take (i := 4) (v := ?_) rfl (by kernel_rfl) (by kernel_rfl) (by kernel_rfl) (fun _ _ _ h => h) (Or.inl ⟨by go_simp, ?_⟩) ?_
  rotate_left
  · (intro w'; go_simp; first | done | with_reducible rfl)
  refine wpAny_take (i := 5) (v := ?_) rfl (by kernel_rfl) (by kernel_rfl) (by kernel_rfl) (fun _ _ _ h => h) (Or.inl ⟨by go_simp, ?_⟩) ?_
  rotate_left
  · (intro w'; go_simp; first | done | with_reducible rfl)
  refine wpAny_take (i := 6) (v := ?_) rfl (by kernel_rfl) (by kernel_rfl) (by kernel_rfl) (fun _ _ _ h => h) (Or.inl ⟨by go_simp, ?_⟩) ?_
  rotate_left
  · (intro w'; go_simp; first | done | with_reducible rfl)
  refine wpAny_take (i := 7) (v := ?_) rfl (by kernel_rfl) (by kernel_rfl) (by kernel_rfl) (fun _ _ _ h => h) (Or.inl ⟨by go_simp, ?_⟩) ?_
  rotate_left
  · (intro w'; go_simp; first | done | with_reducible rfl)
  refine wpAny_done (by kernel_rfl) ?_ _
  go_wp2_with fail
  have v0 := blk_cell g5 (i := 0) rfl
  have v1 := blk_cell g5 (i := 1) rfl
  have hbf := blk_lt g5
  refine wp_region_any (by kernel_rfl) ?_
  change wpAny _ _ _ _ _ _ _ (World.drew _)
  refine wpAny_take (i := 0) (v := ?_) rfl (by kernel_rfl) (by kernel_rfl) (by kernel_rfl) (fun _ _ _ h => h) (Or.inl ⟨by go_simp, ?_⟩) ?_
  rotate_left
  · (intro w'; go_simp; first | done | with_reducible rfl)
  refine wpAny_take (i := 1) (v := ?_) rfl (by kernel_rfl) (by kernel_rfl) (by kernel_rfl) (fun _ _ _ h => h) (Or.inl ⟨by go_simp, ?_⟩) ?_
  rotate_left
  · (intro w'; go_simp; first | done | with_reducible rfl)
  refine wpAny_take (i := 2) (v := ?_) rfl (by kernel_rfl) (by kernel_rfl) (by kernel_rfl) (fun _ _ _ h => h) (Or.inl ⟨by go_simp, ?_⟩) ?_
  rotate_left
  · (intro w'; go_simp; first | done | with_reducible rfl)
  refine wpAny_take (i := 3) (v := ?_) rfl (by kernel_rfl) (by kernel_rfl) (by kernel_rfl) (fun _ _ _ h => h) (Or.inl ⟨by go_simp, ?_⟩) ?_
  rotate_left
  · (intro w'; go_simp; first | done | with_reducible rfl)
  refine wpAny_take (i := 4) (v := ?_) rfl (by kernel_rfl) (by kernel_rfl) (by kernel_rfl) (fun _ _ _ h => h) (Or.inl ⟨by go_simp, ?_⟩) ?_
  rotate_left
  · (intro w'; go_simp; first | done | with_reducible rfl)
  refine wpAny_take (i := 5) (v := ?_) rfl (by kernel_rfl) (by kernel_rfl) (by kernel_rfl) (fun _ _ _ h => h) (Or.inl ⟨by go_simp, ?_⟩) ?_
  rotate_left
  · (intro w'; go_simp; first | done | with_reducible rfl)
  refine wpAny_take (i := 6) (v := ?_) rfl (by kernel_rfl) (by kernel_rfl) (by kernel_rfl) (fun _ _ _ h => h) (Or.inl ⟨by go_simp, ?_⟩) ?_
  rotate_left
  · (intro w'; go_simp; first | done | with_reducible rfl)
  refine wpAny_take (i := 7) (v := ?_) rfl (by kernel_rfl) (by kernel_rfl) (by kernel_rfl) (fun _ _ _ h => h) (Or.inl ⟨by go_simp, ?_⟩) ?_
  rotate_left
  · (intro w'; go_simp; first | done | with_reducible rfl)
  refine wpAny_take (i := 8) (v := ?_) rfl (by kernel_rfl) (by kernel_rfl) (by kernel_rfl) (fun _ _ _ h => h) (Or.inl ⟨by go_simp, ?_⟩) ?_
  rotate_left
  · (intro w'; go_simp; first | done | with_reducible rfl)
  refine wpAny_take (i := 9) (v := ?_) rfl (by kernel_rfl) (by kernel_rfl) (by kernel_rfl) (fun _ _ _ h => h) (Or.inl ⟨by go_simp, ?_⟩) ?_
  rotate_left
  · (intro w'; go_simp; first | done | with_reducible rfl)
  refine wpAny_take (i := 10) (v := ?_) rfl (by kernel_rfl) (by kernel_rfl) (by kernel_rfl) (fun _ _ _ h => h) (Or.inl ⟨by go_simp, ?_⟩) ?_
  rotate_left
  · (intro w'; go_simp; first | done | with_reducible rfl)
  refine wpAny_take (i := 11) (v := ?_) rfl (by kernel_rfl) (by kernel_rfl) (by kernel_rfl) (fun _ _ _ h => h) (Or.inl ⟨by go_simp, ?_⟩) ?_
  rotate_left
  · (intro w'; go_simp; first | done | with_reducible rfl)
  refine wpAny_of_D (S := fun w' => w'.cell? ⟨bf, 0, none⟩ = some (.slice N 5 cn) ∧ w'.cell? ⟨bf, 1, none⟩ = some (.int .i64 2)) (dep := 25) _ _ _ _ ?_
  refine wpAnyD_load (i := 12) (v := .int .i64 2) [13, 14, 15, 16, 17, 18, 19, 20, 21, 22, 25] rfl (by kernel_rfl) (by kernel_rfl) (by kernel_rfl) (by kernel_rfl) (by kernel_rfl) (by kernel_rfl) (by kernel_rfl) (fun _ _ _ h => h) (by go_simp) ?_ ⟨v0, v1⟩ ?_
  · (intro w' hS; obtain ⟨hS1, hS2⟩ := hS; go_simp)
  refine wpAnyD_pure (i := 13) (v := ?_) [14, 15, 16, 17, 18, 19, 20, 21, 22, 25] rfl (by kernel_rfl) (by kernel_rfl) (by kernel_rfl) (by kernel_rfl) (by kernel_rfl) (by kernel_rfl) (by kernel_rfl) (fun _ _ _ h => h) (by go_simp) ?_ ⟨v0, v1⟩ ?_
  rotate_left
  · (intro w'; go_simp; first | done | with_reducible rfl)
  refine wpAnyD_pure (i := 14) (v := ?_) [15, 16, 17, 18, 19, 20, 21, 22, 25] rfl (by kernel_rfl) (by kernel_rfl) (by kernel_rfl) (by kernel_rfl) (by kernel_rfl) (by kernel_rfl) (by kernel_rfl) (fun _ _ _ h => h) (by go_simp) ?_ ⟨v0, v1⟩ ?_
  rotate_left
  · (intro w'; go_simp; first | done | with_reducible rfl)
  refine wpAnyD_pure (i := 15) (v := ?_) [16, 17, 18, 19, 20, 21, 22, 25] rfl (by kernel_rfl) (by kernel_rfl) (by kernel_rfl) (by kernel_rfl) (by kernel_rfl) (by kernel_rfl) (by kernel_rfl) (fun _ _ _ h => h) (by go_simp) ?_ ⟨v0, v1⟩ ?_
  rotate_left
  · (intro w'; go_simp; first | done | with_reducible rfl)
  refine wpAnyD_pure (i := 16) (v := ?_) [17, 18, 19, 20, 21, 22, 25] rfl (by kernel_rfl) (by kernel_rfl) (by kernel_rfl) (by kernel_rfl) (by kernel_rfl) (by kernel_rfl) (by kernel_rfl) (fun _ _ _ h => h) (by go_simp) ?_ ⟨v0, v1⟩ ?_
  rotate_left
  · (intro w'; go_simp; first | done | with_reducible rfl)
  refine wpAnyD_load (i := 17) (v := .slice N 5 cn) [18, 19, 20, 21, 22, 25] rfl (by kernel_rfl) (by kernel_rfl) (by kernel_rfl) (by kernel_rfl) (by kernel_rfl) (by kernel_rfl) (by kernel_rfl) (fun _ _ _ h => h) (by go_simp) ?_ ⟨v0, v1⟩ ?_
  · (intro w' hS; obtain ⟨hS1, hS2⟩ := hS; go_simp)
  refine wpAnyD_pure (i := 18) (v := ?_) [19, 20, 21, 22, 25] rfl (by kernel_rfl) (by kernel_rfl) (by kernel_rfl) (by kernel_rfl) (by kernel_rfl) (by kernel_rfl) (by kernel_rfl) (fun _ _ _ h => h) (by go_simp) ?_ ⟨v0, v1⟩ ?_
  rotate_left
  · (intro w'; go_simp; first | done | with_reducible rfl)
  refine wpAnyD_pure (i := 19) (v := ?_) [20, 21, 22, 25] rfl (by kernel_rfl) (by kernel_rfl) (by kernel_rfl) (by kernel_rfl) (by kernel_rfl) (by kernel_rfl) (by kernel_rfl) (fun _ _ _ h => h) (by go_simp) ?_ ⟨v0, v1⟩ ?_
  rotate_left
  · (intro w'; go_simp; first | done | with_reducible rfl)
  refine wpAnyD_pure (i := 20) (v := ?_) [21, 22, 25] rfl (by kernel_rfl) (by kernel_rfl) (by kernel_rfl) (by kernel_rfl) (by kernel_rfl) (by kernel_rfl) (by kernel_rfl) (fun _ _ _ h => h) (by go_simp) ?_ ⟨v0, v1⟩ ?_
  rotate_left
  · (intro w'; go_simp; first | done | with_reducible rfl)
  refine wpAnyD_pure (i := 21) (v := ?_) [22, 25] rfl (by kernel_rfl) (by kernel_rfl) (by kernel_rfl) (by kernel_rfl) (by kernel_rfl) (by kernel_rfl) (by kernel_rfl) (fun _ _ _ h => h) (by go_simp) ?_ ⟨v0, v1⟩ ?_
  rotate_left
  · (intro w'; go_simp; first | done | with_reducible rfl)
  refine wpAnyD_load (i := 24) (v := .agg #[.slice N 5 cn, .int .i64 2]) [25] rfl (by kernel_rfl) (by kernel_rfl) (by kernel_rfl) (by kernel_rfl) (by kernel_rfl) (by kernel_rfl) (by kernel_rfl) (fun _ _ _ h => h) (by go_simp) ?_ ⟨v0, v1⟩ ?_
  · (intro w' hS; obtain ⟨hS1, hS2⟩ := hS; go_simp)
  refine wpAnyD_each (rs := [22, 23]) (by kernel_rfl) (by simp) ?_
  refine EachD.cons (i := 22) (o := _) rfl (fun K hK => ?_) ?_
  · go_simp
    refine (doubling_any _).mono ?_
    rintro e7 w7 ⟨A7, rfl, hb7, hr7⟩
    replace hb7 : Below w5.heap.size w5 w7 := (Below.refl _ w5).drew.trans hb7
    have u0 := (hb7.cell (p := ⟨bf, 0, none⟩) hbf).trans v0
    have u1 := (hb7.cell (p := ⟨bf, 1, none⟩) hbf).trans v1
    have hs7 := hs5.below hb7
    have hw7 := hw5.trans (hb7.mono hw5.size)
    have hbC := below1 w7 (.cells (([0, 0] : List Int).map (Value.int .i64)).toArray 3)
    have hx7 := zeros_slW (w := w7) (l := [0, 0]) 3 rfl (by decide)
    have hbf7 : bf < w7.heap.size := Nat.lt_of_lt_of_le hbf hb7.size
    have t0 := (hbC.cell (p := ⟨bf, 0, none⟩) hbf7).trans u0
    have t1 := (hbC.cell (p := ⟨bf, 1, none⟩) hbf7).trans u1
    obtain ⟨w8, h8⟩ : ∃ w8, w8 = w7.alloc (.cells (([0, 0] : List Int).map (Value.int .i64)).toArray 3) := ⟨_, rfl⟩
    have hb8 : Below w7.heap.size w7 w8 := by rw [h8]; exact hbC
    have hchk := doubCheck_any w8 A7 (some ⟨w7.heap.size, 0, none⟩) N 2 cn (fun _ => True) (fun _ => True) ((hr7.below hb8).weak fun _ _ => trivial) (by rw [h8]; exact hx7.weak fun _ _ => trivial) (hs7.below hb8)
    have hw8 := hw7.trans (hb8.mono hw7.size)
    clear hx7 hr7 hs7 hb8 hbC hs5 hw5 hb7
    unfold gramV at hchk ⊢
    try go_simp
    refine hK _ _ (fun _ => ⟨u0, u1⟩) ?_
    clear hK K
    refine wpAnyD_each (rs := [23]) (by kernel_rfl) (by simp) ?_
    refine EachD.cons (i := 23) (o := _) rfl (fun K hK => ?_) EachD.nil
    go_simp
    refine hK _ _ (fun _ => ⟨t0, t1⟩) ?_
    clear hK K
    subst h8
    refine wpAnyD_each (rs := [25]) (by kernel_rfl) (by simp) ?_
    refine EachD.cons (i := 25) (o := _) rfl (fun K hK => ?_) EachD.nil
    go_simp
    refine hchk.mono ?_
    rintro e9 w9 ⟨rfl, hb9⟩
    try go_simp
    refine hK _ _ (fun e => Bool.noConfusion (show true = false from e)) ?_
    clear hK K
    refine wpAnyD_of _ _ _ _ (by kernel_rfl) ?_
    refine wpAny_take (i := 26) (v := ?_) rfl (by kernel_rfl) (by kernel_rfl) (by kernel_rfl) (fun _ _ _ h => h) (Or.inl ⟨by go_simp, ?_⟩) ?_
    rotate_left
    · (intro w'; go_simp; first | done | with_reducible rfl)
    refine wpAny_take (i := 27) (v := ?_) rfl (by kernel_rfl) (by kernel_rfl) (by kernel_rfl) (fun _ _ _ h => h) (Or.inl ⟨by go_simp, ?_⟩) ?_
    rotate_left
    · (intro w'; go_simp; first | done | with_reducible rfl)
    refine wpAny_take (i := 28) (v := ?_) rfl (by kernel_rfl) (by kernel_rfl) (by kernel_rfl) (fun _ _ _ h => h) (Or.inl ⟨by go_simp, ?_⟩) ?_
    rotate_left
    · (intro w'; go_simp; first | done | with_reducible rfl)
    refine wpAny_done (by kernel_rfl) ?_ _
    go_wp2_with fail
    go_ret
    exact ⟨rfl, hw8.trans (hb9.mono hw8.size)⟩
  refine EachD.cons (i := 23) (o := _) rfl (fun K hK => ?_) EachD.nil
  go_simp
  have hbC := below1 w5 (.cells (([0, 0] : List Int).map (Value.int .i64)).toArray 3)
  have hx7 := zeros_slW (w := w5) (l := [0, 0]) 3 rfl (by decide)
  have t0 := (hbC.cell (p := ⟨bf, 0, none⟩) hbf).trans v0
  have t1 := (hbC.cell (p := ⟨bf, 1, none⟩) hbf).trans v1
  refine hK _ _ (fun _ => ⟨t0, t1⟩) ?_
  clear hK K
  refine wpAnyD_each (rs := [22]) (by kernel_rfl) (by simp) ?_
  refine EachD.cons (i := 22) (o := _) rfl (fun K hK => ?_) EachD.nil
  go_simp
  refine (doubling_any _).mono ?_
  rintro e7 w7 ⟨A7, rfl, hb7, hr7⟩
  have hb6 : Below w5.heap.size w5 ((w5.alloc (.cells (([0, 0] : List Int).map (Value.int .i64)).toArray 3)).drew) := hbC.trans ((Below.refl _ _).drew.mono hbC.size)
  have hb8 : Below w5.heap.size w5 w7 := hb6.trans (hb7.mono hb6.size)
  have u0 := (hb8.cell (p := ⟨bf, 0, none⟩) hbf).trans v0
  have u1 := (hb8.cell (p := ⟨bf, 1, none⟩) hbf).trans v1
  have hchk := doubCheck_any w7 A7 (some ⟨w5.heap.size, 0, none⟩) N 2 cn (fun _ => True) (fun _ => True) (hr7.weak fun _ _ => trivial) (((hx7.below ((Below.refl _ _).drew)).below hb7).weak fun _ _ => trivial) (hs5.below hb8)
  have hw8 := hw5.trans (hb8.mono hw5.size)
  clear hx7 hr7 hb8 hbC hs5 hw5 hb7 hb6 t0 t1
  unfold gramV at hchk ⊢
  try go_simp
  refine hK _ _ (fun _ => ⟨u0, u1⟩) ?_
  clear hK K
  refine wpAnyD_each (rs := [25]) (by kernel_rfl) (by simp) ?_
  refine EachD.cons (i := 25) (o := _) rfl (fun K hK => ?_) EachD.nil
  go_simp
  refine hchk.mono ?_
  rintro e9 w9 ⟨rfl, hb9⟩
  try go_simp
  refine hK _ _ (fun e => Bool.noConfusion (show true = false from e)) ?_
  clear hK K
  refine wpAnyD_of _ _ _ _ (by kernel_rfl) ?_
  refine wpAny_take (i := 26) (v := ?_) rfl (by kernel_rfl) (by kernel_rfl) (by kernel_rfl) (fun _ _ _ h => h) (Or.inl ⟨by go_simp, ?_⟩) ?_
  rotate_left
  · (intro w'; go_simp; first | done | with_reducible rfl)
  refine wpAny_take (i := 27) (v := ?_) rfl (by kernel_rfl) (by kernel_rfl) (by kernel_rfl) (fun _ _ _ h => h) (Or.inl ⟨by go_simp, ?_⟩) ?_
  rotate_left
  · (intro w'; go_simp; first | done | with_reducible rfl)
  refine wpAny_take (i := 28) (v := ?_) rfl (by kernel_rfl) (by kernel_rfl) (by kernel_rfl) (fun _ _ _ h => h) (Or.inl ⟨by go_simp, ?_⟩) ?_
  rotate_left
  · (intro w'; go_simp; first | done | with_reducible rfl)
  refine wpAny_done (by kernel_rfl) ?_ _
  go_wp2_with fail
  go_ret
  exact ⟨rfl, hw8.trans (hb9.mono hw8.size)⟩
end Go.Proofs.YtdbkbkopcnkgcaaGreat
