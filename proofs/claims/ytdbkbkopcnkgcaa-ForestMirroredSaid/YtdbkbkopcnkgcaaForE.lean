import Derived.Test.YtdbkbkopcnkgcaaForD
open Go Go.RowKit
open Go.ChangeMaps (setBlock)
namespace Go.Proofs.Ytdbkbkopcnkgcaa

section
variable {bm r base : Nat} {g : Gram} {x : List Int} {M : List (List Nat)} {A : Option Addr} {c : Nat} {B : Option Addr} {d : Nat} {C : Option Addr} {q : Nat} {l0 : List (Part × Hdr)} {p : Part}

theorem alook_aput_same {κ ν : Type} [DecidableEq κ] (l : List (κ × ν)) (k : κ) (v : ν) : alook (aput l k v) k = some v := by rw [alook_put]; simp
theorem aput_aput {κ ν : Type} [DecidableEq κ] (l : List (κ × ν)) (k : κ) (v v' : ν) : aput (aput l k v) k v' = aput l k v' := by
  induction l with
  | nil => simp [aput]
  | cons ab l ih =>
    obtain ⟨a, b⟩ := ab
    by_cases h : a = k
    · simp [h, aput]
    · simp [h, aput, ih]

theorem SpAt.entry1 {w : World} {o : Obj} {cur : List Way} {many : Nat} {h : Hdr} (hs : SpAt w bm r base g x M A c B d C q l0 p cur many h) (hm : IsMap partV hdrV (setBlock w r o) r (aput l0 p h)) : SpAt (setBlock w r o) bm r base g x M A c B d C q l0 p cur many h := by
  obtain ⟨xs, ho⟩ := hs.own
  refine hs.setMap hm ⟨xs, ho.notCells (grown_setBlock w r o) fun cs T fr e => ?_⟩
  obtain ⟨es, c, h1, _⟩ := hs.map
  rw [h1] at e; cases e
theorem entry_cell {w : World} {T : TypeId} {o : Obj} {cur : List Way} {many : Nat} {h : Hdr} {cs : List Value} {j : Nat} {u : Value} (hs : SpAt w bm r base g x M A c B d C q l0 p cur many h) (hj : cs[j]? = some u) : (setBlock (w.alloc (.cells cs.toArray T)) r o).cell? ((⟨w.heap.size, 0, none⟩ : Addr).add j) = some u := by
  have h1 := cells_new w cs T j u hj
  rw [add_lit0] at h1 ⊢
  exact (World.cell?_of_block (w := w.alloc (.cells cs.toArray T)) (setBlock_other _ _ _ (by have := hs.rl; have := hs.le; show w.heap.size ≠ r; omega))).trans h1

/-- what split leaves -/
def SpEnd (w w' : World) (bm r base : Nat) (g : Gram) (x : List Int) (M : List (List Nat)) (A : Option Addr) (c : Nat) (B : Option Addr) (d : Nat) (C : Option Addr) (q : Nat) (l0 : List (Part × Hdr)) (p : Part) (s : List Way × Nat) (h : Hdr) : Prop :=
  ∃ h', SpStep w w' bm r h h' ∧ SpAt w' bm r base g x M A c B d C q l0 p s.1 s.2 h'

theorem SpStep.setMap (w : World) (bm r : Nat) (h : Hdr) (o : Obj) : SpStep w (setBlock w r o) bm r h h :=
  ⟨⟨rfl, rfl, rfl, by rw [setBlock_size]; exact Nat.le_refl _, fun j _ hF => setBlock_other _ _ _ fun e => hF (.inr (.inl e))⟩, .inl rfl⟩

theorem split_fin {w W w8 w9 : World} {T : TypeId} {o1 o2 : Obj} {cs : Array Value} {cur : List Way} {many rule : Nat} {kids : List Part} {h : Hdr} {A8 A9 : Option Addr} {c8 c9 : Nat} {xs1 : List Value} (hst : SpStep w W bm r h h) (hb8 : Below W.heap.size W w8) (hs9 : SpAt (w8.alloc (.cells cs T)) bm r base g x M A c B d C q l0 p cur (many + 1) h) (hbW : base ≤ W.heap.size)
    (hs10 : SpAt (setBlock (w8.alloc (.cells cs T)) r o1) bm r base g x M A c B d C q l0 p cur (many + 1) h) (how1 : OwnWays (setBlock (w8.alloc (.cells cs T)) r o1) base (hdrV h) cur xs1) (ho8 : w8.ownsRow W.heap.size 177 4 (.slice A8 kids.length c8) kids.length (partCells kids))
    (hg9 : (setBlock (w8.alloc (.cells cs T)) r o1).grownBy w9 (hdrV h).ownBlock) (hown9 : w9.ownsRow base 209 2 (.slice A9 (cur.length + 1) c9) (cur.length + 1) (xs1 ++ [.int .i64 rule, .slice A8 kids.length c8]))
    (hat9 : (Value.slice A9 (cur.length + 1) c9).ownBlock = (hdrV h).ownBlock ∨ (Value.slice A9 (cur.length + 1) c9).ownBlock = some (setBlock (w8.alloc (.cells cs T)) r o1).heap.size)
    (hm9 : IsMap partV hdrV (setBlock w9 r o2) r (aput (aput l0 p h) p (A9, cur.length + 1, c9))) (hcl : cur.length ≤ many) :
    SpEnd w (setBlock w9 r o2) bm r base g x M A c B d C q l0 p (cur ++ [⟨rule, kids⟩], many + 1) h := by
  rw [aput_aput] at hm9
  have hnc : ∀ cs' T' fr, (w8.alloc (.cells cs T)).heap[r]? ≠ some (.cells cs' T' fr) := fun cs' T' fr e => by
    obtain ⟨es, c, h1, _⟩ := hs9.map
    rw [h1] at e; cases e
  have hr10 : (setBlock (w8.alloc (.cells cs T)) r o1).ownsRow base 177 4 (.slice A8 kids.length c8) kids.length (partCells kids) := own_kept ((ho8.mono_base hbW).alloc _) (grown_setBlock _ r o1) hnc
  have hw9 := how1.snoc (r := ⟨rule, kids⟩) hr10 hg9 hown9
  have hbr : ∀ b, b < base → w9.heap[b]? = (setBlock (w8.alloc (.cells cs T)) r o1).heap[b]? := fun b hb => hg9.block b (by have := hs10.le; omega) fun e => by have := (hs10.hown e.symm).1; omega
  have hnc9 : ∀ cs' T' fr, w9.heap[r]? ≠ some (.cells cs' T' fr) := fun cs' T' fr e => by
    rw [hbr r hs10.rl] at e
    obtain ⟨es, c, h1, _⟩ := hs10.map
    rw [h1] at e; cases e
  have hw10 := hw9.notCells (grown_setBlock w9 r o2) hnc9
  have hst2 : SpStep w (setBlock (w8.alloc (.cells cs T)) r o1) bm r h h := ((hst.trans (SpStep.ofBelow bm r h hb8)).trans (SpStep.ofBelow bm r h ((Below.refl _ _).alloc (Nat.le_refl _) _))).trans (SpStep.setMap _ bm r h o1)
  have hst3 : SpStep (setBlock (w8.alloc (.cells cs T)) r o1) w9 bm r h (A9, cur.length + 1, c9) := by
    refine ⟨Away.grown hg9 (Nat.le_refl _) fun k hk => .inl (.inr (.inr hk)), ?_⟩
    rcases hat9 with h1 | h1
    · exact .inl h1
    · exact .inr ⟨_, h1, Nat.le_refl _⟩
  refine ⟨(A9, cur.length + 1, c9), (hst2.trans hst3).trans (SpStep.setMap _ bm r _ o2), hs10.bml, hs10.rl, hs10.ne, ?_, ?_, hm9, ⟨_, hw10⟩, by simp; omega⟩
  · rw [setBlock_size]; have := hg9.size; have := hs10.le; omega
  · have hk : ∀ b, b < base → b ≠ r → (setBlock w9 r o2).heap[b]? = (setBlock (w8.alloc (.cells cs T)) r o1).heap[b]? := fun b hb hne => (setBlock_other _ _ _ hne).trans (hbr b hb)
    have hle : (setBlock (w8.alloc (.cells cs T)) r o1).heap.size ≤ (setBlock w9 r o2).heap.size := by rw [setBlock_size w9]; exact hg9.size
    exact ⟨(hk bm hs10.bml hs10.ne).trans hs10.mker.blk, hs10.mker.rules.keep (fun b hb => hk b hb.1 hb.2.2) hle, hs10.mker.word.keep (fun b hb => hk b hb.1 hb.2.2) hle, hs10.mker.mat.keep (fun b hb => hk b hb.1 hb.2.2) hle⟩

set_option maxRecDepth 100000 in
set_option maxHeartbeats 1600000 in
/-- split, all symbols read -/
theorem split_end (_hv : Valid g) {rule : Nat} {R : Rule} (hR : g.rules[rule]? = some R) (a : Nat) (kids : List Part) (K : Option Addr) (ck : Nat) (cur : List Way) (many : Nat) (h : Hdr) (w : World) (hs : SpAt w bm r base g x M A c B d C q l0 p cur many h) (hkids : IsSl Elt.fpart (fun b => ¬ SpF bm r h b) w (.slice K kids.length ck) kids) (hk4 : kids.length ≤ 4) (hmany : many ≤ maxPacks + 50) :
    Calls Try.prog 123 #[.pointer (some ⟨bm, 0, none⟩), partV p, .int .i64 rule, .int .i64 R.r.length, .int .i64 a, .slice K kids.length ck] w fun e w' => e = .returned (.tuple #[]) ∧ SpEnd w w' bm r base g x M A c B d C q l0 p (cur ++ [⟨rule, kids⟩], many + 1) h := by
  obtain ⟨hr1, hr2⟩ := List.getElem?_eq_some_iff.1 hR
  obtain ⟨b, o, rfl, hF, hl, hc1, A', c', hc2, hsy⟩ := hs.mker.rules.ruleAt rule hr1
  rw [hr2] at hc1 hc2 hsy
  obtain ⟨iw, hiw, hw0, hw2, hw3⟩ := info_parts Try.infoWay
  have hbm := blk_lt hs.mker.blk
  have hbml := hs.bml
  have hrl := hs.rl
  have hle := hs.le
  obtain ⟨xs, ho⟩ := hs.own
  obtain ⟨H1, H2, H3⟩ := h
  obtain ⟨H1', H3', he⟩ := own_form ho.own
  obtain ⟨rfl, rfl, rfl⟩ : H1 = H1' ∧ H2 = cur.length ∧ H3 = H3' := by
    simp only [hdrV] at he
    injection he with e1 e2 e3
    exact ⟨e1, e2, e3⟩
  clear he
  have hbb : base ≤ w.heap.size := hs.le
  have hs2 : SpAt ((w.setCell ⟨bm, 7, none⟩ (.int .i64 ((many : Int) + 1))).alloc (.cells #[.bool p.y.t, .int .i64 p.y.n, .int .i64 p.i, .int .i64 p.j] 177)) bm r base g x M (some ⟨b, o, none⟩) c B d C q l0 p cur (many + 1) (H1, cur.length, H3) := hs.count.below ((Below.refl _ _).alloc (Nat.le_refl _) _)
  have hst2 : SpStep w ((w.setCell ⟨bm, 7, none⟩ (.int .i64 ((many : Int) + 1))).alloc (.cells #[.bool p.y.t, .int .i64 p.y.n, .int .i64 p.i, .int .i64 p.j] 177)) bm r (H1, cur.length, H3) (H1, cur.length, H3) := (SpStep.count (w := w) bm r (H1, cur.length, H3) _).trans (SpStep.ofBelow bm r _ ((Below.refl _ _).alloc (Nat.le_refl _) _))
  have hkids2 := hst2.keep hkids
  have hbx : ((w.setCell ⟨bm, 7, none⟩ (.int .i64 ((many : Int) + 1))).alloc (.cells #[.bool p.y.t, .int .i64 p.y.n, .int .i64 p.i, .int .i64 p.j] 177)).heap[w.heap.size]? = some (.cells #[.bool p.y.t, .int .i64 p.y.n, .int .i64 p.i, .int .i64 p.j] 177) := by
    have := heap_alloc_new (w.setCell ⟨bm, 7, none⟩ (.int .i64 ((many : Int) + 1))) (.cells #[.bool p.y.t, .int .i64 p.y.n, .int .i64 p.i, .int .i64 p.j] 177)
    rw [size_setCell] at this
    exact this
  have hk7 := blk_cell hs.mker.blk (i := 7) rfl
  have hk3 := blk_cell hs.mker.blk (i := 3) rfl
  have hf7 : w.frozen? ⟨bm, 7, none⟩ = false := blk_free hs.mker.blk
  have hrz : (rule : Int) < (g.rules.length : Int) := by omega
  have hmz : (many : Int) ≤ 30000 := by unfold maxPacks at hmany; omega
  have hcl := hs.len
  unfold maxPacks at hmany
  unfold partV
  go_enter Try.func123, Try.ntmps123
  go_wp2_with fail
  clear hk7 hk3 hf7 hc1 hc2 hsy ho hs
  generalize ((w.setCell ⟨bm, 7, none⟩ (.int .i64 ((many : Int) + 1))).alloc (.cells #[.bool p.y.t, .int .i64 p.y.n, .int .i64 p.i, .int .i64 p.j] 177)) = W at hs2 hst2 hkids2 hbx ⊢
  have hkd := hkids2.below (w' := W.drew) ((Below.refl _ _).drew)
  have hs3 := hs2.below (w' := W.drew) ((Below.refl _ _).drew)
  have hst3 := hst2.trans (SpStep.ofBelow bm r _ ((Below.refl _ _).drew : Below W.heap.size W W.drew))
  have hbx3 : W.drew.heap[w.heap.size]? = _ := hbx
  have hx6 := blk_cell hs2.mker.blk (i := 6) rfl
  have hb0 := blk_cell hbx (i := 0) rfl
  have hb1 := blk_cell hbx (i := 1) rfl
  have hb2 := blk_cell hbx (i := 2) rfl
  have hb3 := blk_cell hbx (i := 3) rfl
  have hxl := blk_lt hbx
  have hxm := blk_lt hs2.mker.blk
  go_region_law (first | (refine step_call rfl 140 Try.f140 Try.func140 (by kernel_rfl) (by kernel_rfl) [_] _ rfl [.slice K kids.length ck] rfl _ (clone_parts _ kids K _ ck _ hkd (by omega)) ?_; rintro e8 w8 ⟨A8, c8, rfl, hb8, ho8⟩; refine ⟨_, rfl, ?_⟩; have hs8 := hs3.below hb8; have hx68 := blk_cell hs8.mker.blk (i := 6) rfl; have hbx8 := blk_below hb8 hxl hbx3; have hb08 := blk_cell hbx8 (i := 0) rfl; have hb18 := blk_cell hbx8 (i := 1) rfl; have hb28 := blk_cell hbx8 (i := 2) rfl; have hb38 := blk_cell hbx8 (i := 3) rfl; have hs9 := hs8.below (w' := w8.alloc (.cells #[.int .i64 rule, .slice A8 kids.length c8] 209)) ((Below.refl _ _).alloc (Nat.le_refl _) _); have hx69 := blk_cell hs9.mker.blk (i := 6) rfl; have hbx9 := blk_below (w' := w8.alloc (.cells #[.int .i64 rule, .slice A8 kids.length c8] 209)) (B := w8.heap.size) ((Below.refl _ _).alloc (Nat.le_refl _) _) (blk_lt hbx8) hbx8; have hb09 := blk_cell hbx9 (i := 0) rfl; have hb19 := blk_cell hbx9 (i := 1) rfl; have hb29 := blk_cell hbx9 (i := 2) rfl; have hb39 := blk_cell hbx9 (i := 3) rfl; obtain ⟨o1, st, hme, hm2, hes⟩ := hs9.map.entry Try.partKey Try.underlying107 p _ (alook_aput_same _ _ _); unfold partV hdrV at hme; have hs10 := hs9.entry1 hm2; obtain ⟨xs1, how1⟩ := hs10.own; have hmb := setBlock_same (w8.alloc (.cells #[.int .i64 rule, .slice A8 kids.length c8] 209)) r o1 hs9.map.lt) | (refine step_append_src _ rfl (.tmp 40) (.tmp 45) 204 rfl base 209 iw (.agg #[.int .i64 0, .slice none 0 0]) 2 32 Try.underlying204 hiw hw0 hw2 hw3 rfl (by decide) _ cur.length _ rfl how1.own (some ⟨w8.heap.size, 0, none⟩) 1 1 [.int .i64 rule, .slice A8 kids.length c8] rfl rfl (by intro h; cases h) (fun a ha j u hj => by injection ha with ha; subst ha; exact entry_cell hs8 hj) (fun u hu => by simp at hu; rcases hu with rfl | rfl <;> rfl) (cur.length + 1) rfl (by unfold maxLen; omega) (by omega) (by rw [setBlock_size, World.size_alloc]; have := hs8.le; omega) ?_; intro A9 c9 w9 hown9 hg9 hat9; have hr9 := (hg9.block r (blk_lt hmb) (fun e => by have := (hs10.hown e.symm).1; have := hs10.rl; omega)).trans hmb; obtain ⟨o2, hst, hm9⟩ := hes w9 (A9, cur.length + 1, c9) hr9; have hfin := split_fin hst3 hb8 hs9 hs3.le hs10 how1 ho8 hg9 hown9 hat9 hm9 hcl; unfold hdrV goInt at hst))
  all_goals
    go_wp2
    exact bodyPost_ret (v := .tuple #[]) (by kernel_rfl) rfl ⟨rfl, hfin⟩
end
end Go.Proofs.Ytdbkbkopcnkgcaa
