import Derived.Test.YtdbkbkopcnkgcaaGreatTreeI
open Go Go.RowKit
namespace Go.Proofs.YtdbkbkopcnkgcaaGreat

/-! ### copied -/
inductive SmallT : Tr → Prop where
  | mk (r t : Int) (ks : List Tr) (hl : ks.length ≤ 1000) (hk : ∀ k ∈ ks, SmallT k) : SmallT (Tr.mk r t ks)
theorem FitL.small {g : Gram} (h4 : ∀ r ∈ g.rules, r.r.length ≤ 4) {l : List Sym} {ks : List Tr} {p : List Int} (h : FitL g l ks p) : ∀ k ∈ ks, SmallT k := by
  induction h with
  | nil => simp
  | term n h ih =>
    intro k hk
    rcases List.mem_cons.1 hk with rfl | hk
    · exact SmallT.mk _ _ _ (by simp) (by simp)
    · exact ih k hk
  | non k r hr hu h ih1 ih2 =>
    intro z hz
    rcases List.mem_cons.1 hz with rfl | hz
    · exact SmallT.mk _ _ _ (by have := hu.len.2; have := h4 r (List.mem_of_getElem? hr); omega) ih1
    · exact ih2 z hz
theorem IsSl.treeK {F : Nat → Prop} {w : World} {A : Option Addr} {n c : Nat} {xs : List Tr} (h : IsSl Elt.tree F w (.slice A n c) xs) (k : Nat) (hk : k < xs.length) :
    ∃ b o, A = some ⟨b, o, none⟩ ∧ F b ∧ b < w.heap.size ∧ w.cell? ⟨b, o + k * 3, none⟩ = some (.int .i64 xs[k].rule) ∧ w.cell? ⟨b, o + k * 3 + 1, none⟩ = some (.int .i64 xs[k].term) ∧
      ∃ R cr, w.cell? ⟨b, o + k * 3 + 2, none⟩ = some (.slice R xs[k].kids.length cr) ∧ xs[k].kids.length ≤ cr ∧ IsSl Elt.tree F w (.slice R xs[k].kids.length cr) xs[k].kids := by
  obtain ⟨A', c', he, hl, h⟩ := h
  injection he with h1 h2 h3
  subst h1
  obtain ⟨b, o, rfl, hb, hlt, he⟩ := h k hk
  obtain ⟨h1, h2, _, R, cr, h5, h6, h7⟩ := tree_iff.1 he
  exact ⟨b, o, rfl, hb, hlt, h1.2, h2.2, R, cr, h5, h6, h7⟩
/-- no cell of the block is frozen -/
def Cel (w : World) (b : Nat) : Prop := ∀ i, w.frozen? ⟨b, i, none⟩ = false
theorem Cel.of {w w' : World} {b : Nat} (h : Cel w b) (e : w'.heap[b]? = w.heap[b]?) : Cel w' b := fun i => (World.frozen?_of_block (w := w) (a := ⟨b, i, none⟩) e).trans (h i)
theorem Cel.own {w : World} {base size n : Nat} {e : TypeId} {v : Value} {xs : List Value} (h : w.ownsRow base e size v n xs) {b : Nat} (hb : v.ownBlock = some b) : Cel w b := by
  obtain ⟨cs, h1, _⟩ := own_typed h b hb
  exact fun i => blk_free h1
def CopyEnd (t : Tr) (w w' : World) (e : Ending) : Prop := ∃ A' c', e = .returned (.agg #[.int .i64 t.rule, .int .i64 t.term, .slice A' t.kids.length c']) ∧ t.kids.length ≤ c' ∧ IsSl Elt.tree (fun b => w.heap.size ≤ b ∧ Cel w' b) w' (.slice A' t.kids.length c') t.kids ∧ Below w.heap.size w w'
theorem Tryz.infoTTreeI : (Tryz.prog.info? 45).map (fun i => (i.zero, i.size, i.bytes)) = some (some (.agg #[.int .i64 0, .int .i64 0, .slice none 0 0]), 3, 40) := by kernel_rfl

set_option maxRecDepth 100000 in
set_option maxHeartbeats 3200000 in
theorem copied_any {t : Tr} (ht : SmallT t) : ∀ (F : Nat → Prop) (w : World) (A : Option Addr) (c : Nat), IsSl Elt.tree F w (.slice A t.kids.length c) t.kids → Calls Tryz.prog 29 #[.agg #[.int .i64 t.rule, .int .i64 t.term, .slice A t.kids.length c]] w fun e w' => CopyEnd t w w' e := by
  induction ht with
  | mk rl tm ks hl1000 _ ih =>
    intro F w A c hks
    obtain ⟨iT, hiT, hT0, hT2, hT3⟩ := info_parts Tryz.infoTTreeI
    obtain ⟨t, hte⟩ : ∃ t, t = Tr.mk rl tm ks := ⟨_, rfl⟩
    have hkk : ks = t.kids := by rw [hte]; rfl
    rw [← hte] at hks ⊢
    rw [hkk] at ih hl1000
    clear hte hkk
    obtain ⟨n, hn⟩ : ∃ n, n = t.kids.length := ⟨_, rfl⟩
    unfold CopyEnd
    rw [← hn] at hks hl1000 ⊢
    have HN := Lib.hid hn
    have IH := Lib.hid ih
    clear hn ih
    obtain ⟨W3, hW3⟩ : ∃ W3 : World, W3 = ((w.alloc (.cells #[.int .i64 t.rule, .int .i64 t.term, .slice A n c] 45)).alloc (.cells #[.int .i64 0, .int .i64 0, .slice none 0 0] 45)).alloc (.cells #[.int .i64 t.rule, .int .i64 t.term, .slice none 0 0] 45) := ⟨_, rfl⟩
    have hb3 : Below w.heap.size w W3 := by rw [hW3]; exact below3 w _ _ _
    have gr : W3.heap[w.heap.size + 1]? = some (.cells #[.int .i64 0, .int .i64 0, .slice none 0 0] 45 (0, 0)) := by rw [hW3]; exact blk_new1 (w := w.alloc _) (by rw [World.size_alloc]) _ _
    have go : W3.heap[w.heap.size + 1 + 1]? = some (.cells #[.int .i64 t.rule, .int .i64 t.term, .slice none 0 0] 45 (0, 0)) := by rw [hW3]; exact blk_new' (by rw [World.size_alloc, World.size_alloc]) _
    go_enter Tryz.func29, Tryz.ntmps29
    go_wp2_with fail
    rw [← hW3]
    clear hW3
    obtain ⟨br, hbr⟩ : ∃ b, b = w.heap.size + 1 := ⟨_, rfl⟩
    obtain ⟨bo, hbo⟩ : ∃ b, b = w.heap.size + 1 + 1 := ⟨_, rfl⟩
    rw [← hbr] at gr
    rw [← hbo] at go
    rw [← hbo, ← hbr]
    have HBR := Lib.hid hbr
    have HBO := Lib.hid hbo
    clear hbr hbo
    go_loopg [14] n (fun gk i wr => ∃ (q : Nat) (Av : Option Addr) (cv : Nat) (news : List Value), q ≤ n ∧ gk = n - q ∧ i = .int .i64 q ∧ Below w.heap.size w wr ∧ wr.heap[bo]? = some (.cells #[.int .i64 t.rule, .int .i64 t.term, .slice Av q cv] 45 (0, 0)) ∧ wr.heap[br]? = some (.cells #[.int .i64 0, .int .i64 0, .slice none 0 0] 45 (0, 0)) ∧ wr.ownsRow w.heap.size 45 3 (.slice Av q cv) q news ∧ RowV Elt.tree (fun b => w.heap.size ≤ b ∧ (Value.slice Av q cv).ownBlock ≠ some b ∧ b ≠ bo ∧ b ≠ br ∧ Cel wr b) wr news (t.kids.take q) ∧ (Value.slice Av q cv).ownBlock ≠ some bo ∧ (Value.slice Av q cv).ownBlock ≠ some br)
    case atStart => exact ⟨0, none, 0, [], Nat.zero_le _, rfl, rfl, hb3, go, gr, World.ownsRow_nil _ _ _ _, RowV.nil _ _ _, (fun e => by cases e), fun e => by cases e⟩
    case round =>
      clear hb3 go gr
      obtain ⟨q, Av, cv, news, hq, rfl, rfl, hB, go, gr, hown, hrow, hno, hnr⟩ := hrel
      obtain ⟨wo, rfl⟩ : ∃ wo : World, wo = wr := ⟨_, rfl⟩
      have hwo := hB.size
      by_cases hlt : q < n
      · have hqk : q < t.kids.length := by rw [← HN.out]; exact hlt
        obtain ⟨b1, o1, rfl, hF1, hl1, d0, d1, Az, cz, d2, hcz, hzk⟩ := (hks.below hB).treeK q hqk
        have hcopy := IH.out t.kids[q] (List.getElem_mem hqk)
        have htk : t.kids.take (q + 1) = t.kids.take q ++ [t.kids[q]] := by rw [List.take_succ_eq_append_getElem hqk]
        generalize t.kids[q] = z at d0 d1 d2 hcz hzk hcopy htk
        obtain ⟨nz, hnz⟩ : ∃ n, n = z.kids.length := ⟨_, rfl⟩
        rw [← hnz] at d2 hcz hzk hcopy
        have hqz : (q : Int) < (n : Int) := by omega
        obtain ⟨W, hW⟩ : ∃ W : World, W = wo.alloc (.cells #[.int .i64 z.rule, .int .i64 z.term, .slice Az nz cz] 45) := ⟨_, rfl⟩
        have hbA : Below wo.heap.size wo W := by rw [hW]; exact below1 wo _
        obtain ⟨b5, hb5⟩ : ∃ b, b = wo.heap.size := ⟨_, rfl⟩
        have g5 : W.heap[b5]? = some (.cells #[.int .i64 z.rule, .int .i64 z.term, .slice Az nz cz] 45 (0, 0)) := by rw [hb5, hW]; exact heap_alloc_new wo _
        have hbAd : Below wo.heap.size wo W.drew := hbA.trans ((Below.refl _ _).drew.mono hbA.size)
        have hBd := hB.trans (hbAd.mono hwo)
        have hcp := hcopy F W.drew Az cz (hzk.below hbAd)
        unfold CopyEnd at hcp
        rw [← hnz] at hcp
        have HCP := Lib.hid hcp
        have hS0 : W.drew.heap[bo]? = some (.cells #[.int .i64 t.rule, .int .i64 t.term, .slice Av q cv] 45 (0, 0)) ∧ W.drew.heap[b5]? = some (.cells #[.int .i64 z.rule, .int .i64 z.term, .slice Az nz cz] 45 (0, 0)) := ⟨blk_below hbAd (blk_lt go) go, g5⟩
        have hownd := own_belowV hown hbAd
        have HOWN := Lib.hid hownd
        have hrowd : RowV Elt.tree (fun b => w.heap.size ≤ b ∧ (Value.slice Av q cv).ownBlock ≠ some b ∧ b ≠ bo ∧ b ≠ br ∧ Cel W.drew b) W.drew news (t.kids.take q) := hrow.keep hbAd.size fun b h1 h2 => ⟨⟨h1.1, h1.2.1, h1.2.2.1, h1.2.2.2.1, h1.2.2.2.2.of (hbAd.block b h2)⟩, hbAd.block b h2⟩
        have hbw : w.heap.size ≤ W.drew.heap.size := hBd.size
        have hlo := blk_lt go
        have hlr := blk_lt gr
        have gr5 := blk_below hbAd hlr gr
        have hszA := hbAd.size
        have hob : ∀ b, (Value.slice Av q cv).ownBlock = some b → b < wo.heap.size := fun b hb => (hown.lt b hb).2
        have HEND : ∀ (w5 : World) (A5 : Option Addr) (c5 : Nat) (A7 : Option Addr) (c7 : Nat) (w7 : World), nz ≤ c5 → IsSl Elt.tree (fun b => W.drew.heap.size ≤ b ∧ Cel w5 b) w5 (.slice A5 nz c5) z.kids → Below W.drew.heap.size W.drew w5 → w7.ownsRow w.heap.size 45 3 (.slice A7 (q + 1) c7) (q + 1) (news ++ [.int .i64 z.rule, .int .i64 z.term, .slice A5 nz c5]) → (w5.alloc (.cells #[.int .i64 z.rule, .int .i64 z.term, .slice A5 nz c5] 45)).grownBy w7 (Value.slice Av q cv).ownBlock → ((Value.slice A7 (q + 1) c7).ownBlock = (Value.slice Av q cv).ownBlock ∨ (Value.slice A7 (q + 1) c7).ownBlock = some (w5.alloc (.cells #[.int .i64 z.rule, .int .i64 z.term, .slice A5 nz c5] 45)).heap.size) →
            (w7.heap[bo]? = some (.cells #[.int .i64 t.rule, .int .i64 t.term, .slice Av q cv] 45 (0, 0)) ∧ w7.heap[b5]? = some (.cells #[.int .i64 z.rule, .int .i64 z.term, .slice Az nz cz] 45 (0, 0))) ∧
            (Below w.heap.size w (w7.setCell ⟨bo, 2, none⟩ (.slice A7 (q + 1) c7)) ∧ (w7.setCell ⟨bo, 2, none⟩ (.slice A7 (q + 1) c7)).heap[bo]? = some (.cells #[.int .i64 t.rule, .int .i64 t.term, .slice A7 (q + 1) c7] 45 (0, 0)) ∧ (w7.setCell ⟨bo, 2, none⟩ (.slice A7 (q + 1) c7)).heap[br]? = some (.cells #[.int .i64 0, .int .i64 0, .slice none 0 0] 45 (0, 0)) ∧ (w7.setCell ⟨bo, 2, none⟩ (.slice A7 (q + 1) c7)).ownsRow w.heap.size 45 3 (.slice A7 (q + 1) c7) (q + 1) (news ++ [.int .i64 z.rule, .int .i64 z.term, .slice A5 nz c5]) ∧ RowV Elt.tree (fun b => w.heap.size ≤ b ∧ (Value.slice A7 (q + 1) c7).ownBlock ≠ some b ∧ b ≠ bo ∧ b ≠ br ∧ Cel (w7.setCell ⟨bo, 2, none⟩ (.slice A7 (q + 1) c7)) b) (w7.setCell ⟨bo, 2, none⟩ (.slice A7 (q + 1) c7)) (news ++ [.int .i64 z.rule, .int .i64 z.term, .slice A5 nz c5]) (t.kids.take (q + 1)) ∧ (Value.slice A7 (q + 1) c7).ownBlock ≠ some bo ∧ (Value.slice A7 (q + 1) c7).ownBlock ≠ some br) := fun w5 A5 c5 A7 c7 w7 hc5 hk5 hb5' hown7 hg7 hat7 => by
          have hb6 := below1 w5 (.cells #[.int .i64 z.rule, .int .i64 z.term, .slice A5 nz c5] 45)
          have hs5 := hb5'.size
          have hs6 := hb6.size
          have hkeep : ∀ b, b < W.drew.heap.size → (Value.slice Av q cv).ownBlock ≠ some b → w7.heap[b]? = W.drew.heap[b]? := fun b hl hne => (hg7.block b (by omega) fun e => hne e.symm).trans ((hb6.block b (by omega)).trans (hb5'.block b hl))
          have e1 := (hkeep bo (by omega) hno).trans hS0.1
          have e2 := (hkeep b5 (blk_lt g5) fun e => by have := hob _ e; omega).trans hS0.2
          have e3 := (hkeep br (by omega) hnr).trans gr5
          have hbob : br ≠ bo := by have := HBR.out; have := HBO.out; omega
          have hwbo : w.heap.size ≤ bo := by have := HBO.out; omega
          have ho7 : ∀ b, (Value.slice A7 (q + 1) c7).ownBlock = some b → b ≠ bo ∧ b ≠ br := fun b hb => by
            rcases hat7 with h1 | h1
            · rw [h1] at hb
              exact ⟨fun e => hno (e ▸ hb), fun e => hnr (e ▸ hb)⟩
            · rw [h1] at hb
              injection hb with hb
              exact ⟨by omega, by omega⟩
          have hv5 : Elt.tree.V (fun b => w.heap.size ≤ b ∧ (Value.slice Av q cv).ownBlock ≠ some b ∧ b ≠ bo ∧ b ≠ br ∧ Cel w5 b) w5 [.int .i64 z.rule, .int .i64 z.term, .slice A5 nz c5] z := by
            rw [hnz]
            rw [hnz] at hk5 hc5
            refine tree_V hc5 (hk5.weak fun b hb => ⟨by have := hb.1; omega, fun e => ?_, by have := hb.1; omega, by have := hb.1; omega, hb.2⟩)
            have := hob _ e; have := hb.1; omega
          have hrow5 : RowV Elt.tree (fun b => w.heap.size ≤ b ∧ (Value.slice Av q cv).ownBlock ≠ some b ∧ b ≠ bo ∧ b ≠ br ∧ Cel w5 b) w5 (news ++ [.int .i64 z.rule, .int .i64 z.term, .slice A5 nz c5]) (t.kids.take (q + 1)) := by
            rw [htk]
            exact (hrowd.keep hs5 fun b h1 h2 => ⟨⟨h1.1, h1.2.1, h1.2.2.1, h1.2.2.2.1, h1.2.2.2.2.of (hb5'.block b h2)⟩, hb5'.block b h2⟩).append (RowV.one hv5)
          refine ⟨⟨e1, e2⟩, ?_, ?_, ?_, ?_, ?_, fun e => (ho7 _ e).1 rfl, fun e => (ho7 _ e).2 rfl⟩
          · exact (((hBd.trans (hb5'.mono hbw)).trans (hb6.mono (Nat.le_trans hbw hs5))).grown hg7 (by omega) fun j hj => own_base' hown j hj).setCell hwbo _
          · rw [heap_set e1]; rfl
          · rw [heap_set_ne hbob]; exact e3
          · exact own_keep hown7 fun b hb => heap_set_ne (ho7 b hb).1 _ _
          · have hq7 : ∀ b, b < w5.heap.size → (Value.slice Av q cv).ownBlock ≠ some b → b ≠ bo → (w7.setCell ⟨bo, 2, none⟩ (.slice A7 (q + 1) c7)).heap[b]? = w5.heap[b]? := fun b h2 h3 h4 => (heap_set_ne h4 _ _).trans ((hg7.block b (by omega) fun e => h3 e.symm).trans (hb6.block b h2))
            refine hrow5.keep (by rw [size_setCell]; exact Nat.le_trans hs6 hg7.size) fun b h1 h2 => ⟨⟨h1.1, fun e => ?_, h1.2.2.1, h1.2.2.2.1, h1.2.2.2.2.of (hq7 b h2 h1.2.1 h1.2.2.1)⟩, hq7 b h2 h1.2.1 h1.2.2.1⟩
            rcases hat7 with h3 | h3
            · rw [h3] at e; exact h1.2.1 e
            · rw [h3] at e; injection e with e; omega
        have HHC := Lib.hid hcz
        clear hcp hcopy hown hownd hrow hrowd go gr htk hzk hBd hbA hbAd g5 gr5 hob hno hnr hlo hlr hcz hszA hB hnz
        go_wp2_with fail
        rw [← hW, ← hb5]
        clear hW d0 d1 d2 hb5
        refine wp_region_any (by kernel_rfl) ?_
        change wpAny _ _ _ _ _ _ _ (World.drew _)
        refine wpAny_take (i := 0) (v := ?_) rfl (by kernel_rfl) (by kernel_rfl) (by kernel_rfl) (fun _ _ _ h => h) (Or.inl ⟨by go_simp, ?_⟩) ?_
        rotate_left
        · (intro w'; go_simp; first | done | with_reducible rfl)
        refine wpAny_of_D (S := fun w' => w'.heap[bo]? = some (.cells #[.int .i64 t.rule, .int .i64 t.term, .slice Av q cv] 45 (0, 0)) ∧ w'.heap[b5]? = some (.cells #[.int .i64 z.rule, .int .i64 z.term, .slice Az nz cz] 45 (0, 0))) (dep := 7) _ _ _ _ ?_
        refine wpAnyD_load (i := 1) (v := .slice Av q cv) [5, 6, 7] rfl (by kernel_rfl) (by kernel_rfl) (by kernel_rfl) (by kernel_rfl) (by kernel_rfl) (by kernel_rfl) (by kernel_rfl) (fun _ _ _ h => h) (by go_simp) ?_ hS0 ?_
        · (intro w' hS; obtain ⟨y1, y2⟩ := hS; have z0 := blk_cell y1 (i := 2) rfl; go_simp)
        refine wpAnyD_load (i := 2) (v := .agg #[.int .i64 z.rule, .int .i64 z.term, .slice Az nz cz]) [3, 4, 5, 6, 7] rfl (by kernel_rfl) (by kernel_rfl) (by kernel_rfl) (by kernel_rfl) (by kernel_rfl) (by kernel_rfl) (by kernel_rfl) (fun _ _ _ h => h) (by go_simp) ?_ hS0 ?_
        · (intro w' hS; obtain ⟨y1, y2⟩ := hS; have z0 := blk_cell y2 (i := 0) rfl; have z1 := blk_cell y2 (i := 1) rfl; have z2 := blk_cell y2 (i := 2) rfl; go_simp)
        refine wpAnyD_each (rs := [3]) (by kernel_rfl) (by simp) ?_
        refine EachD.cons (i := 3) (o := _) rfl (fun KK hKK => ?_) EachD.nil
        simp only [List.getElem_toArray, List.getElem_cons_succ, List.getElem_cons_zero]
        refine step_call rfl 29 Tryz.f29 Tryz.func29 (by kernel_rfl) (by kernel_rfl) [.tmp 20] #[45] (by rfl) [.agg #[.int .i64 z.rule, .int .i64 z.term, .slice Az nz cz]] (by kernel_rfl) _ HCP.out ?_
        rintro e5 w5 ⟨A5, c5, rfl, hc5, hk5, hb5⟩
        refine ⟨_, rfl, ?_⟩
        have hS5 := hS0
        replace hS5 := And.intro (blk_below hb5 (blk_lt hS0.1) hS0.1) (blk_below hb5 (blk_lt hS0.2) hS0.2)
        try go_simp
        refine hKK _ _ (fun _ => hS5) ?_
        clear hKK KK
        refine wpAnyD_each (rs := [4]) (by kernel_rfl) (by simp) ?_
        refine EachD.cons (i := 4) (o := _) rfl (fun KK hKK => ?_) EachD.nil
        go_simp
        have hb6 := below1 w5 (.cells #[.int .i64 z.rule, .int .i64 z.term, .slice A5 nz c5] 45)
        have hS6 := And.intro (blk_below hb6 (blk_lt hS5.1) hS5.1) (blk_below hb6 (blk_lt hS5.2) hS5.2)
        refine hKK _ _ (fun _ => hS6) ?_
        clear hKK KK
        refine wpAnyD_each (rs := [5]) (by kernel_rfl) (by simp) ?_
        refine EachD.cons (i := 5) (o := _) rfl (fun KK hKK => ?_) EachD.nil
        refine step_append_src _ rfl (.tmp 19) (.tmp 22) 38 rfl w.heap.size 45 iT (.agg #[.int .i64 0, .int .i64 0, .slice none 0 0]) 3 40 Tryz.underlying38 hiT hT0 hT2 hT3 rfl (by decide) (.slice Av q cv) q news (by rfl) (own_belowV (own_belowV HOWN.out hb5) hb6) (some ⟨w5.heap.size, 0, none⟩) 1 1 [.int .i64 z.rule, .int .i64 z.term, .slice A5 nz c5] (by rfl) rfl (fun h => by cases h) (fun a ha j u hj => by injection ha with ha; subst ha; exact cells_new _ _ _ _ _ hj) (by intro u hu; simp at hu; rcases hu with rfl | rfl | rfl <;> rfl) (q + 1) rfl (by unfold maxLen; omega) (by omega) (Nat.le_trans hbw (Nat.le_trans hb5.size hb6.size)) ?_
        intro A7 c7 w7 hown7 hg7 hat7
        have hend := HEND w5 A5 c5 A7 c7 w7 hc5 hk5 hb5 hown7 hg7 hat7
        obtain ⟨hS7, hend⟩ := hend
        have HE7 := Lib.hid hend
        clear hend hown7 hg7 hat7 hb6 hS6 hS5 hk5 hc5 hb5
        refine hKK _ _ (fun _ => hS7) ?_
        clear hKK KK
        refine wpAnyD_pure (i := 6) (v := ?_) [7] rfl (by kernel_rfl) (by kernel_rfl) (by kernel_rfl) (by kernel_rfl) (by kernel_rfl) (by kernel_rfl) (by kernel_rfl) (fun _ _ _ h => h) (by go_simp) ?_ hS7 ?_
        rotate_left
        · (intro w'; go_simp; first | done | with_reducible rfl)
        refine wpAnyD_each (rs := [7]) (by kernel_rfl) (by simp) ?_
        refine EachD.cons (i := 7) (o := _) rfl (fun KK hKK => ?_) EachD.nil
        have z0 := blk_cell hS7.1 (i := 2) rfl
        have z1 : w7.frozen? ⟨bo, 2, none⟩ = false := blk_free hS7.1
        go_simp
        refine hKK _ _ (fun e => Bool.noConfusion (show true = false from e)) ?_
        clear hKK KK
        refine wpAnyD_of _ _ _ _ (by kernel_rfl) ?_
        refine wpAny_done (by kernel_rfl) ?_ _
        have HE := HE7.out
        clear HE7 HEND HOWN z0 z1 hS7 hS0
        go_wp2_with fail
        go_roundg (n - (q + 1))
        case measure => omega
        case rel => exact ⟨q + 1, A7, c7, _, by omega, rfl, by go_num, HE.1, HE.2.1, HE.2.2.1, HE.2.2.2.1, HE.2.2.2.2.1, HE.2.2.2.2.2.1, HE.2.2.2.2.2.2⟩
      · obtain rfl : q = n := by omega
        have hcap := own_cap hown
        have hsl := hrow.isSl (n := q) (by rw [List.length_take, ← HN.out, Nat.min_self]) hown
        rw [List.take_of_length_le (by rw [← HN.out]; exact Nat.le_refl _)] at hsl
        have hw1 := heap_set (heap_set (heap_set gr 0 (.int .i64 t.rule)) 1 (.int .i64 t.term)) 2 (.slice Av q cv)
        have x0 := blk_cell hw1 (i := 0) rfl
        have x1 := blk_cell hw1 (i := 1) rfl
        have x2 := blk_cell hw1 (i := 2) rfl
        have z0 := blk_cell go (i := 0) rfl
        have z1 := blk_cell go (i := 1) rfl
        have z2 := blk_cell go (i := 2) rfl
        have y0 := blk_cell gr (i := 0) rfl
        have y1 := blk_cell gr (i := 1) rfl
        have y2 := blk_cell gr (i := 2) rfl
        have yf : ∀ i, wo.frozen? ⟨br, i, none⟩ = false := fun i => blk_free gr
        have hbrw : w.heap.size ≤ br := by have := HBR.out; omega
        have hfs : ∀ b, b ≠ br → (((wo.setCell ⟨br, 0, none⟩ (.int .i64 t.rule)).setCell ⟨br, 1, none⟩ (.int .i64 t.term)).setCell ⟨br, 2, none⟩ (.slice Av q cv)).heap[b]? = wo.heap[b]? := fun b hb => (heap_set_ne hb _ _).trans ((heap_set_ne hb _ _).trans (heap_set_ne hb _ _))
        have hfin : IsSl Elt.tree (fun b => w.heap.size ≤ b ∧ Cel (((wo.setCell ⟨br, 0, none⟩ (.int .i64 t.rule)).setCell ⟨br, 1, none⟩ (.int .i64 t.term)).setCell ⟨br, 2, none⟩ (.slice Av q cv)) b) (((wo.setCell ⟨br, 0, none⟩ (.int .i64 t.rule)).setCell ⟨br, 1, none⟩ (.int .i64 t.term)).setCell ⟨br, 2, none⟩ (.slice Av q cv)) (.slice Av t.kids.length cv) t.kids := by
          rw [← HN.out]
          refine (hsl.old.keep (fun b hb => hfs b fun e => ?_) (by rw [size_setCell, size_setCell, size_setCell]; exact Nat.le_refl _)).weak fun b hb => ?_
          · subst e
            rcases hb.1 with h1 | h1
            · exact h1.2.2.2.1 rfl
            · exact hnr h1
          · rcases hb.1 with h1 | h1
            · exact ⟨h1.1, h1.2.2.2.2.of (hfs b h1.2.2.2.1)⟩
            · exact ⟨own_base' hown b h1, (Cel.own hown h1).of (hfs b fun e => hnr (e ▸ h1))⟩
        have hbf := ((hB.setCell (p := ⟨br, 0, none⟩) hbrw (.int .i64 t.rule)).setCell (p := ⟨br, 1, none⟩) hbrw (.int .i64 t.term)).setCell (p := ⟨br, 2, none⟩) hbrw (.slice Av q cv)
        have HF := Lib.hid hfin
        clear hfin hsl hrow hown go gr hB hw1 hfs
        go_wp2_with fail
        have hres : Tryz.f29.results = #[.cell 2 45] := by kernel_rfl
        refine bodyPost_ret (v := .agg #[.int .i64 t.rule, .int .i64 t.term, .slice Av q cv]) ?_ rfl ?_
        · simp only [results, hres]
          go_simp
        exact ⟨Av, cv, rfl, hcap, by have := HF.out; rwa [← HN.out] at this, hbf⟩
end Go.Proofs.YtdbkbkopcnkgcaaGreat
