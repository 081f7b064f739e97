import Derived.Test.YtdbkbkopcnkgcaaGreatTreeE
import Derived.Test.YtdbkbkopcnkgcaaGreatMeanO
open Go Go.RowKit
open Go.ChangeMaps (setBlock)
namespace Go.Proofs.YtdbkbkopcnkgcaaGreat

/-! ### the best rows in memory -/
structure Hd where
  A : Option Addr
  n : Nat
  c : Nat
def hdR (h : Hd) : Value := .slice h.A h.n h.c
theorem Tryz.zeroRankeds (w : World) : (zeroValue 86).run Tryz.prog w = .ok (.slice none 0 0) w := by kernel_rfl
/-- what is found at each part, in memory -/
def OfAt (F : Nat → Prop) (w : World) (hs : List (MPart × Hd)) (of : MPart → List Rk) : Prop := ∀ y, ∃ A c, ((alook hs y).map hdR).getD (.slice none 0 0) = .slice A (of y).length c ∧ (of y).length ≤ c ∧ IsSl Elt.ranked F w (.slice A (of y).length c) (of y)
structure BestAt (F : Nat → Prop) (w : World) (bb be most bo : Nat) (av : Value) (hs : List (MPart × Hd)) (of : MPart → List Rk) : Prop where
  blk : w.heap[bb]? = some (.cells #[.pointer (some ⟨be, 0, none⟩), .int .i64 most, .map (some bo), av] 83 (0, 0))
  map : IsMap mpartV hdR w bo hs
  rows : OfAt F w hs of
theorem OfAt.below {F : Nat → Prop} {w w' : World} {hs : List (MPart × Hd)} {of : MPart → List Rk} (h : OfAt F w hs of) (hb : Below w.heap.size w w') : OfAt F w' hs of := fun y => by
  obtain ⟨A, c, h1, h2, h3⟩ := h y
  exact ⟨A, c, h1, h2, h3.below hb⟩
theorem BestAt.below {F : Nat → Prop} {w w' : World} {bb be most bo : Nat} {av : Value} {hs : List (MPart × Hd)} {of : MPart → List Rk} (h : BestAt F w bb be most bo av hs of) (hb : Below w.heap.size w w') : BestAt F w' bb be most bo av hs of := ⟨blk_below hb (blk_lt h.blk) h.blk, h.map.below hb, h.rows.below hb⟩

theorem ranked_one {F : Nat → Prop} {w : World} {b : Nat} {T : TypeId} {a : Rk} {A B : Option Addr} {c d : Nat} (hb : F b) (hblk : w.heap[b]? = some (.cells #[.int .i64 a.size, .slice A a.pre.length c, .slice B a.row.length d] T (0, 0))) (hc : a.pre.length ≤ c) (h : IsSl Elt.int F w (.slice A a.pre.length c) a.pre) (hd : a.row.length ≤ d) (k : IsSl Elt.tree F w (.slice B a.row.length d) a.row) : IsSl Elt.ranked F w (.slice (some ⟨b, 0, none⟩) 1 1) [a] := by
  refine ⟨some ⟨b, 0, none⟩, 1, rfl, by simp, fun q hq => ?_⟩
  obtain rfl : q = 0 := by simpa using hq
  refine ⟨b, 0, rfl, hb, blk_lt hblk, ?_⟩
  refine (ranked_V hc h hd k).2.2 F w b _ (Nat.le_refl _) (fun k h _ => ⟨h, rfl⟩) hb fun j u hj => ?_
  rw [Nat.zero_mul, Nat.add_zero, Nat.zero_add]
  exact blk_cell hblk (by rw [← hj]; simp)
theorem tree_one {F : Nat → Prop} {w : World} {b : Nat} {T : TypeId} {t : Tr} {A : Option Addr} {c : Nat} (hb : F b) (hblk : w.heap[b]? = some (.cells #[.int .i64 t.rule, .int .i64 t.term, .slice A t.kids.length c] T (0, 0))) (hc : t.kids.length ≤ c) (h : IsSl Elt.tree F w (.slice A t.kids.length c) t.kids) : IsSl Elt.tree F w (.slice (some ⟨b, 0, none⟩) 1 1) [t] := by
  refine ⟨some ⟨b, 0, none⟩, 1, rfl, by simp, fun q hq => ?_⟩
  obtain rfl : q = 0 := by simpa using hq
  refine ⟨b, 0, rfl, hb, blk_lt hblk, ?_⟩
  refine (tree_V hc h).2.2 F w b _ (Nat.le_refl _) (fun k h _ => ⟨h, rfl⟩) hb fun j u hj => ?_
  rw [Nat.zero_mul, Nat.add_zero, Nat.zero_add]
  exact blk_cell hblk (by rw [← hj]; simp)
theorem sl_nilT {α : Type} (d : Elt α) (F : Nat → Prop) (w : World) : IsSl d F w (.slice none 0 0) [] := ⟨none, 0, rfl, by simp, fun k hk => absurd hk (by simp)⟩

/-- rows that the call has made, in blocks of G -/
structure OwnG (w : World) (base : Nat) (G : Nat → Prop) (v : Value) (L : List (Rk × RH)) : Prop where
  own : w.ownsRow base 90 3 v L.length (L.flatMap encR)
  good : ∀ e ∈ L, GoodR (fun b => G b ∧ v.ownBlock ≠ some b) w e
theorem OwnG.nil (w : World) (base : Nat) (G : Nat → Prop) : OwnG w base G (.slice none 0 0) [] := ⟨World.ownsRow_nil _ _ _ _, by simp⟩
theorem OwnG.keep {w w' : World} {base : Nat} {G H : Nat → Prop} {v : Value} {L : List (Rk × RH)} (h : OwnG w base G v L) (hs : w.heap.size ≤ w'.heap.size) (hrow : ∀ b, v.ownBlock = some b → w'.heap[b]? = w.heap[b]?) (hk : ∀ b, G b → b < w.heap.size → H b ∧ w'.heap[b]? = w.heap[b]?) : OwnG w' base H v L := by
  refine ⟨⟨h.own.1, ?_⟩, fun e he => (h.good e he).keep hs fun b hb hl => ⟨⟨(hk b hb.1 hl).1, hb.2⟩, (hk b hb.1 hl).2⟩⟩
  rcases h.own.2 with h2 | ⟨g, cap, cur, hv, h3, h4, h5⟩
  · exact .inl h2
  · exact .inr ⟨g, cap, cur, hv, h3, (hrow g (by rw [hv]; rfl)).trans h4, h5⟩
theorem OwnG.snoc {w w1 : World} {base : Nat} {G : Nat → Prop} {v v' : Value} {L : List (Rk × RH)} {e : Rk × RH} (h : OwnG w base G v L) (he : GoodR (fun b => G b ∧ v.ownBlock ≠ some b) w e) (hg : w.grownBy w1 v.ownBlock) (hat : v'.ownBlock = v.ownBlock ∨ v'.ownBlock = some w.heap.size)
    (hown : w1.ownsRow base 90 3 v' (L.length + 1) (L.flatMap encR ++ encR e)) : OwnG w1 base G v' (L ++ [e]) := by
  have hk : ∀ b, (G b ∧ v.ownBlock ≠ some b) → b < w.heap.size → (G b ∧ v'.ownBlock ≠ some b) ∧ w1.heap[b]? = w.heap[b]? := fun b hb hl => ⟨⟨hb.1, fun e => by
    rcases hat with h1 | h1
    · rw [h1] at e; exact hb.2 e
    · rw [h1] at e; injection e with e; omega⟩, hg.block b hl fun e => hb.2 e.symm⟩
  refine ⟨by rw [List.length_append, List.flatMap_append]; simpa using hown, fun a ha => ?_⟩
  rcases List.mem_append.1 ha with ha | ha
  · exact (h.good a ha).keep hg.size hk
  · simp only [List.mem_singleton] at ha
    rw [ha]; exact he.keep hg.size hk
/-- the block of a row has the row's type -/
theorem own_type {w : World} {base size n b : Nat} {e T : TypeId} {v : Value} {xs : List Value} {cs : Array Value} {fr : Nat × Nat} (h : w.ownsRow base e size v n xs) (hv : v.ownBlock = some b) (hb : w.heap[b]? = some (.cells cs T fr)) : T = e := by
  rcases h.2 with ⟨rfl, _⟩ | ⟨g, cap, cur, rfl, _, h4, _⟩
  · cases hv
  · injection hv with hv
    subst hv
    simp only at hb
    rw [h4] at hb
    injection hb with hb
    injection hb with _ hb
    exact hb.symm
theorem blk_type {w : World} {a b : Nat} {T U : TypeId} {cs ds : Array Value} {f1 f2 : Nat × Nat} (h : w.heap[a]? = some (.cells cs T f1)) (k : w.heap[b]? = some (.cells ds U f2)) (hne : T ≠ U) : a ≠ b := fun e => by
  subst e
  rw [h] at k
  injection k with k
  injection k with _ k
  exact hne k

/-! ### again: its boxes -/
structure AgB where
  bn : Nat
  bx : Nat
  br : Nat
  bp : Nat
  ba : Nat
def AgB.caps (k : AgB) : Array Value := #[.pointer (some ⟨k.bn, 0, none⟩), .pointer (some ⟨k.bx, 0, none⟩), .pointer (some ⟨k.br, 0, none⟩), .pointer (some ⟨k.bp, 0, none⟩), .pointer (some ⟨k.ba, 0, none⟩)]
def AgG (K F : Nat → Prop) (base wsp ba : Nat) (b : Nat) : Prop := (F b ∨ base ≤ b) ∧ ¬ (K b ∧ wsp ≤ b) ∧ b ≠ ba
structure AgAt (K F : Nat → Prop) (w0 : World) (wsp : Nat) (W : World) (k : AgB) (bb : Nat) (y : MPart) (kn : Nat) (r : Rule) (R : Option Addr) (rc : Nat) (v : Value) (L : List (Rk × RH)) : Prop where
  below : Below w0.heap.size w0 W
  lo : w0.heap.size ≤ k.ba
  sp : w0.heap.size ≤ wsp
  ln : k.bn < wsp
  lx : k.bx < wsp
  lr : k.br < wsp
  lp : k.bp < wsp
  hn : W.heap[k.bn]? = some (.cells #[.int .i64 kn] 3 (0, 0))
  hx : W.heap[k.bx]? = some (.cells #[.int .i64 y.n, .int .i64 y.i, .int .i64 y.j] 78 (0, 0))
  hr : W.heap[k.br]? = some (.cells #[.int .i64 r.l, .slice R r.r.length rc] 99 (0, 0))
  hp : W.heap[k.bp]? = some (.cells #[.pointer (some ⟨bb, 0, none⟩)] 79 (0, 0))
  ha : W.heap[k.ba]? = some (.cells #[v] 86 (0, 0))
  row : OwnG W w0.heap.size (AgG K F w0.heap.size wsp k.ba) v L
  nK : ¬ K k.ba
  nrow : ∀ b, v.ownBlock = some b → ¬ K b
section
variable {K F : Nat → Prop} {w0 : World} {wsp : Nat} {W : World} {k : AgB} {bb : Nat} {y : MPart} {kn : Nat} {r : Rule} {R : Option Addr} {rc : Nat} {v : Value} {L : List (Rk × RH)}
theorem AgAt.keeps {w' : World} (h : AgAt K F w0 wsp W k bb y kn r R rc v L) (hs : W.heap.size ≤ w'.heap.size) (hbw : Below w0.heap.size w0 w') (hk : ∀ b, ¬ (K b ∧ wsp ≤ b) → b < W.heap.size → w'.heap[b]? = W.heap[b]?) : AgAt K F w0 wsp w' k bb y kn r R rc v L :=
  ⟨hbw, h.lo, h.sp, h.ln, h.lx, h.lr, h.lp, (hk _ (fun e => by have := h.ln; omega) (blk_lt h.hn)).trans h.hn, (hk _ (fun e => by have := h.lx; omega) (blk_lt h.hx)).trans h.hx, (hk _ (fun e => by have := h.lr; omega) (blk_lt h.hr)).trans h.hr, (hk _ (fun e => by have := h.lp; omega) (blk_lt h.hp)).trans h.hp, (hk _ (fun e => h.nK e.1) (blk_lt h.ha)).trans h.ha,
    h.row.keep hs (fun b hb => hk b (fun e => h.nrow b hb e.1) (h.row.own.lt b hb).2) fun b hb hl => ⟨hb, hk b hb.2.1 hl⟩, h.nK, h.nrow⟩
theorem AgAt.beneath {w' : World} (h : AgAt K F w0 wsp W k bb y kn r R rc v L) (hb : Below W.heap.size W w') : AgAt K F w0 wsp w' k bb y kn r R rc v L :=
  h.keeps hb.size (h.below.trans (hb.mono h.below.size)) fun b _ hl => hb.block b hl
theorem AgAt.poke {b i : Nat} {u : Value} (h : AgAt K F w0 wsp W k bb y kn r R rc v L) (hb : wsp ≤ b) (hK : K b) : AgAt K F w0 wsp (W.setCell ⟨b, i, none⟩ u) k bb y kn r R rc v L :=
  h.keeps (by rw [size_setCell]; exact Nat.le_refl _) (h.below.setCell (Nat.le_trans h.sp hb) _) fun b' hb' _ => heap_set_ne (fun e => hb' (by rw [e]; exact ⟨hK, hb⟩)) _ _
theorem AgAt.less {K' : Nat → Prop} (h : AgAt K F w0 wsp W k bb y kn r R rc v L) (hk : ∀ b, K' b → b < W.heap.size → K b) : AgAt K' F w0 wsp W k bb y kn r R rc v L :=
  ⟨h.below, h.lo, h.sp, h.ln, h.lx, h.lr, h.lp, h.hn, h.hx, h.hr, h.hp, h.ha, h.row.keep (Nat.le_refl _) (fun _ _ => rfl) fun b hb hl => ⟨⟨hb.1, fun e => hb.2.1 ⟨hk b e.1 hl, e.2⟩, hb.2.2⟩, rfl⟩, fun e => h.nK (hk _ e (blk_lt h.ha)), fun b hb e => h.nrow b hb (hk b e (h.row.own.lt b hb).2)⟩
theorem AgAt.push {w1 : World} {v' : Value} {e : Rk × RH} (h : AgAt K F w0 wsp W k bb y kn r R rc v L) (he : GoodR (fun b => AgG K F w0.heap.size wsp k.ba b ∧ v.ownBlock ≠ some b) W e) (hg : W.grownBy w1 v.ownBlock) (hat : v'.ownBlock = v.ownBlock ∨ v'.ownBlock = some W.heap.size) (hown : w1.ownsRow w0.heap.size 90 3 v' (L.length + 1) (L.flatMap encR ++ encR e)) (hKW : ∀ b, K b → b < W.heap.size) :
    AgAt K F w0 wsp (w1.setCell ⟨k.ba, 0, none⟩ v') k bb y kn r R rc v' (L ++ [e]) := by
  have hgr : ∀ {b : Nat} {cs : Array Value} {T : TypeId}, W.heap[b]? = some (.cells cs T (0, 0)) → T ≠ 90 → w1.heap[b]? = some (.cells cs T (0, 0)) := fun h1 hT => (hg.block _ (blk_lt h1) fun e => hT (own_type h.row.own e.symm h1)).trans h1
  have ga := hgr h.ha (by decide)
  have hset : ∀ {b : Nat} {cs : Array Value} {T : TypeId}, W.heap[b]? = some (.cells cs T (0, 0)) → T ≠ 90 → T ≠ 86 → (w1.setCell ⟨k.ba, 0, none⟩ v').heap[b]? = some (.cells cs T (0, 0)) := fun h1 hT hU => (heap_set_ne (blk_type (hgr h1 hT) ga hU) _ _).trans (hgr h1 hT)
  have hb0 := own_base' h.row.own
  have hsn := h.row.snoc he hg hat hown
  refine ⟨?_, h.lo, h.sp, h.ln, h.lx, h.lr, h.lp, hset h.hn (by decide) (by decide), hset h.hx (by decide) (by decide), hset h.hr (by decide) (by decide), hset h.hp (by decide) (by decide), ?_, ?_, h.nK, fun b hb hK => ?_⟩
  · exact (h.below.grown hg h.below.size hb0).setCell h.lo _
  · rw [heap_set ga]; rfl
  · refine hsn.keep (by rw [size_setCell]; exact Nat.le_refl _) (fun b hb => heap_set_ne (fun e => ?_) _ _) fun b hb _ => ⟨hb, heap_set_ne hb.2.2 _ _⟩
    rw [e] at hb
    exact absurd (own_type hown hb ga) (by decide)
  · rcases hat with h1 | h1
    · rw [h1] at hb; exact h.nrow b hb hK
    · rw [h1] at hb; injection hb with hb; have := hKW b hK; omega
end

set_option maxRecDepth 100000 in
set_option maxHeartbeats 6400000 in
theorem agcb_any {g : Gram} {most : Nat} {of : MPart → List Rk} {F Fs K : Nat → Prop} {w0 W : World} {wsp bb be bo : Nat} {av : Value} {hs : List (MPart × Hd)} {k : AgB} {y0 : MPart} {kn : Nat} {r : Rule} {R : Option Addr} {rc : Nat} {v : Value} {Lh : List (Rk × RH)} {b : Nat} {L : List Nat}
    (hof : BestAt F w0 bb be most bo av hs of) (hok : OfOk g most of) (hm : most ≤ 100) (hF : ∀ b, F b → b < w0.heap.size) (hv : Valid g) (hr : g.rules[kn]? = some r) (hL : L.length = r.r.length) (hL12 : ∀ p ∈ L, p ≤ 12) (hi : y0.i ≤ 12) (hcnt : Lh.length + 100 ≤ 1000000000) (hKW : ∀ b, K b → b < W.heap.size)
    (h : AgAt K F w0 wsp W k bb y0 kn r R rc v Lh) (hb : W.heap[b]? = some (.cells (L.map fun v : Nat => Value.int .i64 v).toArray 3 (0, 0))) (hsy : IsSl Elt.sym Fs W (.slice R r.r.length rc) r.r) :
    Calls Tryz.prog 47 (#[.slice (some ⟨b, 0, none⟩) r.r.length r.r.length] ++ k.caps) W fun e w' => e = .returned (.tuple #[]) ∧ (∃ v' L', L'.map (·.1) = wayR most of kn r y0.i (Lh.map (·.1)) L ∧ AgAt K F w0 wsp w' k bb y0 kn r R rc v' L') ∧ Away W.heap.size (fun b => ¬ K b) W w' := by
  obtain ⟨ir, hir, hT0, hT2, hT3⟩ := info_parts Tryz.infoTranked
  have hrm := List.mem_of_getElem? hr
  have hr4 := (hv.ok r hrm).len
  have hkn : kn < 32 := by
    have h1 := (List.getElem?_eq_some_iff.1 hr).1
    have := hv.len
    omega
  have c0 := blk_cell h.hn (i := 0) rfl
  have c1 := blk_cell h.hx (i := 1) rfl
  have hw0 := h.below.size
  have hbaW := blk_lt h.ha
  generalize htot : rowsP most of r.r L y0.i [⟨1, [(kn : Int)], []⟩] = tot
  have HWAY := Lib.hid (show wayR most of kn r y0.i (Lh.map (·.1)) L = Lh.map (·.1) ++ tot.map (wrapR kn) by unfold wayR; rw [htot])
  have htot0 : rowsP most of (r.r.drop 0) (L.drop 0) y0.i [⟨1, [(kn : Int)], []⟩] = tot := by rw [List.drop_zero, List.drop_zero]; exact htot
  have HTOT := Lib.hid htot0
  have hone0 : ∀ z ∈ [(⟨1, [(kn : Int)], []⟩ : Rk)], RkFit g [(kn : Int)] (r.r.take 0) z := by rw [List.take_zero]; exact one_fit g kn
  have HONE := Lib.hid hone0
  have HH := Lib.hid h
  have HOF := Lib.hid hof
  have HOK := Lib.hid hok
  clear htot htot0 hone0 hok hof
  unfold AgB.caps
  go_enter Tryz.func47, Tryz.ntmps47
  go_wp2_with fail
  refine wp_region_any (by kernel_rfl) ?_
  change wpAny _ _ _ _ _ _ _ (World.drew _)
  refine wpAny_take (i := 4) (v := ?_) rfl (by kernel_rfl) (by kernel_rfl) (by kernel_rfl) (fun _ _ _ h => h) (Or.inl ⟨by go_simp, ?_⟩) ?_
  rotate_left
  · (intro w'; go_simp; first | done | with_reducible rfl)
  refine wpAny_of_D (S := fun w' => Below W.heap.size W w') (dep := 7) _ _ _ _ ?_
  have hb0 : Below W.heap.size W W.drew := (Below.refl _ _).drew
  refine wpAnyD_load (i := 0) (v := .int .i64 kn) [1, 2, 3, 6, 7] rfl (by kernel_rfl) (by kernel_rfl) (by kernel_rfl) (by kernel_rfl) (by kernel_rfl) (by kernel_rfl) (by kernel_rfl) (fun _ _ _ h => h) (by go_simp) ?_ hb0 ?_
  · (intro w' hS; have y := cell_lift hS c0; go_simp)
  refine wpAnyD_load (i := 5) (v := .int .i64 y0.i) [7] rfl (by kernel_rfl) (by kernel_rfl) (by kernel_rfl) (by kernel_rfl) (by kernel_rfl) (by kernel_rfl) (by kernel_rfl) (fun _ _ _ h => h) (by go_simp) ?_ hb0 ?_
  · (intro w' hS; have y := cell_lift hS c1; go_simp)
  refine wpAnyD_each (rs := [1]) (by kernel_rfl) (by simp) ?_
  refine EachD.cons (i := 1) (o := _) rfl (fun K hK => ?_) EachD.nil
  go_simp
  refine hK _ _ (fun _ => (below1 W _).drew) ?_
  clear hK K
  have hba : Below W.heap.size W (W.alloc (.cells #[.int .i64 kn] 3)).drew := (below1 W _).drew
  have gI : (W.alloc (.cells #[.int .i64 kn] 3)).drew.heap[W.heap.size]? = some (.cells #[.int .i64 kn] 3) := heap_alloc_new W _
  generalize (W.alloc (.cells #[.int .i64 kn] 3)).drew = Wa at hba gI ⊢
  refine wpAnyD_pure (i := 2) (v := ?_) [3, 6, 7] rfl (by kernel_rfl) (by kernel_rfl) (by kernel_rfl) (by kernel_rfl) (by kernel_rfl) (by kernel_rfl) (by kernel_rfl) (fun _ _ _ h => h) (by go_simp) ?_ hba ?_
  rotate_left
  · (intro w'; go_simp; first | done | with_reducible rfl)
  refine wpAnyD_each (rs := [3]) (by kernel_rfl) (by simp) ?_
  refine EachD.cons (i := 3) (o := _) rfl (fun K hK => ?_) EachD.nil
  go_simp
  refine hK _ _ (fun _ => hba.trans ((below1 Wa _).mono hba.size)) ?_
  clear hK K
  have hbb : Below W.heap.size W (Wa.alloc (.cells #[.int .i64 1, .slice (some ⟨W.heap.size, 0, none⟩) 1 1, .slice none 0 0] 90)) := hba.trans ((below1 Wa _).mono hba.size)
  have gR : (Wa.alloc (.cells #[.int .i64 1, .slice (some ⟨W.heap.size, 0, none⟩) 1 1, .slice none 0 0] 90)).heap[Wa.heap.size]? = some (.cells #[.int .i64 1, .slice (some ⟨W.heap.size, 0, none⟩) 1 1, .slice none 0 0] 90) := heap_alloc_new Wa _
  replace gI := blk_below (below1 Wa (.cells #[.int .i64 1, .slice (some ⟨W.heap.size, 0, none⟩) 1 1, .slice none 0 0] 90)) (blk_lt gI) gI
  have hpb : W.heap.size ≤ Wa.heap.size := hba.size
  generalize Wa.heap.size = pb at gR hpb ⊢
  generalize Wa.alloc (.cells #[.int .i64 1, .slice (some ⟨W.heap.size, 0, none⟩) 1 1, .slice none 0 0] 90) = Wb at hbb gR gI ⊢
  refine wpAnyD_each (rs := [6]) (by kernel_rfl) (by simp) ?_
  refine EachD.cons (i := 6) (o := _) rfl (fun K hK => ?_) EachD.nil
  go_simp
  refine hK _ _ (fun _ => hbb) ?_
  clear hK K
  refine wpAnyD_each (rs := [7]) (by kernel_rfl) (by simp) ?_
  refine EachD.cons (i := 7) (o := _) rfl (fun K hK => ?_) EachD.nil
  go_simp
  refine hK _ _ (fun e => Bool.noConfusion (show true = false from e)) ?_
  clear hK K
  refine wpAnyD_of _ _ _ _ (by kernel_rfl) ?_
  refine wpAny_done (by kernel_rfl) ?_ _
  have hrow0 : IsSl Elt.ranked (fun b => F b ∨ W.heap.size ≤ b) Wb (.slice (some ⟨pb, 0, none⟩) 1 1) [⟨1, [(kn : Int)], []⟩] := ranked_one (.inr hpb) gR (by simp) (sl_of_blk (enc := Value.int .i64) (xs := [(kn : Int)]) (fun b => F b ∨ W.heap.size ≤ b) (Or.inr (Nat.le_refl _)) gI rfl (by show 1 ≤ 9223372036854775807; omega)) (Nat.zero_le _) (sl_nilT _ _ _)
  have HR0 := Lib.hid hrow0
  clear hrow0 gI gR c0 c1
  have e1 := blk_cell (HH.out.beneath hbb).hr (i := 1) rfl
  go_wp2_with fail
  clear e1
  go_loopg [23, 7, 8] r.r.length (fun gk i rv av wr => ∃ (j a n7 c7 : Nat) (A7 : Option Addr) (rows : List Rk), j ≤ r.r.length ∧ gk = r.r.length - j ∧ i = .int .i64 j ∧ rv = .slice A7 n7 c7 ∧ av = .int .i64 a ∧ n7 = rows.length ∧ n7 ≤ 100 ∧ a ≤ 12 ∧ n7 ≤ c7 ∧ IsSl Elt.ranked (fun b => F b ∨ W.heap.size ≤ b) wr (.slice A7 n7 c7) rows ∧ Below W.heap.size W wr ∧ (∀ z ∈ rows, RkFit g [(kn : Int)] (r.r.take j) z) ∧ rowsP most of (r.r.drop j) (L.drop j) a rows = tot)
  case atStart => exact ⟨0, y0.i, 1, 1, _, _, Nat.zero_le _, rfl, rfl, rfl, rfl, rfl, by omega, hi, Nat.le_refl _, HR0.out, hbb, HONE.out, HTOT.out⟩
  case round =>
    obtain ⟨j, a, n7, c7, A7, rows, hj, rfl, rfl, rfl, rfl, hn7, hn100, ha12, hc7, hrows, hB, hfit, htot⟩ := hrel
    obtain ⟨wo, rfl⟩ : ∃ wo : World, wo = wr := ⟨_, rfl⟩
    clear HTOT HONE HR0 hbb
    have HN7 := Lib.hid hn7
    clear hn7
    by_cases hlt : j < r.r.length
    · obtain ⟨b5, o5, hA, hF5, hl5, d0, d1⟩ := (hsy.below hB).symAt j hlt
      subst hA
      have hjL : j < L.length := by omega
      rw [List.drop_eq_getElem_cons hlt, List.drop_eq_getElem_cons hjL] at htot
      unfold rowsP at htot
      have hz := hL12 L[j] (List.getElem_mem hjL)
      have e8 : wo.cell? ⟨b, j, none⟩ = some (.int .i64 L[j]) := cell_lift hB (blk_cell hb (by rw [List.getElem?_toArray, List.getElem?_map, List.getElem?_eq_getElem hjL]; rfl))
      have htk : r.r.take (j + 1) = r.r.take j ++ [r.r[j]] := by rw [List.take_succ_eq_append_getElem hlt]
      generalize L[j] = z at htot hz e8
      generalize r.r[j] = y at htot d0 d1 htk
      obtain ⟨yt, yn⟩ := y
      simp only at d0 d1
      have hkz : (j : Int) < (r.r.length : Int) := by omega
      have hlen0 : r.r.length ≤ 4 := hr4
      obtain ⟨oS, hoS⟩ : ∃ o : Obj, o = .cells #[.bool yt, .int .i64 yn] 70 := ⟨_, rfl⟩
      obtain ⟨o1, ho1⟩ : ∃ o : Obj, o = .cells #[.int .i64 (-1)] 3 := ⟨_, rfl⟩
      obtain ⟨o2, ho2⟩ : ∃ o : Obj, o = .cells #[.int .i64 (-1), .int .i64 yn, .slice none 0 0] 45 := ⟨_, rfl⟩
      obtain ⟨o3, ho3⟩ : ∃ o : Obj, o = .cells #[.int .i64 1, .slice (some ⟨wo.heap.size + 1, 0, none⟩) 1 1, .slice (some ⟨wo.heap.size + 1 + 1, 0, none⟩) 1 1] 90 := ⟨_, rfl⟩
      obtain ⟨W4, hW4⟩ : ∃ w : World, w = (((wo.alloc oS).alloc o1).alloc o2).alloc o3 := ⟨_, rfl⟩
      have hb4 : Below wo.heap.size wo W4 ∧ W4.heap.size = wo.heap.size + 1 + 1 + 1 + 1 ∧ W4.heap[wo.heap.size]? = some oS ∧ W4.heap[wo.heap.size + 1]? = some o1 ∧ W4.heap[wo.heap.size + 1 + 1]? = some o2 ∧ W4.heap[wo.heap.size + 1 + 1 + 1]? = some o3 := by
        have z1 := World.size_alloc wo oS
        have z2 := World.size_alloc (wo.alloc oS) o1
        have z3 := World.size_alloc ((wo.alloc oS).alloc o1) o2
        have z4 := World.size_alloc (((wo.alloc oS).alloc o1).alloc o2) o3
        rw [hW4]
        refine ⟨((((Below.refl wo.heap.size wo).alloc (by omega) _).alloc (by omega) _).alloc (by omega) _).alloc (by omega) _, by omega, ?_, ?_, ?_, ?_⟩
        · rw [Below.heap_alloc _ _ _ (by omega), Below.heap_alloc _ _ _ (by omega), Below.heap_alloc _ _ _ (by omega)]; exact blk_new' rfl oS
        · rw [Below.heap_alloc _ _ _ (by omega), Below.heap_alloc _ _ _ (by omega)]; exact blk_new' (by omega) o1
        · rw [Below.heap_alloc _ _ _ (by omega)]; exact blk_new' (by omega) o2
        · exact blk_new' (by omega) o3
      obtain ⟨hb4, hs4, gS, g1, g2, g3⟩ := hb4
      have hB4 := hB.trans (hb4.mono hB.size)
      have hBw := hB.size
      have hrows4 := hrows.below hb4
      have hA4 := HH.out.beneath hB4
      have e8' : W4.cell? ⟨b, j, none⟩ = some (.int .i64 z) := cell_lift hb4 e8
      have eB := (HOF.out.below hA4.below)
      have eb1 := blk_cell eB.blk (i := 1) rfl
      have eb2 := blk_cell eB.blk (i := 2) rfl
      have ep := blk_cell hA4.hp (i := 0) rfl
      have HT2 := Lib.hid htot
      have HFT := Lib.hid hfit
      have HTK := Lib.hid htk
      clear htot hfit htk
      cases yt
      · -- a nonterminal
        rw [hoS] at gS
        have es1 := blk_cell gS (i := 1) rfl
        obtain ⟨A6, c6, hl6, hc6, hn6⟩ := eB.rows ⟨yn, a, z⟩
        have hnx : nextP of ⟨false, yn⟩ a z = of ⟨yn, a, z⟩ := rfl
        have HT3 := Lib.hid (show rowsP most of (r.r.drop (j + 1)) (L.drop (j + 1)) z (joinP most rows (of ⟨yn, a, z⟩)) = tot from HT2.out)
        have hof6 := HOK.out.fit ⟨yn, a, z⟩
        have hol6 := HOK.out.len ⟨yn, a, z⟩
        generalize of ⟨yn, a, z⟩ = nx at HT3 hl6 hc6 hn6 hof6 hol6
        have hlk : ∀ P : Behind W4, (Instr.lookup 80 (.map (some bo)) (mpartV ⟨yn, a, z⟩) false).run Tryz.prog P.w' = .ok (.slice A6 nx.length c6) P.w' := fun P => by
          have := run_look (P := Tryz.prog) Tryz.mpartKey Tryz.underlying80 Tryz.zeroRankeds (eB.map.below P.h) ⟨yn, a, z⟩
          rw [hl6] at this
          exact this
        unfold mpartV at hlk
        obtain ⟨n6, hn6z⟩ : ∃ n, n = nx.length := ⟨_, rfl⟩
        rw [← hn6z] at hn6 hlk hc6 hol6
        have HN6 := Lib.hid hn6z
        have q1 := cell_behind ep
        have q2 := cell_behind eb2
        have q3 := cell_behind es1
        have q4 := cell_behind e8'
        have HEB := Lib.hid eB
        have HA4 := Lib.hid hA4
        clear hn6z hl6 HT2 eB hA4 hnx e8
        subst hoS ho1 ho2 ho3
        go_wp2_with fail
        rw [← hW4]
        refine wp_region_behind (by kernel_rfl) (by kernel_rfl) ?_
        repeat (go_big_quiet_step (fail))
        refine wpQuiet_nil ?_
        intro _ hw'
        obtain ⟨P2, hw''⟩ := hw'
        subst hw''
        have hbP := P2.h
        clear hlk q1 q2 q3 q4
        generalize P2.w' = W6 at hbP ⊢
        clear P2
        have hsP := hbP.size
        have hB6 := hB4.trans (hbP.mono hB4.size)
        have ep6 := cell_lift hbP ep
        have eb6 := cell_lift hbP eb1
        have e86 := cell_lift hbP e8'
        have hr6 := hrows4.below hbP
        have hm6 := hn6.below hbP
        clear ep eb1 eb2 e8' es1 hrows hrows4 hn6 gS g1 g2 g3 hW4 d0 d1
        have hrF := hr6.old
        have hnF : IsSl Elt.ranked (fun b => (F b ∨ W.heap.size ≤ b) ∧ b < W6.heap.size) W6 (.slice A6 n6 c6) nx := hm6.old.weak fun b hb => ⟨.inl hb.1, hb.2⟩
        have hkey : ∀ q ∈ jAll most 0 rows nx, RkFit g [(kn : Int)] (r.r.take j ++ [⟨false, yn⟩]) q := jAll_fit HFT.out hof6
        have hjn := joinP_fit (most := most) HFT.out hof6
        have hjl : (joinP most rows nx).length ≤ 100 := Nat.le_trans (firstP_len _ _) hm
        have hJ := joined_any (fun b => (F b ∨ W.heap.size ≤ b) ∧ b < W6.heap.size) W6 bb most rows nx A7 c7 A6 c6 (fun b hb => hb.2) (by rw [← HN7.out]; exact hrF) (by rw [← HN6.out]; exact hnF) (fun q hq => (HFT.out q hq).ok) (fun q hq => (hof6 q hq).ok) (by rw [← HN7.out]; omega) (by rw [← HN6.out]; omega) eb6 (by omega) (RkFit.key hkey)
        rw [← HN7.out, ← HN6.out] at hJ
        have HT4 := Lib.hid HT3.out
        generalize joinP most rows nx = jn at hJ HT4 hjn hjl
        obtain ⟨n8, hn8⟩ : ∃ n, n = jn.length := ⟨_, rfl⟩
        rw [← hn8] at hJ hjl
        have HN8 := Lib.hid hn8
        have HJ := Lib.hid hJ
        have HJN := Lib.hid hjn
        clear hJ hkey hof6 hnF hrF hn8 hjn eb6
        go_wp2_with fail
        refine HJ.out.mono ?_
        rintro e9 w9 ⟨A8, c8, rfl, hc8, hs8, hb8⟩
        have e89 := cell_lift hb8 e86
        have hB9 := hB6.trans (hb8.mono hB6.size)
        have hs9 : IsSl Elt.ranked (fun b => F b ∨ W.heap.size ≤ b) w9 (.slice A8 n8 c8) jn := hs8.weak fun b hb => by
          rcases hb with hb | hb
          · exact hb.1
          · exact .inr (Nat.le_trans hB6.size hb)
        clear hs8 hb8 e86 ep6
        have HS9 := Lib.hid hs9
        clear hs9
        go_wp2_with fail
        go_roundg (r.r.length - (j + 1))
        case measure => omega
        case rel => exact ⟨j + 1, z, n8, c8, A8, jn, by omega, rfl, by go_num, rfl, rfl, HN8.out, hjl, hz, hc8, HS9.out, hB9, by rw [HTK.out]; exact HJN.out, HT4.out⟩
      · -- a terminal
        have hnx : nextP of ⟨true, yn⟩ a z = [⟨1, [-1], [Tr.mk (-1) yn []]⟩] := rfl
        have HT3 := Lib.hid (show rowsP most of (r.r.drop (j + 1)) (L.drop (j + 1)) z (joinP most rows [⟨1, [-1], [Tr.mk (-1) yn []]⟩]) = tot from HT2.out)
        have hof6 : ∀ q ∈ [(⟨1, [-1], [Tr.mk (-1) yn []]⟩ : Rk)], RkFit g [] [⟨true, yn⟩] q := next_fit HOK.out ⟨true, yn⟩ a z
        have HA4 := Lib.hid hA4
        clear HT2 eB hA4 hnx e8
        rw [ho1] at g1
        rw [ho2] at g2
        rw [ho3] at g3
        have hnF : IsSl Elt.ranked (fun b => (F b ∨ W.heap.size ≤ b) ∧ b < W4.heap.size) W4 (.slice (some ⟨wo.heap.size + 1 + 1 + 1, 0, none⟩) 1 1) [⟨1, [-1], [Tr.mk (-1) yn []]⟩] :=
          ranked_one ⟨.inr (by omega), by omega⟩ g3 (by simp) (sl_of_blk (enc := Value.int .i64) (xs := [(-1 : Int)]) (fun b => (F b ∨ W.heap.size ≤ b) ∧ b < W4.heap.size) ⟨Or.inr (by omega), by omega⟩ g1 rfl (by show 1 ≤ 9223372036854775807; omega)) (by simp) (tree_one (t := Tr.mk (-1) yn []) ⟨.inr (by omega), by omega⟩ g2 (Nat.zero_le _) (sl_nilT _ _ _))
        have HN6 := Lib.hid (show 1 = ([⟨1, [-1], [Tr.mk (-1) yn []]⟩] : List Rk).length from rfl)
        have hol6 : 1 ≤ most ∨ 1 ≤ 100 := .inr (by omega)
        have hc6 : 1 ≤ 1 := Nat.le_refl _
        obtain ⟨nx, hnxe⟩ : ∃ nx : List Rk, nx = [⟨1, [-1], [Tr.mk (-1) yn []]⟩] := ⟨_, rfl⟩
        rw [← hnxe] at HT3 hof6 hnF HN6
        have hB6 := hB4
        have ep6 := ep
        have eb6 := eb1
        have e86 := e8'
        have hrF := hrows4.old
        clear ep eb1 eb2 e8' hrows hrows4 gS g1 g2 g3 hnxe
        subst hoS ho1 ho2 ho3
        have ep7 := ep6
        rw [hW4] at ep7
        go_wp2_with fail
        rw [← hW4]
        clear d0 d1 hW4 ep7
        have hkey : ∀ q ∈ jAll most 0 rows nx, RkFit g [(kn : Int)] (r.r.take j ++ [⟨true, yn⟩]) q := jAll_fit HFT.out hof6
        have hjn := joinP_fit (most := most) HFT.out hof6
        have hjl : (joinP most rows nx).length ≤ 100 := Nat.le_trans (firstP_len _ _) hm
        have hJ := joined_any (fun b => (F b ∨ W.heap.size ≤ b) ∧ b < W4.heap.size) W4 bb most rows nx A7 c7 (some ⟨wo.heap.size + 1 + 1 + 1, 0, none⟩) 1 (fun b hb => hb.2) (by rw [← HN7.out]; exact hrF) (by rw [← HN6.out]; exact hnF) (fun q hq => (HFT.out q hq).ok) (fun q hq => (hof6 q hq).ok) (by rw [← HN7.out]; omega) (by rw [← HN6.out]; omega) eb6 (by omega) (RkFit.key hkey)
        rw [← HN7.out, ← HN6.out] at hJ
        have HT4 := Lib.hid HT3.out
        generalize joinP most rows nx = jn at hJ HT4 hjn hjl
        obtain ⟨n8, hn8⟩ : ∃ n, n = jn.length := ⟨_, rfl⟩
        rw [← hn8] at hJ hjl
        have HN8 := Lib.hid hn8
        have HJ := Lib.hid hJ
        have HJN := Lib.hid hjn
        clear hJ hkey hof6 hnF hrF hn8 hjn eb6

        refine HJ.out.mono ?_
        rintro e9 w9 ⟨A8, c8, rfl, hc8, hs8, hb8⟩
        have e89 := cell_lift hb8 e86
        have hB9 := hB6.trans (hb8.mono hB6.size)
        have hs9 : IsSl Elt.ranked (fun b => F b ∨ W.heap.size ≤ b) w9 (.slice A8 n8 c8) jn := hs8.weak fun b hb => by
          rcases hb with hb | hb
          · exact hb.1
          · exact .inr (Nat.le_trans hB6.size hb)
        clear hs8 hb8 e86 ep6
        have HS9 := Lib.hid hs9
        clear hs9
        go_wp2_with fail
        go_roundg (r.r.length - (j + 1))
        case measure => omega
        case rel => exact ⟨j + 1, z, n8, c8, A8, jn, by omega, rfl, by go_num, rfl, rfl, HN8.out, hjl, hz, hc8, HS9.out, hB9, by rw [HTK.out]; exact HJN.out, HT4.out⟩
    · obtain rfl : j = r.r.length := by omega
      rw [List.drop_length] at htot
      unfold rowsP at htot
      subst htot
      have hAr := HH.out.beneath hB
      have hrF := hrows.old
      have hsz := hB.size
      have HFR := Lib.hid hfit
      clear hrows HOF HOK hfit
      have HHR := Lib.hid hAr
      clear hAr
      go_wp2_with fail
      go_loopg [62] n7 (fun gk i wq => ∃ (q : Nat) (v' : Value) (L' : List (Rk × RH)), q ≤ n7 ∧ gk = n7 - q ∧ i = .int .i64 q ∧ L'.map (·.1) = Lh.map (·.1) ++ (rows.take q).map (wrapR kn) ∧ AgAt K F w0 wsp wq k bb y0 kn r R rc v' L' ∧ (∀ b, v'.ownBlock = some b → ¬ ((F b ∨ W.heap.size ≤ b) ∧ b < wo.heap.size)) ∧ Away wo.heap.size (fun b => ¬ ((F b ∨ W.heap.size ≤ b) ∧ b < wo.heap.size)) wo wq ∧ Away W.heap.size (fun b => ¬ K b) W wq)
      case atStart =>
        refine ⟨0, v, Lh, Nat.zero_le _, by omega, rfl, by simp, HHR.out, fun b hb hR => ?_, Away.refl _ _ _, Away.ofBelow hB⟩
        have h1 := own_base' HH.out.row.own b hb
        have h2 := (HH.out.row.own.lt b hb).2
        rcases hR.1 with h3 | h3
        · have := hF b h3; omega
        · omega
      case round =>
        obtain ⟨q, v', L', hq, rfl, rfl, hLm, hA, hnR, haR, haK⟩ := hrel
        obtain ⟨wp, rfl⟩ : ∃ wp : World, wp = wr := ⟨_, rfl⟩
        clear HHR
        have hsR := haR.size
        by_cases hlt : q < n7
        · have hql : q < rows.length := by rw [← HN7.out]; exact hlt
          have hrows2 : IsSl Elt.ranked (fun b => (F b ∨ W.heap.size ≤ b) ∧ b < wo.heap.size) wp (.slice A7 n7 c7) rows := hrF.keep (fun b hb => haR.block b hb.2 fun hn => hn hb) hsR
          obtain ⟨b3, o3, hA7, hF3, hb3, s0, P3, cp3, R3, cr3, s1, hcp3, hpre3, s2, hcr3, hrow3⟩ := hrows2.rankedAt q hql
          subst hA7
          have htk : (rows.take (q + 1)).map (wrapR kn) = (rows.take q).map (wrapR kn) ++ [wrapR kn rows[q]] := by rw [List.take_succ_eq_append_getElem hql, List.map_append]; rfl
          have hfq := HFR.out _ (List.getElem_mem hql)
          generalize rows[q] = t at s0 s1 hcp3 hpre3 s2 hcr3 hrow3 htk hfq
          obtain ⟨ts, tp, tr⟩ := t
          simp only at s0 s1 hcp3 hpre3 s2 hcr3 hrow3
          have hLl : L'.length = Lh.length + q := by
            have := congrArg List.length hLm
            rw [List.length_map, List.length_append, List.length_map, List.length_map, List.length_take, Nat.min_eq_left (Nat.le_of_lt hql)] at this
            exact this
          have hqz : (q : Int) < (n7 : Int) := by omega
          obtain ⟨np, hnp⟩ : ∃ n, n = tp.length := ⟨_, rfl⟩
          obtain ⟨nr, hnr⟩ : ∃ n, n = tr.length := ⟨_, rfl⟩
          rw [← hnp] at s1 hcp3 hpre3
          rw [← hnr] at s2 hcr3 hrow3
          obtain ⟨Av, cv, rfl⟩ := own_form hA.row.own
          obtain ⟨o1, ho1⟩ : ∃ o : Obj, o = .cells #[.int .i64 ts, .slice P3 np cp3, .slice R3 nr cr3] 90 := ⟨_, rfl⟩
          obtain ⟨o2, ho2⟩ : ∃ o : Obj, o = .cells #[.int .i64 kn, .int .i64 0, .slice R3 nr cr3] 45 := ⟨_, rfl⟩
          obtain ⟨o4, ho4⟩ : ∃ o : Obj, o = .cells #[.int .i64 ts, .slice P3 np cp3, .slice (some ⟨wp.heap.size + 1, 0, none⟩) 1 1] 90 := ⟨_, rfl⟩
          obtain ⟨W4, hW4⟩ : ∃ w : World, w = ((wp.alloc o1).alloc o2).alloc o4 := ⟨_, rfl⟩
          have hb4 : Below wp.heap.size wp W4 ∧ W4.heap.size = wp.heap.size + 1 + 1 + 1 ∧ (wp.alloc o1).heap[wp.heap.size]? = some o1 ∧ W4.heap[wp.heap.size + 1]? = some o2 ∧ W4.heap[wp.heap.size + 1 + 1]? = some o4 := by
            have z1 := World.size_alloc wp o1
            have z2 := World.size_alloc (wp.alloc o1) o2
            have z3 := World.size_alloc ((wp.alloc o1).alloc o2) o4
            rw [hW4]
            refine ⟨(((Below.refl wp.heap.size wp).alloc (by omega) _).alloc (by omega) _).alloc (by omega) _, by omega, blk_new' rfl o1, ?_, ?_⟩
            · rw [Below.heap_alloc _ _ _ (by omega)]; exact blk_new' (by omega) o2
            · exact blk_new' (by omega) o4
          obtain ⟨hb4, hs4, g1, g2, g4⟩ := hb4
          have hA4 := hA.beneath hb4
          have hbx := below1 wp o1
          have hA1 := hA.beneath hbx
          have u0 := blk_cell hA1.ha (i := 0) rfl
          have u1 := blk_cell hA1.hn (i := 0) rfl
          rw [ho1] at g1
          have t0 := blk_cell g1 (i := 0) rfl
          have t1 := blk_cell g1 (i := 1) rfl
          have t2 := blk_cell g1 (i := 2) rfl
          have hGR : ∀ b, ((F b ∨ W.heap.size ≤ b) ∧ b < wo.heap.size) → AgG K F w0.heap.size wsp k.ba b ∧ (Value.slice Av L'.length cv).ownBlock ≠ some b := fun b hb => by
            have hnow : b < wo.heap.size := hb.2
            refine ⟨⟨hb.1.imp id fun h => by omega, fun hK => ?_, fun e => ?_⟩, fun e => hnR b e hb⟩
            · have h1 := hKW b hK.1
              rcases hb.1 with h2 | h2
              · have := hF b h2; have := HH.out.sp; omega
              · omega
            · rcases hb.1 with h2 | h2
              · have := hF b h2; have := HH.out.lo; omega
              · omega
          have hGN : AgG K F w0.heap.size wsp k.ba (wp.heap.size + 1) ∧ (Value.slice Av L'.length cv).ownBlock ≠ some (wp.heap.size + 1) := by
            refine ⟨⟨.inr (by omega), fun hK => by have := hKW _ hK.1; omega, by omega⟩, fun e => ?_⟩
            have := (hA.row.own.lt _ e).2
            omega
          rw [ho2] at g2
          have hge : GoodR (fun b => AgG K F w0.heap.size wsp k.ba b ∧ (Value.slice Av L'.length cv).ownBlock ≠ some b) W4 (wrapR kn ⟨ts, tp, tr⟩, ⟨P3, cp3, some ⟨wp.heap.size + 1, 0, none⟩, 1⟩) := by
            have hok := hfq.ok
            refine ⟨by have := hok.pre; show (0 : Int) ≤ ts; simp only at this; omega, hok.hi, by show tp.length ≤ cp3; omega, ?_, Nat.le_refl _, ?_⟩
            · show IsSl Elt.int _ _ (.slice P3 tp.length cp3) tp
              rw [← hnp]; exact (hpre3.below hb4).weak hGR
            · show IsSl Elt.tree _ _ (.slice (some ⟨wp.heap.size + 1, 0, none⟩) 1 1) [Tr.mk kn 0 tr]
              refine tree_one (t := Tr.mk kn 0 tr) (A := R3) (c := cr3) hGN (by rw [hnr] at g2; exact g2) (by show tr.length ≤ cr3; omega) ?_
              show IsSl Elt.tree _ _ (.slice R3 tr.length cr3) tr
              rw [← hnr]; exact (hrow3.below hb4).weak hGR
          have hown4 := hA4.row.own
          have hcells : ∀ j u, [Value.int .i64 ts, .slice P3 np cp3, .slice (some ⟨wp.heap.size + 1, 0, none⟩) 1 1][j]? = some u → W4.cell? ⟨wp.heap.size + 1 + 1, j, none⟩ = some u := fun j u hj => by
            rw [ho4] at g4
            exact blk_cell g4 (by rw [← hj]; simp)
          have HLL := Lib.hid hLl
          have HLM := Lib.hid hLm
          have HTK := Lib.hid htk
          have HGE := Lib.hid hge
          have HA4 := Lib.hid hA4
          have HNP := Lib.hid hnp
          clear hLl hLm htk hge hA hA1 hA4 hpre3 hrow3 hrows2 g1 g2 g4 hbx hfq hnp hnr hGR hGN
          subst ho1 ho2 ho4
          go_wp2_with (first | (at_builtin; refine wpList_append_src _ rfl (.tmp 66) (.tmp 77) 86 rfl w0.heap.size 90 ir (.agg #[.int .i64 0, .slice none 0 0, .slice none 0 0]) 3 56 Tryz.underlying86 hir hT0 hT2 hT3 rfl (by decide) _ L'.length (L'.flatMap encR) rfl ?ho (some ⟨wp.heap.size + 1 + 1, 0, none⟩) 1 1 [.int .i64 ts, .slice P3 np cp3, .slice (some ⟨wp.heap.size + 1, 0, none⟩) 1 1] rfl rfl ?c0 ?c1 ?c2 ?c3 ?c4 ?c5 ?_))
          case ho => rw [← hW4]; exact hown4
          case c2 => exact ⟨rfl, rfl, rfl⟩
          case c3 => have := HLL.out; unfold maxLen; omega
          case c4 => have := HLL.out; omega
          case c5 => have := HA4.out.below.size; omega
          intro v8 w8 hown8 hg8 hat8
          rw [← hW4] at hg8
          rw [← hs4] at hat8
          obtain ⟨A8, c8, rfl⟩ := own_form hown8
          have hpu := HA4.out.push HGE.out hg8 hat8 (by rw [show encR (wrapR kn ⟨ts, tp, tr⟩, (⟨P3, cp3, some ⟨wp.heap.size + 1, 0, none⟩, 1⟩ : RH)) = [.int .i64 ts, .slice P3 np cp3, .slice (some ⟨wp.heap.size + 1, 0, none⟩) 1 1] by unfold encR wrapR; rw [HNP.out]; rfl]; exact hown8) (fun b hb => by have := hKW b hb; omega)
          have hbl8 := own_base' HA4.out.row.own
          have ga8 : w8.heap[k.ba]? = some (.cells #[.slice Av L'.length cv] 86 (0, 0)) := (hg8.block _ (blk_lt HA4.out.ha) fun e => absurd (own_type HA4.out.row.own e.symm HA4.out.ha) (by decide)).trans HA4.out.ha
          have x0 := blk_cell ga8 (i := 0) rfl
          have x1 : w8.frozen? ⟨k.ba, 0, none⟩ = false := blk_free ga8
          have haw8 : Away wo.heap.size (fun b => ¬ ((F b ∨ W.heap.size ≤ b) ∧ b < wo.heap.size)) wo w8 := (haR.trans (Away.ofBelow (hb4.mono hsR))).trans (Away.grown hg8 (by omega) fun j hj => .inl (hnR j hj))
          have hak8 : Away W.heap.size (fun b => ¬ K b) W w8 := (haK.trans (Away.ofBelow (hb4.mono haK.size))).trans (Away.grown hg8 (by have := haK.size; omega) fun j hj => .inl (HA4.out.nrow j hj))
          have hn8R : ∀ b, (Value.slice A8 (L'.length + 1) c8).ownBlock = some b → ¬ ((F b ∨ W.heap.size ≤ b) ∧ b < wo.heap.size) := fun b hb => by
            rcases hat8 with h1 | h1
            · rw [h1] at hb; exact hnR b hb
            · rw [h1] at hb; injection hb with hb; omega
          have HPU := Lib.hid hpu
          clear hpu hown8 hg8 hat8 hcells hown4
          go_wp2
          go_roundg (n7 - (q + 1))
          case measure => omega
          case rel =>
            refine ⟨q + 1, _, _, by omega, rfl, by go_num, ?_, HPU.out, hn8R, haw8.trans (Away.setCell _ _ _ _ (.inl fun e => ?_)), hak8.trans (Away.setCell _ _ _ _ (.inl HA4.out.nK))⟩
            · rw [List.map_append, HLM.out, HTK.out]; simp
            · rcases e.1 with h2 | h2
              · have := hF _ h2; have := HH.out.lo; omega
              · omega
        · obtain rfl : q = n7 := by omega
          rw [List.take_of_length_le (by rw [← HN7.out]; exact Nat.le_refl _)] at hLm
          have HLM := Lib.hid hLm
          clear hLm
          go_wp2_with fail
          refine bodyPost_end (v := .tuple #[]) (by kernel_rfl) rfl ⟨rfl, ⟨v', L', ?_, hA⟩, haK⟩
          rw [HWAY.out]; exact HLM.out
end Go.Proofs.YtdbkbkopcnkgcaaGreat
