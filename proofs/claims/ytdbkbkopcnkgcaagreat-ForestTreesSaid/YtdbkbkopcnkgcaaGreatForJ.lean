import Derived.Test.YtdbkbkopcnkgcaaGreatForI
import Derived.Test.YtdbkbkopcnkgcaaGreatIter
import Derived.Test.YtdbkbkopcnkgcaaGreatMakeW
open Go Go.RowKit
open Go.ChangeMaps (setBlock)
namespace Go.Proofs.YtdbkbkopcnkgcaaGreat

theorem Iter.own2 {κ ν : Type} {enc : κ → Value} {vn : ν → Value} {w w1 : World} {it r : Nat} {l : List (κ × ν)} {l0 done : List κ} {base size n : Nat} {e : TypeId} {v : Value} {xs : List Value} (h : Iter enc vn w it r l l0 done) (ho : w.ownsRow base e size v n xs) (hg : w.grownBy w1 v.ownBlock) : Iter enc vn w1 it r l l0 done := by
  refine h.same (hg.block _ h.lt.1 fun e => ?_) (hg.block _ h.lt.2 fun e => ?_)
  · obtain ⟨cs, T, fr, hb⟩ := own_block ho _ e.symm
    obtain ⟨es, clock, since, seen, last, h3, _⟩ := h
    rw [h3] at hb; cases hb
  · obtain ⟨cs, T, fr, hb⟩ := own_block ho _ e.symm
    obtain ⟨es, clock, since, seen, last, _, _, h3, _⟩ := h
    rw [h3] at hb; cases hb
theorem Iter.facts {κ ν : Type} {enc : κ → Value} {vn : ν → Value} {w : World} {it r : Nat} {l : List (κ × ν)} {l0 done : List κ} (h : Iter enc vn w it r l l0 done) : done.Nodup ∧ ∀ k ∈ done, k ∈ l.map (·.1) := by
  obtain ⟨es, clock, since, seen, last, _, _, _, _, _, _, _, h1, h2⟩ := h
  exact ⟨h1, h2⟩
theorem Iter.notCells {κ ν : Type} {enc : κ → Value} {vn : ν → Value} {w : World} {it r : Nat} {l : List (κ × ν)} {l0 done : List κ} (h : Iter enc vn w it r l l0 done) : ∀ cs T fr, w.heap[it]? ≠ some (.cells cs T fr) := fun cs T fr e => by
  obtain ⟨es, clock, since, seen, last, _, _, h3, _⟩ := h
  rw [h3] at e; cases e

structure NodeD where
  y : Sym
  i : Nat
  j : Nat
  packs : List PackD
deriving DecidableEq, Repr, Inhabited
def Elt.node : Elt NodeD := ((Elt.bool.pair Elt.int).pair ((Elt.int.pair Elt.int).pair Elt.pack.sl)).map fun n => ((n.y.t, n.y.n), (((n.i : Int), (n.j : Int)), n.packs))

/-- the numbers of the nodes -/
def atF (ks : List Part) : List (Part × Int) := ks.zipIdx.map fun p => (p.1, (p.2 : Int))
def idxF (ks : List Part) (p : Part) : Int := (alook (atF ks) p).getD 0
def packF (ks : List Part) (v : Way) : PackD := ⟨v.rule, v.kids.map (idxF ks)⟩
def keysF (s : RS) : List Part := (s.ways.map (·.1)).mergeSort partLe
def nodeF (ks : List Part) (s : RS) (p : Part) : NodeD := ⟨p.y, p.i, p.j, (((alook s.ways p).getD []).map (packF ks)).mergeSort packLe⟩
structure ForD where
  nodes : List NodeD
  root : Int
deriving DecidableEq, Repr, Inhabited
def forestF (s : RS) (root : Part) : ForD := ⟨(keysF s).map (nodeF (keysF s) s), idxF (keysF s) root⟩

theorem atF_keys (ks : List Part) : (atF ks).map (·.1) = ks := by
  unfold atF
  rw [List.map_map]
  show ks.zipIdx.map (fun p => p.1) = ks
  exact List.zipIdx_map_fst 0 ks
theorem atF_take (ks : List Part) (hn : ks.Nodup) (n : Nat) (h : n < ks.length) : aput (atF (ks.take n)) ks[n] (n : Int) = atF (ks.take (n + 1)) := by
  have hk : ks[n] ∉ (atF (ks.take n)).map (·.1) := by
    rw [atF_keys]
    intro hm
    obtain ⟨i, hi, he⟩ := List.getElem_of_mem hm
    rw [List.length_take] at hi
    rw [List.getElem_take] at he
    exact List.pairwise_iff_getElem.1 hn i n (by omega) h (by omega) he
  rw [aput_new hk]
  unfold atF
  rw [List.take_succ_eq_append_getElem h, List.zipIdx_append, List.map_append, List.length_take]
  simp [Nat.min_eq_left (Nat.le_of_lt h)]

theorem parts_sorted {l m : List Part} (hp : l.Perm m) : l.mergeSort partLe = m.mergeSort partLe := by
  have key : ∀ l : List Part, (l.mergeSort partLe).Pairwise fun a b => ¬ cmpPart b a < 0 := fun l => by
    have := List.pairwise_mergeSort (le := partLe) (fun a b c h1 h2 => by
      simp only [partLe, Bool.not_eq_true', decide_eq_false_iff_not, cmpPart_lt] at *; omega) (fun a b => by
      simp only [partLe, Bool.or_eq_true, Bool.not_eq_true', decide_eq_false_iff_not, cmpPart_lt]; omega) l
    exact this.imp fun {a b} h => by simpa [partLe] using h
  refine List.Perm.eq_of_pairwise (le := fun x y => ¬ cmpPart y x < 0) ?_ (key l) (key m) (((List.mergeSort_perm l _).trans hp).trans (List.mergeSort_perm m _).symm)
  intro a b _ _ h1 h2
  rw [cmpPart_lt] at h1 h2
  obtain ⟨⟨at_, an⟩, ai, aj⟩ := a
  obtain ⟨⟨bt, bn⟩, bi, bj⟩ := b
  simp only [Part.mk.injEq, Sym.mk.injEq]
  unfold tk at h1 h2
  cases at_ <;> cases bt <;> simp at h1 h2 ⊢ <;> omega

def intV (n : Int) : Value := .int .i64 n
theorem Tryz.zeroInt (w : World) : (zeroValue 3).run Tryz.prog w = .ok (.int .i64 0) w := by kernel_rfl
theorem Tryz.infoNode : (Tryz.prog.info? 114).map (fun i => (i.zero, i.size, i.bytes)) = some (some (.agg #[.bool false, .int .i64 0, .int .i64 0, .int .i64 0, .slice none 0 0]), 5, 56) := by kernel_rfl
theorem Tryz.infoPack : (Tryz.prog.info? 116).map (fun i => (i.zero, i.size, i.bytes)) = some (some (.agg #[.int .i64 0, .slice none 0 0]), 2, 32) := by kernel_rfl
theorem Tryz.infoInt : (Tryz.prog.info? 3).map (fun i => (i.zero, i.size, i.bytes)) = some (some (.int .i64 0), 1, 8) := by kernel_rfl

/-- packs that the call has made -/
structure OwnPk (w : World) (base : Nat) (v : Value) (L : List (PackD × Hdr)) : Prop where
  own : w.ownsRow base 116 2 v L.length (L.flatMap encK)
  good : ∀ e ∈ L, GoodPk (fun b => base ≤ b ∧ v.ownBlock ≠ some b) w e

theorem GoodPk.keep {G G' : Nat → Prop} {w w' : World} {e : PackD × Hdr} (h : GoodPk G w e) (hk : ∀ b, G b → b < w.heap.size → w'.heap[b]? = w.heap[b]? ∧ G' b) (hs : w.heap.size ≤ w'.heap.size) : GoodPk G' w' e :=
  ⟨h.1, h.2.1, (h.2.2.old.keep (fun b hb => (hk b hb.1 hb.2).1) hs).weak fun b hb => (hk b hb.1 hb.2).2⟩
theorem OwnPk.nil (w : World) (base : Nat) : OwnPk w base (.slice none 0 0) [] := ⟨World.ownsRow_nil _ _ _ _, by simp⟩
theorem OwnPk.away {w w' : World} {base m bn : Nat} {v : Value} {L : List (PackD × Hdr)} (h : OwnPk w base v L) (ha : Away m (fun b => b = bn) w w') (hm : w.heap.size ≤ m) (hb : bn < base) : OwnPk w' base v L :=
  ⟨own_away h.own ha hb hm, fun e he => (h.good e he).keep (fun b hb1 hb2 => ⟨ha.block b (by omega) (fun e => by omega), hb1⟩) ha.size⟩
theorem OwnPk.snoc {w w1 : World} {base : Nat} {v v' : Value} {L : List (PackD × Hdr)} {e : PackD × Hdr} (h : OwnPk w base v L) (_hbase : base ≤ w.heap.size) (he : GoodPk (fun b => base ≤ b ∧ v.ownBlock ≠ some b) w e) (hg : w.grownBy w1 v.ownBlock) (hat : v'.ownBlock = v.ownBlock ∨ v'.ownBlock = some w.heap.size)
    (hown : w1.ownsRow base 116 2 v' (L.length + 1) (L.flatMap encK ++ [.int .i64 e.1.rule, hdrV e.2])) : OwnPk w1 base v' (L ++ [e]) := by
  have hk : ∀ b, (base ≤ b ∧ v.ownBlock ≠ some b) → b < w.heap.size → w1.heap[b]? = w.heap[b]? ∧ (base ≤ b ∧ v'.ownBlock ≠ some b) := fun b hb hl => ⟨hg.block b hl fun e => hb.2 e.symm, hb.1, fun e => by
    rcases hat with h1 | h1
    · rw [h1] at e; exact hb.2 e
    · rw [h1] at e; injection e with e; omega⟩
  refine ⟨by rw [List.length_append, List.flatMap_append]; simpa [encK] using hown, fun a ha => ?_⟩
  rcases List.mem_append.1 ha with ha | ha
  · exact (h.good a ha).keep hk hg.size
  · simp only [List.mem_singleton] at ha
    rw [ha]; exact he.keep hk hg.size

/-- nodes that the call has made -/
def NodesAt (w : World) (base : Nat) (v : Value) (l : List NodeD) (xs : List Value) : Prop :=
  w.ownsRow base 114 5 v l.length xs ∧ ∀ k (h : k < l.length), xs[k * 5]? = some (.bool l[k].y.t) ∧ xs[k * 5 + 1]? = some (.int .i64 l[k].y.n) ∧ xs[k * 5 + 2]? = some (.int .i64 l[k].i) ∧ xs[k * 5 + 3]? = some (.int .i64 l[k].j) ∧
    ∃ A c, xs[k * 5 + 4]? = some (.slice A l[k].packs.length c) ∧ l[k].packs.length ≤ c ∧ IsSl Elt.pack (fun b => base ≤ b ∧ v.ownBlock ≠ some b) w (.slice A l[k].packs.length c) l[k].packs
def OwnNodes (w : World) (base : Nat) (v : Value) (l : List NodeD) : Prop := ∃ xs, NodesAt w base v l xs
theorem OwnNodes.nil (w : World) (base : Nat) : OwnNodes w base (.slice none 0 0) [] := ⟨[], World.ownsRow_nil _ _ _ _, fun k h => by simp at h⟩
theorem OwnNodes.away {w w' : World} {base m bn : Nat} {v : Value} {l : List NodeD} (h : OwnNodes w base v l) (ha : Away m (fun b => b = bn) w w') (hm : w.heap.size ≤ m) (hb : bn < base) : OwnNodes w' base v l := by
  obtain ⟨xs, h1, h2⟩ := h
  refine ⟨xs, own_away h1 ha hb hm, fun k hk => ?_⟩
  obtain ⟨a, b, c, d, A, cc, e, f, g⟩ := h2 k hk
  exact ⟨a, b, c, d, A, cc, e, f, (g.old.keep (fun b hb2 => ha.block b (by omega) (fun e => by have := hb2.1.1; omega)) ha.size).weak fun b hb => hb.1⟩
theorem OwnNodes.snoc {w w1 : World} {base : Nat} {v v' : Value} {l : List NodeD} {e : NodeD} {A : Option Addr} {c : Nat} {xs : List Value} (h : NodesAt w base v l xs) (_hbase : base ≤ w.heap.size) (hc : e.packs.length ≤ c) (he : IsSl Elt.pack (fun b => base ≤ b ∧ v.ownBlock ≠ some b) w (.slice A e.packs.length c) e.packs) (hg : w.grownBy w1 v.ownBlock) (hat : v'.ownBlock = v.ownBlock ∨ v'.ownBlock = some w.heap.size)
    (hown : w1.ownsRow base 114 5 v' (l.length + 1) (xs ++ [.bool e.y.t, .int .i64 e.y.n, .int .i64 e.i, .int .i64 e.j, .slice A e.packs.length c])) : OwnNodes w1 base v' (l ++ [e]) := by
  obtain ⟨h1, h2⟩ := h
  have hxl := h1.1
  have hk : ∀ {α : Type} {d : Elt α} {u : Value} {zs : List α}, IsSl d (fun b => base ≤ b ∧ v.ownBlock ≠ some b) w u zs → IsSl d (fun b => base ≤ b ∧ v'.ownBlock ≠ some b) w1 u zs := fun hz => (hz.old.keep (fun b hb => hg.block b hb.2 fun e => hb.1.2 e.symm) hg.size).weak fun b hb => ⟨hb.1.1, fun e => by
    rcases hat with h1 | h1
    · rw [h1] at e; exact hb.1.2 e
    · rw [h1] at e; injection e with e; omega⟩
  refine ⟨_, by simpa using hown, fun k hk2 => ?_⟩
  by_cases e1 : k < l.length
  · obtain ⟨a, b, c', d, A', cc, a4, f, g⟩ := h2 k e1
    have e2 : (l ++ [e])[k]'hk2 = l[k] := by simp [e1]
    rw [e2, List.getElem?_append_left (by omega), List.getElem?_append_left (by omega), List.getElem?_append_left (by omega), List.getElem?_append_left (by omega), List.getElem?_append_left (by omega)]
    exact ⟨a, b, c', d, A', cc, a4, f, hk g⟩
  · have e3 : k = l.length := by simp at hk2; omega
    subst e3
    have e2 : (l ++ [e])[l.length]'hk2 = e := by simp
    rw [e2, List.getElem?_append_right (by omega), List.getElem?_append_right (by omega), List.getElem?_append_right (by omega), List.getElem?_append_right (by omega), List.getElem?_append_right (by omega), hxl]
    have z : ∀ c, l.length * 5 + c - l.length * 5 = c := fun c => by omega
    rw [z, z, z, z, Nat.sub_self]
    exact ⟨rfl, rfl, rfl, rfl, A, c, rfl, hc, hk he⟩
theorem OwnNodes.isSl {w : World} {base : Nat} {v : Value} {l : List NodeD} (h : OwnNodes w base v l) : IsSl Elt.node (fun b => base ≤ b) w v l := by
  obtain ⟨xs, ho, h2⟩ := h
  have hm := own_max ho
  obtain ⟨A, c, rfl⟩ := own_form ho
  refine ⟨A, c, rfl, hm, fun k hk => ?_⟩
  obtain ⟨b, cap, he, hb1, hb2⟩ := ho.form (by omega)
  injection he with he1 he2 he3
  subst he1
  obtain ⟨a0, a1, a2, a3, A', cc, a4, a5, a6⟩ := h2 k hk
  have k0 := ho.cells (g := b) rfl _ _ a0
  have k1 := ho.cells (g := b) rfl _ _ a1
  have k2 := ho.cells (g := b) rfl _ _ a2
  have k3 := ho.cells (g := b) rfl _ _ a3
  have k4 := ho.cells (g := b) rfl _ _ a4
  rw [add_lit0] at k0 k1 k2 k3 k4
  refine ⟨b, 0, rfl, hb1, cell_lt k0, ⟨⟨hb1, ?_⟩, ⟨hb1, ?_⟩⟩, ⟨⟨hb1, ?_⟩, ⟨hb1, ?_⟩⟩, hb1, A', cc, ?_, a5, a6.weak fun j hj => hj.1⟩
  · show w.cell? ⟨b, 0 + k * 5, none⟩ = _
    rw [Nat.zero_add]; exact k0
  · show w.cell? ⟨b, 0 + k * 5 + 1, none⟩ = _
    rw [Nat.zero_add]; exact k1
  · show w.cell? ⟨b, 0 + k * 5 + 2, none⟩ = _
    rw [Nat.zero_add]; exact k2
  · show w.cell? ⟨b, 0 + k * 5 + 2 + 1, none⟩ = _
    rw [Nat.zero_add]; exact k3
  · show w.cell? ⟨b, 0 + k * 5 + 2 + 2, none⟩ = _
    rw [Nat.zero_add]; exact k4

/-- the packs of a node are sorted -/
theorem sort_pk {w : World} {base : Nat} {v : Value} {L : List (PackD × Hdr)} (h : OwnPk w base v L) (hlen : L.length ≤ 1000000) :
    Calls Tryz.prog 58 #[v, .func (.func 59) #[] #[]] w fun e w' => e = .returned (.tuple #[]) ∧ Away w.heap.size (fun b => base ≤ b) w w' ∧ ∃ A c, v = .slice A L.length c ∧ L.length ≤ c ∧ IsSl Elt.pack (fun b => base ≤ b) w' (.slice A ((L.map (·.1)).mergeSort packLe).length c) ((L.map (·.1)).mergeSort packLe) := by
  obtain ⟨A, c, rfl⟩ := own_form h.own
  have hcap := own_cap h.own
  rcases Nat.eq_zero_or_pos L.length with h0 | hpos
  · have hL : L = [] := List.eq_nil_of_length_eq_zero h0
    subst hL
    have hcon := AnyF.slices_SortFunc_none (P := Tryz.prog) (ρ := Tryz.sortPack_ren) { Tryz.sortPack with } A c (.func (.func 59) #[] #[]) w
    change Calls Tryz.prog 58 _ _ _ at hcon
    refine hcon.mono ?_
    rintro e w' ⟨rfl, rfl⟩
    exact ⟨rfl, Away.refl _ _ _, A, c, rfl, hcap, A, c, by simp, by simp, fun k hk => absurd hk (by simp)⟩
  · obtain ⟨g, cap, he, hg, hg2⟩ := h.own.form hpos
    injection he with h1 h2 h3
    subst h1
    refine (sort_packs w base g c (fun b => base ≤ b ∧ b ≠ g) (fun b hb => hb.2) L (fun e he => (h.good e he).keep (fun b hb _ => ⟨rfl, hb.1, fun e => hb.2 (by rw [e]; rfl)⟩) (Nat.le_refl _)) hlen h.own).mono ?_
    rintro e w' ⟨rfl, ha, hs⟩
    refine ⟨rfl, ha.mono (Nat.le_refl _) (fun j _ hj => by have hj : j = g := hj; rw [hj]; exact hg), _, c, rfl, hcap, hs.weak fun b hb => ?_⟩
    rcases hb with rfl | hb
    · exact hg
    · exact hb.1.1

theorem cell_alloc_old {w : World} {b i : Nat} {v : Value} (h : w.cell? ⟨b, i, none⟩ = some v) (o : Obj) : (w.alloc o).cell? ⟨b, i, none⟩ = some v :=
  (World.cell?_of_block (w := w) (Below.heap_alloc w o _ (cell_lt h))).trans h

section
variable {bm r : Nat} {g : Gram} {x : List Int} {M : List (List Nat)} {A : Option Addr} {c : Nat} {B : Option Addr} {d : Nat} {C : Option Addr} {q : Nat} {s : RS}

/-- what forest leaves -/
def FEnd (w w' : World) (e : Ending) (f : ForD) : Prop := ∃ N cn, e = .returned (.agg #[.slice N f.nodes.length cn, .int .i64 f.root]) ∧ Below w.heap.size w w' ∧ IsSl Elt.node (fun b => w.heap.size ≤ b) w' (.slice N f.nodes.length cn) f.nodes

set_option maxRecDepth 100000 in
set_option maxHeartbeats 3200000 in
theorem forest_any (root : Part) (w : World) (hs : RAt w bm r g x M A c B d C q s) (hne : s.ways ≠ []) (hok : ∀ p ∈ s.ways.map (·.1), OkB p) (hlen : s.ways.length ≤ 100000) (hwys : ∀ k vs, alook s.ways k = some vs → vs.length ≤ 100000 ∧ ∀ v ∈ vs, v.rule ≤ 1000 ∧ v.kids.length ≤ 4) :
    Calls Tryz.prog 37 #[.pointer (some ⟨bm, 0, none⟩), partV root] w fun e w' => FEnd w w' e (forestF s root) := by
  obtain ⟨l, hm, hkeys, hrd⟩ := hs.map
  obtain ⟨ip, hip, hp0, hp2, hp3⟩ := info_parts Tryz.infoFpart
  have hk6 := blk_cell hs.mker.blk (i := 6) rfl
  have hbm := blk_lt hs.mker.blk
  have hll : l.length ≤ 100000 := by have := congrArg List.length hkeys; simp at this; omega
  have hW : Below w.heap.size w ((w.alloc (.cells #[.bool root.y.t, .int .i64 root.y.n, .int .i64 root.i, .int .i64 root.j] 106)).alloc (.cells #[.slice none 0 0, .int .i64 0] 31)) := ((Below.refl _ _).alloc (Nat.le_refl _) _).alloc (by simp) _
  have hWs : ((w.alloc (.cells #[.bool root.y.t, .int .i64 root.y.n, .int .i64 root.i, .int .i64 root.j] 106)).alloc (.cells #[.slice none 0 0, .int .i64 0] 31)).heap.size = w.heap.size + 2 := by simp
  obtain ⟨o2, hrun, hit⟩ := run_rangeM (P := Tryz.prog) Tryz.underlying54 (hm.below hW)
  rw [hWs] at hrun hit
  have hb0 : Below w.heap.size w (((w.alloc (.cells #[.bool root.y.t, .int .i64 root.y.n, .int .i64 root.i, .int .i64 root.j] 106)).alloc (.cells #[.slice none 0 0, .int .i64 0] 31)).alloc o2) := hW.trans (((Below.refl _ _).alloc (Nat.le_refl _) _).mono hW.size)
  have hbx0 : (((w.alloc (.cells #[.bool root.y.t, .int .i64 root.y.n, .int .i64 root.i, .int .i64 root.j] 106)).alloc (.cells #[.slice none 0 0, .int .i64 0] 31)).alloc o2).heap[w.heap.size]? = some (.cells #[.bool root.y.t, .int .i64 root.y.n, .int .i64 root.i, .int .i64 root.j] 106) := by
    rw [Below.heap_alloc _ _ _ (by simp only [World.size_alloc]; omega), Below.heap_alloc _ _ _ (by simp), heap_alloc_new]
  have hfo0 : (((w.alloc (.cells #[.bool root.y.t, .int .i64 root.y.n, .int .i64 root.i, .int .i64 root.j] 106)).alloc (.cells #[.slice none 0 0, .int .i64 0] 31)).alloc o2).heap[w.heap.size + 1]? = some (.cells #[.slice none 0 0, .int .i64 0] 31) := by
    rw [Below.heap_alloc _ _ _ (by simp), show w.heap.size + 1 = (w.alloc (.cells #[.bool root.y.t, .int .i64 root.y.n, .int .i64 root.i, .int .i64 root.j] 106)).heap.size by simp, heap_alloc_new]
  have hs0 : (((w.alloc (.cells #[.bool root.y.t, .int .i64 root.y.n, .int .i64 root.i, .int .i64 root.j] 106)).alloc (.cells #[.slice none 0 0, .int .i64 0] 31)).alloc o2).heap.size = w.heap.size + 3 := by simp
  unfold partV
  go_enter Tryz.func37, Tryz.ntmps37
  go_wp2_with fail
  clear hrun hk6
  generalize (((w.alloc (.cells #[.bool root.y.t, .int .i64 root.y.n, .int .i64 root.i, .int .i64 root.j] 106)).alloc (.cells #[.slice none 0 0, .int .i64 0] 31)).alloc o2) = W0 at hb0 hbx0 hfo0 hs0 hit ⊢
  go_loopg [5] l.length (fun gk v wr => ∃ done : List Part, gk = l.length - done.length ∧ wr.ownsRow (w.heap.size + 3) 106 4 v done.length (partCells done.reverse) ∧ Below (w.heap.size + 2) W0 wr ∧ Iter partV hdrV wr (w.heap.size + 2) r l (l.map (·.1)) done)
  case atStart => exact ⟨[], by simp, World.ownsRow_nil _ _ _ _, Below.refl _ _, hit⟩
  case round =>
    clear hit
    obtain ⟨done, rfl, hown, hb, hit⟩ := hrel
    have hbs : w.heap.size + 3 ≤ wr.heap.size := by have := hb.size; omega
    rcases hit.next (P := Tryz.prog) partV_inj 0 with ⟨nn, hdone, hnx⟩ | ⟨nn, z, zv, o3, hzk, hzd, hzm, hnx, hit2, hent⟩
    · obtain ⟨hnd, hsub⟩ := hit.facts
      have hperm : done.reverse.Perm (s.ways.map (·.1)) := by
        refine (List.reverse_perm done).trans ?_
        rw [← hkeys]
        exact (List.perm_ext_iff_of_nodup hnd (by obtain ⟨es, cl, _, he⟩ := hm; exact he.dist)).2 fun a => ⟨hsub a, hdone a⟩
      have hdl : done.length = s.ways.length := by have := hperm.length_eq; simpa using this
      have hdne : done ≠ [] := fun e => by subst e; exact hne (List.eq_nil_of_length_eq_zero (by simpa using hdl.symm))
      have hpos : 0 < done.length := List.length_pos_iff.2 hdne
      obtain ⟨ba, ca, rfl, hba, hba2⟩ := hown.form hpos
      have hownr : wr.ownsRow (w.heap.size + 3) 106 4 (.slice (some ⟨ba, 0, none⟩) done.reverse.length ca) done.reverse.length (partCells done.reverse) := by rw [List.length_reverse]; exact hown
      have hrl : done.reverse.length = done.length := List.length_reverse
      have hsort := fun W (hW : W.ownsRow (w.heap.size + 3) 106 4 (.slice (some ⟨ba, 0, none⟩) done.reverse.length ca) done.reverse.length (partCells done.reverse)) => sort_parts W (w.heap.size + 3) ba ca done.reverse (fun p hp => hok p (hperm.mem_iff.1 hp)) (by omega) hW
      have hks : done.reverse.mergeSort partLe = keysF s := parts_sorted hperm
      rw [hks] at hsort
      rw [hrl] at hsort hownr
      have hkl : (keysF s).length = done.length := by rw [← hks, List.length_mergeSort, hrl]
      have hownd := hownr.kept (w' := wr.drewN nn) (row := none) ⟨rfl, rfl, rfl, Nat.le_refl _, fun _ _ _ => rfl⟩ (by simp [Value.ownBlock])
      have hsd := hsort (wr.drewN nn) hownd
      rw [hkl] at hsd
      have HDL := Lib.hid hdl
      have HKL := Lib.hid hkl
      clear hsort hdone hnd hsub hit hdl hkl hrl
      go_wp2_with fail
      with_reducible refine hsd.mono ?_
      rintro e1 w1 ⟨rfl, ha1, hsl1⟩
      have hkn : (keysF s).Nodup := (List.mergeSort_perm _ _).nodup_iff.2 (by rw [← hkeys]; obtain ⟨es, cl, _, he⟩ := hm; exact he.dist)
      have hn1 : done.length ≤ 100000 := by have := HDL.out; omega
      have hksm : ∀ z ∈ keysF s, z ∈ s.ways.map (·.1) := fun z hz => (List.mergeSort_perm _ _).mem_iff.1 hz
      generalize hkse : keysF s = ks at hsl1 HKL hkn hksm
      have HKS := Lib.hid hkse
      generalize done.length = n at hsl1 HKL hn1 hown hownr hownd HDL
      have hb1 : Below (w.heap.size + 2) W0 w1 := (below_drewN hb nn).trans ((Away.mono ha1 (show w.heap.size + 2 ≤ (wr.drewN nn).heap.size by rw [drewN_heap]; omega) (fun _ _ h => h)).below fun j hj e => by omega)
      have hbw1 : Below w.heap.size w w1 := hb0.trans (hb1.mono (by omega))
      have hs1 := hs.below hbw1
      have hm1 := hm.below hbw1
      have hbx1 := blk_below hb1 (by omega) hbx0
      have hfo1 := blk_below hb1 (by omega) hfo0
      have hw1s : w.heap.size + 3 ≤ w1.heap.size := by have := ha1.size; rw [drewN_heap] at this; omega
      have hba1 : ba < w1.heap.size := by have := ha1.size; rw [drewN_heap] at this; have := (hown.lt ba rfl).2; omega
      clear hown hownr hownd hpos hdne hperm hks hkse hb hbs hb1 hbx0 hfo0 hb0 hsd ha1 hnx hba2
      have hmk : (Instr.makeMap 140 none).run Tryz.prog w1 = .ok (.map (some w1.heap.size)) (w1.alloc (.map #[] 0)) := rfl
      go_wp2_with fail
      go_loopg [37] n (fun gk i wr => ∃ k, k ≤ n ∧ gk = n - k ∧ i = .int .i64 k ∧ Below w1.heap.size w1 wr ∧ IsMap partV intV wr w1.heap.size (atF (ks.take k)))
      case atStart => exact ⟨0, by omega, by omega, rfl, (Below.refl _ _).alloc (Nat.le_refl _) _, IsMap.new _ _ _⟩
      case round =>
        obtain ⟨k, hk, rfl, rfl, hb2, hat⟩ := hrel
        have hsl2 := hsl1.below hb2
        by_cases hlt : k < n
        · have hkk : k < ks.length := by have := HKL.out; omega
          obtain ⟨b3, o3, he3, hF3, hl3, hd0, hd1, hd2, hd3⟩ := hsl2.partAt k hkk
          injection he3 with he3
          injection he3 with he3 he4
          subst he3
          subst he4
          have hst := Lib.hid (atF_take ks hkn k hkk)
          have hkz : (k : Int) < (n : Int) := by omega
          generalize ks[k] = z at hd0 hd1 hd2 hd3 hst
          have hbA : Below wr.heap.size wr (wr.alloc (.cells #[.bool z.y.t, .int .i64 z.y.n, .int .i64 z.i, .int .i64 z.j] 106)) := (Below.refl _ _).alloc (Nat.le_refl _) _
          obtain ⟨o4, hput, hat2⟩ := (hat.below hbA).put (P := Tryz.prog) Tryz.partKey Tryz.underlying140 z (k : Int)
          rw [hst.out] at hat2
          unfold partV intV at hput
          simp only [Nat.zero_add] at hd0 hd1 hd2 hd3
          go_wp2_with fail
          go_roundg (n - (k + 1))
          case measure => omega
          case rel => exact ⟨k + 1, by omega, rfl, by go_num, below_setBlock (hb2.trans (hbA.mono hb2.size)) (Nat.le_refl _) _, hat2⟩
        · obtain rfl : k = n := by omega
          rw [List.take_of_length_le (Nat.le_of_eq HKL.out)] at hat
          have hlook : (Instr.lookup 140 (.map (some w1.heap.size)) (partV root) false).run Tryz.prog wr = .ok (.int .i64 (idxF ks root)) wr := by
            have := run_look Tryz.partKey Tryz.underlying140 Tryz.zeroInt hat root
            rw [this]
            unfold idxF intV
            cases alook (atF ks) root <;> rfl
          unfold partV at hlook
          have hbx2 := blk_below hb2 (by omega) hbx1
          have hv0 := blk_cell hbx2 (i := 0) rfl
          have hv1 := blk_cell hbx2 (i := 1) rfl
          have hv2 := blk_cell hbx2 (i := 2) rfl
          have hv3 := blk_cell hbx2 (i := 3) rfl
          go_wp2_with fail
          have hbE : Below wr.heap.size wr (wr.alloc (.cells #[.slice none 0 0, .int .i64 (idxF ks root)] 31)) := (Below.refl _ _).alloc (Nat.le_refl _) _
          have hbf := heap_alloc_new wr (.cells #[.slice none 0 0, .int .i64 (idxF ks root)] 31)
          have hb5 : Below w1.heap.size w1 (wr.alloc (.cells #[.slice none 0 0, .int .i64 (idxF ks root)] 31)) := hb2.trans (hbE.mono hb2.size)
          have hat5 := hat.below hbE
          have h5s : (wr.alloc (.cells #[.slice none 0 0, .int .i64 (idxF ks root)] 31)).heap.size = wr.heap.size + 1 := World.size_alloc _ _
          generalize (wr.alloc (.cells #[.slice none 0 0, .int .i64 (idxF ks root)] 31)) = W5 at hbf hb5 hat5 h5s ⊢
          have hbw5 : Below w.heap.size w W5 := hbw1.trans (hb5.mono hbw1.size)
          have hsl5 := hsl1.below hb5
          have hs5 := hs1.below hb5
          have hm5 := hm1.below hb5
          have hrd5 : ∀ k h v, alook l k = some h → alook s.ways k = some v → IsSl Elt.way (fun b => b ≠ bm ∧ b ≠ r) W5 (hdrV h) v := fun k h v h1 h2 => (hrd k h v h1 h2).below hbw5
          have hfo5 := blk_below hb5 (by omega) hfo1
          have h15 : w1.heap.size < wr.heap.size := hat.lt
          have hatl := hat5.lt
          have hrml := hm.lt
          clear hbE hb2 hlook hat hsl1 hs1 hm1 hbx1 hbx2 hv0 hv1 hv2 hv3 hfo1 hk hsl2
          generalize hbfe : wr.heap.size = bf at hbf h5s h15 ⊢
          clear hbfe
          obtain ⟨iN, hiN, hN0, hN2, hN3⟩ := info_parts Tryz.infoNode
          obtain ⟨iP, hiP, hP0, hP2, hP3⟩ := info_parts Tryz.infoPack
          obtain ⟨iI, hiI, hI0, hI2, hI3⟩ := info_parts Tryz.infoInt
          go_loopg [52] k (fun gk i wr => ∃ (m : Nat) (V : Value), m ≤ k ∧ gk = k - m ∧ i = .int .i64 m ∧ Away W5.heap.size (fun b => b = bf) W5 wr ∧ wr.heap[bf]? = some (.cells #[V, .int .i64 (idxF ks root)] 31 (0, 0)) ∧ OwnNodes wr W5.heap.size V ((ks.take m).map (nodeF ks s)))
          case atStart => exact ⟨0, _, by omega, by omega, rfl, Away.refl _ _ _, hbf, OwnNodes.nil _ _⟩
          case round =>
            obtain ⟨m, V, hm6, rfl, rfl, ha6, hbf6, hon⟩ := hrel
            obtain ⟨wo, rfl⟩ : ∃ wo : World, wo = wr := ⟨_, rfl⟩
            have hsz6 := ha6.size
            have hVl : ∀ b, V.ownBlock = some b → b < wo.heap.size := by obtain ⟨xs0, h1, _⟩ := hon; exact fun b hb => (h1.lt b hb).2
            by_cases hlt : m < k
            · have hkk : m < ks.length := by have := HKL.out; omega
              have hsl6 := (hsl5.old.keep (fun b hb => ha6.block b hb.2 (fun e => by have := hb.1; omega)) ha6.size)
              obtain ⟨b3, o3, he3, hF3, hl3, hd0, hd1, hd2, hd3⟩ := hsl6.partAt m hkk
              injection he3 with he3
              injection he3 with he3 he4
              subst he3
              subst he4
              simp only [Nat.zero_add] at hd0 hd1 hd2 hd3
              have hkz : (m : Int) < (k : Int) := by omega
              have hzk : ks[m] ∈ s.ways.map (·.1) := hksm _ (by simp)
              have htk := Lib.hid (show (ks.take (m + 1)).map (nodeF ks s) = (ks.take m).map (nodeF ks s) ++ [nodeF ks s ks[m]] by rw [List.take_succ_eq_append_getElem hkk, List.map_append]; rfl)
              generalize ks[m] = z at hd0 hd1 hd2 hd3 hzk htk
              -- the part's ways
              obtain ⟨hz, hlz⟩ : ∃ h, alook l z = some h := by
                cases h : alook l z with
                | none => exact absurd (hkeys ▸ hzk) (alook_none.1 h)
                | some h' => exact ⟨h', rfl⟩
              obtain ⟨vs, hvs⟩ : ∃ v, alook s.ways z = some v := by
                cases h : alook s.ways z with
                | none => exact absurd hzk (alook_none.1 h)
                | some v => exact ⟨v, rfl⟩
              have hwz := hrd z hz vs hlz hvs
              obtain ⟨hvs1, hvs2⟩ := hwys z vs hvs
              obtain ⟨H1, H3, hH⟩ := hwz.form
              rw [hH] at hwz
              have hnf := Lib.hid (show nodeF ks s z = ⟨z.y, z.i, z.j, (vs.map (packF ks)).mergeSort packLe⟩ by unfold nodeF; rw [hvs]; rfl)
              have hbA : Below wo.heap.size wo ((wo.alloc (.cells #[.bool z.y.t, .int .i64 z.y.n, .int .i64 z.i, .int .i64 z.j] 106)).alloc (.cells #[.bool z.y.t, .int .i64 z.y.n, .int .i64 z.i, .int .i64 z.j, .slice none 0 0] 114)) := ((Below.refl _ _).alloc (Nat.le_refl _) _).alloc (by simp) _
              have hxA : ((wo.alloc (.cells #[.bool z.y.t, .int .i64 z.y.n, .int .i64 z.i, .int .i64 z.j] 106)).alloc (.cells #[.bool z.y.t, .int .i64 z.y.n, .int .i64 z.i, .int .i64 z.j, .slice none 0 0] 114)).heap[wo.heap.size]? = some (.cells #[.bool z.y.t, .int .i64 z.y.n, .int .i64 z.i, .int .i64 z.j] 106) := by
                rw [Below.heap_alloc _ _ _ (by simp), heap_alloc_new]
              have hnA : ((wo.alloc (.cells #[.bool z.y.t, .int .i64 z.y.n, .int .i64 z.i, .int .i64 z.j] 106)).alloc (.cells #[.bool z.y.t, .int .i64 z.y.n, .int .i64 z.i, .int .i64 z.j, .slice none 0 0] 114)).heap[wo.heap.size + 1]? = some (.cells #[.bool z.y.t, .int .i64 z.y.n, .int .i64 z.i, .int .i64 z.j, .slice none 0 0] 114) := by
                rw [show wo.heap.size + 1 = (wo.alloc (.cells #[.bool z.y.t, .int .i64 z.y.n, .int .i64 z.i, .int .i64 z.j] 106)).heap.size by simp, heap_alloc_new]
              have hAs : ((wo.alloc (.cells #[.bool z.y.t, .int .i64 z.y.n, .int .i64 z.i, .int .i64 z.j] 106)).alloc (.cells #[.bool z.y.t, .int .i64 z.y.n, .int .i64 z.i, .int .i64 z.j, .slice none 0 0] 114)).heap.size = wo.heap.size + 2 := by simp
              go_wp2_with fail
              generalize ((wo.alloc (.cells #[.bool z.y.t, .int .i64 z.y.n, .int .i64 z.i, .int .i64 z.j] 106)).alloc (.cells #[.bool z.y.t, .int .i64 z.y.n, .int .i64 z.i, .int .i64 z.j, .slice none 0 0] 114)) = W6 at hbA hxA hnA hAs ⊢
              have hbwr : Below w.heap.size w wo := hbw5.trans ((Away.mono ha6 hbw5.size (fun _ _ h => h)).below (fun j hj e => by have e : j = bf := e; omega))
              have hbw6 : Below w.heap.size w W6 := hbwr.trans (hbA.mono hbwr.size)
              have ha7 : Away W5.heap.size (fun b => b = bf) W5 W6 := ha6.trans ((Away.ofBelow hbA).mono hsz6 (fun _ _ h => h))
              have hat6 := (hat5.same (ha6.block _ hatl (fun e => by have e : w1.heap.size = bf := e; omega))).below hbA
              have hbf7 := blk_below hbA (blk_lt hbf6) hbf6
              have hon6 := hon.away (m := wo.heap.size) (bn := bf) (Away.ofBelow hbA) (Nat.le_refl _) (by omega)
              have hs6 := hs.below hbw6
              have hm6' := hm.below hbw6
              have hwz6 := hwz.below hbw6
              have hlook : ∀ P : Behind W6, (Instr.lookup 54 (.map (some r)) (partV z) false).run Tryz.prog P.w' = .ok (.slice H1 vs.length H3) P.w' := fun P => by
                have := run_look Tryz.partKey Tryz.underlying54 Tryz.zeroWays (hm6'.below P.h) z
                rw [hlz, Option.map_some, Option.getD_some, hH] at this
                exact this
              unfold partV at hlook
              have q6 := cell_behind (blk_cell hs6.mker.blk (i := 6) rfl)
              have q0 := cell_behind (blk_cell hxA (i := 0) rfl)
              have q1 := cell_behind (blk_cell hxA (i := 1) rfl)
              have q2 := cell_behind (blk_cell hxA (i := 2) rfl)
              have q3 := cell_behind (blk_cell hxA (i := 3) rfl)
              have hvl := hwz6.len.2
              clear hd0 hd1 hd2 hd3
              refine wp_region_behind (by kernel_rfl) (by kernel_rfl) ?_
              repeat (go_big_quiet_step (fail))
              refine wpQuiet_nil ?_
              intro _ hw'
              obtain ⟨P2, hw''⟩ := hw'
              subst hw''
              have hbP := P2.h
              generalize P2.w' = W7 at hbP ⊢
              clear hlook q6 q0 q1 q2 q3 hH
              have hbw7 := hbw6.trans (hbP.mono hbw6.size)
              have ha7 := ha7.trans ((Away.ofBelow hbP).mono ha7.size (fun _ _ h => h))
              have hat7 := hat6.below hbP
              have hbf7 := blk_below hbP (blk_lt hbf7) hbf7
              have hon7 := hon6.away (m := W6.heap.size) (bn := bf) (Away.ofBelow hbP) (Nat.le_refl _) (by omega)
              have hwz7 := hwz6.below hbP
              have hn7 := blk_below hbP (blk_lt hnA) hnA
              have h7s := hbP.size
              have hbo7 : Below wo.heap.size wo W7 := hbA.trans (hbP.mono hbA.size)
              clear hs6 hm6' hwz6 hat6 hbw6 hon6 hnA hxA hwz7 hbP hsl6
              go_wp2_with fail
              go_loopg [70] vs.length (fun gk i wr => ∃ (e : Nat) (V2 : Value) (L : List (PackD × Hdr)), e ≤ vs.length ∧ gk = vs.length - e ∧ i = .int .i64 e ∧ Away W7.heap.size (fun b => b = wo.heap.size + 1) W7 wr ∧ wr.heap[wo.heap.size + 1]? = some (.cells #[.bool z.y.t, .int .i64 z.y.n, .int .i64 z.i, .int .i64 z.j, V2] 114 (0, 0)) ∧ OwnPk wr W7.heap.size V2 L ∧ L.map (·.1) = (vs.take e).map (packF ks))
              case atStart => exact ⟨0, _, [], by omega, by omega, rfl, Away.refl _ _ _, hn7, OwnPk.nil _ _, rfl⟩
              case round =>
                obtain ⟨e, V2, L, he8, rfl, rfl, ha8, hn8, hop, hLm⟩ := hrel
                have h8s := ha8.size
                by_cases hlt8 : e < vs.length
                · have hbw8 : Below w.heap.size w wr := hbw7.trans ((Away.mono ha8 hbw7.size (fun _ _ h => h)).below (fun j hj e => by have e : j = wo.heap.size + 1 := e; omega))
                  obtain ⟨b5, o5, rfl, hF5, hl5, hc5, A6, c6, hc6, hkd0⟩ := hwz.wayAt e hlt8
                  replace hc5 := (hbw8.cell (p := ⟨b5, o5 + e * 2, none⟩) hl5).trans hc5
                  replace hc6 := (hbw8.cell (p := ⟨b5, o5 + e * 2 + 1, none⟩) hl5).trans hc6
                  have hv9 := hvs2 vs[e] (by simp)
                  have hez : (e : Int) < (vs.length : Int) := by omega
                  have htv := Lib.hid (show (vs.take (e + 1)).map (packF ks) = (vs.take e).map (packF ks) ++ [packF ks vs[e]] by rw [List.take_succ_eq_append_getElem hlt8, List.map_append]; rfl)
                  generalize vs[e] = v at hc5 hc6 hv9 htv hkd0
                  obtain ⟨wp, rfl⟩ : ∃ wp : World, wp = wr := ⟨_, rfl⟩
                  have hbB : Below wp.heap.size wp ((wp.alloc (.cells #[.int .i64 v.rule, .slice A6 v.kids.length c6] 137)).alloc (.cells #[.int .i64 v.rule, .slice none 0 0] 116)) := ((Below.refl _ _).alloc (Nat.le_refl _) _).alloc (by simp) _
                  have hpB : ((wp.alloc (.cells #[.int .i64 v.rule, .slice A6 v.kids.length c6] 137)).alloc (.cells #[.int .i64 v.rule, .slice none 0 0] 116)).heap[wp.heap.size + 1]? = some (.cells #[.int .i64 v.rule, .slice none 0 0] 116) := by
                    rw [show wp.heap.size + 1 = (wp.alloc (.cells #[.int .i64 v.rule, .slice A6 v.kids.length c6] 137)).heap.size by simp, heap_alloc_new]
                  have hBs : ((wp.alloc (.cells #[.int .i64 v.rule, .slice A6 v.kids.length c6] 137)).alloc (.cells #[.int .i64 v.rule, .slice none 0 0] 116)).heap.size = wp.heap.size + 2 := by simp
                  go_wp2_with fail
                  generalize ((wp.alloc (.cells #[.int .i64 v.rule, .slice A6 v.kids.length c6] 137)).alloc (.cells #[.int .i64 v.rule, .slice none 0 0] 116)) = W8 at hbB hpB hBs ⊢
                  clear hc5 hc6
                  have hbw9 : Below w.heap.size w W8 := hbw8.trans (hbB.mono hbw8.size)
                  have hat9 : IsMap partV intV W8 w1.heap.size (atF ks) := (hat7.same (ha8.block _ (by omega) (fun e => by have e : w1.heap.size = wo.heap.size + 1 := e; omega))).below hbB
                  obtain ⟨hv91, hv92⟩ := hv9
                  go_loopg [80] v.kids.length (fun gk i wr => ∃ (f : Nat) (V3 : Value), f ≤ v.kids.length ∧ gk = v.kids.length - f ∧ i = .int .i64 f ∧ Away W8.heap.size (fun b => b = wp.heap.size + 1) W8 wr ∧ wr.heap[wp.heap.size + 1]? = some (.cells #[.int .i64 v.rule, V3] 116 (0, 0)) ∧ wr.ownsRow W8.heap.size 3 1 V3 f (((v.kids.take f).map (idxF ks)).map (Value.int .i64)))
                  case atStart => exact ⟨0, _, by omega, by omega, rfl, Away.refl _ _ _, hpB, World.ownsRow_nil _ _ _ _⟩
                  case round =>
                    obtain ⟨f, V3, hf9, rfl, rfl, ha9, hp9, hown9⟩ := hrel
                    by_cases hlt9 : f < v.kids.length
                    · have hbw10 : Below w.heap.size w wr := hbw9.trans ((Away.mono ha9 hbw9.size (fun _ _ h => h)).below (fun j hj e => by have e : j = wp.heap.size + 1 := e; have := hbw8.size; omega))
                      have hat10 : IsMap partV intV wr w1.heap.size (atF ks) := hat9.same (ha9.block _ (by omega) (fun e => by have e : w1.heap.size = wp.heap.size + 1 := e; have := ha8.size; omega))
                      obtain ⟨b7, o7, rfl, hF7, hl7, he0, he1, he2, he3⟩ := hkd0.partAt f hlt9
                      replace he0 := (hbw10.cell (p := ⟨b7, o7 + f * 4, none⟩) hl7).trans he0
                      replace he1 := (hbw10.cell (p := ⟨b7, o7 + f * 4 + 1, none⟩) hl7).trans he1
                      replace he2 := (hbw10.cell (p := ⟨b7, o7 + f * 4 + 2, none⟩) hl7).trans he2
                      replace he3 := (hbw10.cell (p := ⟨b7, o7 + f * 4 + 3, none⟩) hl7).trans he3
                      have hfz : (f : Int) < (v.kids.length : Int) := by omega
                      have htf := Lib.hid (show ((v.kids.take (f + 1)).map (idxF ks)).map (Value.int .i64) = ((v.kids.take f).map (idxF ks)).map (Value.int .i64) ++ [.int .i64 (idxF ks v.kids[f])] by rw [List.take_succ_eq_append_getElem hlt9, List.map_append, List.map_append]; rfl)
                      generalize v.kids[f] = kd at he0 he1 he2 he3 htf
                      have hbC : Below wr.heap.size wr (wr.alloc (.cells #[.bool kd.y.t, .int .i64 kd.y.n, .int .i64 kd.i, .int .i64 kd.j] 106)) := (Below.refl _ _).alloc (Nat.le_refl _) _
                      have hxC := heap_alloc_new wr (.cells #[.bool kd.y.t, .int .i64 kd.y.n, .int .i64 kd.i, .int .i64 kd.j] 106)
                      have hpC := blk_below hbC (blk_lt hp9) hp9
                      have hownC := hown9.alloc (.cells #[.bool kd.y.t, .int .i64 kd.y.n, .int .i64 kd.i, .int .i64 kd.j] 106)
                      have hatC := hat10.below hbC
                      have hCs : (wr.alloc (.cells #[.bool kd.y.t, .int .i64 kd.y.n, .int .i64 kd.i, .int .i64 kd.j] 106)).heap.size = wr.heap.size + 1 := World.size_alloc _ _
                      obtain ⟨A3, c3, rfl⟩ := own_form hown9
                      have h9s := ha9.size
                      have hownD : ∀ o, ((wr.alloc (.cells #[.bool kd.y.t, .int .i64 kd.y.n, .int .i64 kd.i, .int .i64 kd.j] 106)).alloc o).drew.ownsRow W8.heap.size 3 1 (.slice A3 f c3) f (((v.kids.take f).map (idxF ks)).map (Value.int .i64)) := fun o => hownC.alloc o
                      go_wp2_with fail
                      clear he0 he1 he2 he3
                      have ha10 : Away W8.heap.size (fun b => b = wp.heap.size + 1) W8 (wr.alloc (.cells #[.bool kd.y.t, .int .i64 kd.y.n, .int .i64 kd.i, .int .i64 kd.j] 106)) := ha9.trans ((Away.ofBelow hbC).mono h9s (fun _ _ h => h))
                      generalize (wr.alloc (.cells #[.bool kd.y.t, .int .i64 kd.y.n, .int .i64 kd.i, .int .i64 kd.j] 106)) = W10 at hxC hpC hownC hownD hatC hCs ha10 ⊢
                      have hx0 := blk_cell hxC (i := 0) rfl
                      have hx1 := blk_cell hxC (i := 1) rfl
                      have hx2 := blk_cell hxC (i := 2) rfl
                      have hx3 := blk_cell hxC (i := 3) rfl
                      have hpc1 := blk_cell hpC (i := 1) rfl
                      have hlk : (Instr.lookup 140 (.map (some w1.heap.size)) (partV kd) false).run Tryz.prog W10.drew = .ok (.int .i64 (idxF ks kd)) W10.drew := by
                        have := run_look Tryz.partKey Tryz.underlying140 Tryz.zeroInt (hatC.same (w' := W10.drew) rfl) kd
                        rw [this]
                        unfold idxF intV
                        cases alook (atF ks) kd <;> rfl
                      unfold partV at hlk
                      generalize idxF ks kd = ix at hlk htf
                      have HCS := Lib.hid hCs
                      clear hCs
                      have hpCl := blk_lt hpC
                      have hW8s : W8.heap.size ≤ W10.heap.size := ha10.size
                      have hbD : ∀ o, Below W10.heap.size W10 (W10.alloc o).drew := fun o => ((Below.refl _ _).alloc (Nat.le_refl _) _).drew
                      have hpD := cell_alloc_old hpc1
                      go_region_law (first | (refine step_append_src _ rfl (.tmp 85) (.tmp 89) 22 rfl W8.heap.size 3 iI (.int .i64 0) 1 8 Tryz.underlying22 hiI hI0 hI2 hI3 rfl (by decide) (.slice A3 f c3) f _ rfl (hownD _) (some ⟨W10.heap.size, 0, none⟩) 1 1 [.int .i64 ix] rfl rfl (by intro h; cases h) (fun a ha j u hj => by injection ha with ha; subst ha; exact cells_new W10 _ _ _ _ hj) (fun u hu => by simp at hu; rw [hu]; rfl) (f + 1) rfl (by unfold maxLen; omega) (by omega) (by show W8.heap.size ≤ (W10.alloc _).heap.size; rw [World.size_alloc]; omega) ?_; intro A11 c11 w11 hown11 hg11 hat11; have hp11 := (hg11.block _ (Nat.lt_of_lt_of_le hpCl (hbD _).size) (fun e => by have := own_base' (hownC.alloc (.cells #[.int .i64 ix] 3)) _ e.symm; omega)).trans (((hbD (.cells #[.int .i64 ix] 3)).block _ hpCl).trans hpC); have hpe1 := blk_cell hp11 (i := 1) rfl; have hpf1 : w11.frozen? ⟨wp.heap.size + 1, 1, none⟩ = false := blk_free hp11))
                      all_goals
                        go_wp2_with fail
                        go_roundg (v.kids.length - (f + 1))
                        case measure => omega
                        case rel =>
                          refine ⟨f + 1, .slice A11 (f + 1) c11, by omega, rfl, by go_num, ?_, ?_, ?_⟩
                          · exact ((ha10.trans ((Away.ofBelow (hbD (.cells #[.int .i64 ix] 3))).mono ha10.size (fun _ _ h => h))).trans (Away.grown hg11 (by show W8.heap.size ≤ (W10.alloc _).heap.size; rw [World.size_alloc]; omega) (fun j hj => .inr (own_base' (hownC.alloc (.cells #[.int .i64 ix] 3)) j hj)))).trans (Away.setCell _ _ _ _ (.inl rfl))
                          · rw [heap_set hp11]; rfl
                          · rw [htf.out]; exact own_setCell hown11 (by omega) _
                    · obtain rfl : f = v.kids.length := by omega
                      rw [List.take_length] at hown9
                      obtain ⟨A3, c3, rfl⟩ := own_form hown9
                      have h9s := ha9.size
                      have hbpr : Below wp.heap.size wp wr := hbB.trans ((Away.mono ha9 (by omega) (fun _ _ h => h)).below (fun j hj e => by have e : j = wp.heap.size + 1 := e; omega))
                      have hopr : OwnPk wr W7.heap.size V2 L := hop.away (m := wp.heap.size) (bn := bf) (Away.ofBelow hbpr) (Nat.le_refl _) (by omega)
                      have hnr := blk_below hbpr (blk_lt hn8) hn8
                      have hnl := blk_lt hn8
                      obtain ⟨A2, c2, rfl⟩ := own_form hopr.own
                      have hkl9 : (packF ks v).kids.length = v.kids.length := by simp [packF]
                      have hge : GoodPk (fun b => W7.heap.size ≤ b ∧ (Value.slice A2 L.length c2).ownBlock ≠ some b) wr (packF ks v, (A3, v.kids.length, c3)) := by
                        refine ⟨hv91, ⟨A3, c3, by rw [hkl9], by rw [hkl9]; exact own_cap hown9⟩, ?_⟩
                        refine (own_ints hown9).weak fun b hb => ⟨by omega, fun e => ?_⟩
                        have := (hop.own.lt b e).2
                        omega
                      have hLl : L.length ≤ 100000 := by
                        have := congrArg List.length hLm
                        rw [List.length_map, List.length_map, List.length_take] at this; omega
                      have hw8s : W7.heap.size ≤ wr.heap.size := by omega
                      have hwpr := hbpr.size
                      have hpk0 := blk_cell hp9 (i := 0) rfl
                      have hpk1 := blk_cell hp9 (i := 1) rfl
                      have hnr4 := blk_cell hnr (i := 4) rfl
                      have hbf7l : bf < W7.heap.size := by omega
                      have hno7 : wo.heap.size + 1 < W7.heap.size := by omega
                      have HBS := Lib.hid hBs
                      have HAS := Lib.hid hAs
                      have H5S := Lib.hid h5s
                      clear hBs hAs h5s
                      go_wp2_with (first | (at_builtin; refine wpList_append_src _ rfl (.tmp 94) (.tmp 96) 112 rfl W7.heap.size 116 iP (.agg #[.int .i64 0, .slice none 0 0]) 2 32 Tryz.underlying112 hiP hP0 hP2 hP3 rfl (by decide) _ L.length (L.flatMap encK) rfl ?ho (some ⟨wr.heap.size, 0, none⟩) 1 1 [.int .i64 v.rule, .slice A3 v.kids.length c3] rfl rfl ?c0 ?c1 ?c2 ?c3 ?c4 ?c5 ?_))
                      case ho => exact hopr.own.alloc _
                      case c0 => intro h; cases h
                      case c1 =>
                        intro a ha j u hj
                        injection ha with ha
                        subst ha
                        exact cells_new wr _ _ _ _ hj
                      case c2 => intro u hu; simp at hu; rcases hu with rfl | rfl <;> rfl
                      case c3 => unfold maxLen; omega
                      case c4 => omega
                      case c5 => rw [World.size_alloc]; omega
                      intro v' w12 hown12 hg12 hat12
                      obtain ⟨A13, c13, rfl⟩ := own_form hown12
                      have hbG : Below wr.heap.size wr (wr.alloc (.cells #[.int .i64 v.rule, .slice A3 v.kids.length c3] 116)) := (Below.refl _ _).alloc (Nat.le_refl _) _
                      have hn12 := (hg12.block _ (Nat.lt_of_lt_of_le (blk_lt hnr) hbG.size) (fun e => by have := own_base' hopr.own _ e.symm; omega)).trans (blk_below hbG (blk_lt hnr) hnr)
                      have hn124 := blk_cell hn12 (i := 4) rfl
                      have hn12f : w12.frozen? ⟨wo.heap.size + 1, 4, none⟩ = false := blk_free hn12
                      have hop12 := OwnPk.snoc (hopr.away (m := wr.heap.size) (bn := bf) (Away.ofBelow hbG) (Nat.le_refl _) (by omega)) (by rw [World.size_alloc]; omega) (hge.keep (fun b hb hl => ⟨hbG.block b hl, hb⟩) hbG.size) hg12 (by rw [World.size_alloc]; exact hat12) hown12
                      have ha12 : Away W7.heap.size (fun b => b = wo.heap.size + 1) W7 w12 := (ha8.trans ((Away.ofBelow (hbpr.trans (hbG.mono hwpr))).mono h8s (fun _ _ h => h))).trans (Away.grown hg12 (by rw [World.size_alloc]; omega) (fun j hj => .inr (own_base' hopr.own j hj)))
                      go_wp2
                      go_roundg (vs.length - (e + 1))
                      case measure => omega
                      case rel =>
                        refine ⟨e + 1, .slice A13 (L.length + 1) c13, L ++ [(packF ks v, (A3, v.kids.length, c3))], by omega, rfl, by go_num, ha12.trans (Away.setCell _ _ _ _ (.inl rfl)), ?_, ?_, ?_⟩
                        · rw [heap_set hn12]; rfl
                        · exact hop12.away (m := w12.heap.size) (bn := wo.heap.size + 1) (Away.setCell _ _ _ _ (.inl rfl)) (Nat.le_refl _) (by have := HAS.out; omega)
                        · rw [List.map_append, hLm, htv.out]; rfl
                · obtain rfl : e = vs.length := by omega
                  rw [List.take_length] at hLm
                  have hLl : L.length ≤ 100000 := by
                    have := congrArg List.length hLm
                    rw [List.length_map, List.length_map] at this; omega
                  have hbf7l : bf < W7.heap.size := by omega
                  have hno7 : wo.heap.size + 1 < W7.heap.size := by omega
                  have hbor : Below wo.heap.size wo wr := by
                    have h1 : Below wo.heap.size wo W7 := hbo7
                    exact h1.trans ((Away.mono ha8 h1.size (fun _ _ h => h)).below (fun j hj e => by have e : j = wo.heap.size + 1 := e; omega))
                  have hnl := blk_lt hn8
                  have hn84 := blk_cell hn8 (i := 4) rfl
                  have H5S := Lib.hid h5s
                  have HAS := Lib.hid hAs
                  clear hAs h5s
                  have hsrt := sort_pk hop (by omega)
                  go_wp2_with fail
                  with_reducible refine hsrt.mono ?_
                  rintro e13 w13 ⟨rfl, ha13, A2, c2, rfl, hcap13, hpk13⟩
                  have hw13 := ha13.size
                  have hb13 : Below wo.heap.size wo w13 := hbor.trans ((Away.mono ha13 hbor.size (fun _ _ h => h)).below (fun j hj e => by have e : W7.heap.size ≤ j := e; omega))
                  have hn13 := (ha13.block _ (blk_lt hn8) (fun e => by have e : W7.heap.size ≤ wo.heap.size + 1 := e; omega)).trans hn8
                  have hbf13 := blk_below hb13 (blk_lt hbf6) hbf6
                  have hon13 := hon.away (m := wo.heap.size) (bn := bf) (Away.ofBelow hb13) (Nat.le_refl _) (by have := H5S.out; omega)
                  have hml : ((L.map (·.1)).mergeSort packLe).length = L.length := by rw [List.length_mergeSort, List.length_map]
                  rw [hml, hLm] at hpk13
                  have hml2 : ((vs.map (packF ks)).mergeSort packLe).length = L.length := by rw [← hLm]; exact hml
                  have hnz := hnf.out
                  rw [hnz] at htk
                  generalize (vs.map (packF ks)).mergeSort packLe = pk at hpk13 hml2 htk
                  obtain ⟨xsN, hNA⟩ := hon13
                  obtain ⟨AV, cV, rfl⟩ := own_form hNA.1
                  have hmlen : ((ks.take m).map (nodeF ks s)).length = m := by rw [List.length_map, List.length_take]; omega
                  have hownV := hNA.1
                  rw [hmlen] at hbf13 hNA hownV
                  have hkk9 : m ≤ 100000 := by omega
                  have hb14 : Below w13.heap.size w13 (w13.alloc (.cells #[.bool z.y.t, .int .i64 z.y.n, .int .i64 z.i, .int .i64 z.j, .slice A2 L.length c2] 114)) := (Below.refl _ _).alloc (Nat.le_refl _) _
                  have hwo13 := hb13.size
                  have hbfc := blk_cell hbf13 (i := 0) rfl
                  have hnc0 := blk_cell hn13 (i := 0) rfl
                  have hnc1 := blk_cell hn13 (i := 1) rfl
                  have hnc2 := blk_cell hn13 (i := 2) rfl
                  have hnc3 := blk_cell hn13 (i := 3) rfl
                  have hnc4 := blk_cell hn13 (i := 4) rfl
                  have HML := Lib.hid hml2
                  have HMM := Lib.hid hmlen
                  clear hml hml2 hmlen hLm hnz hn84
                  go_wp2_with (first | (at_builtin; refine wpList_append_src _ rfl (.tmp 104) (.tmp 106) 29 rfl W5.heap.size 114 iN (.agg #[.bool false, .int .i64 0, .int .i64 0, .int .i64 0, .slice none 0 0]) 5 56 Tryz.underlying29 hiN hN0 hN2 hN3 rfl (by decide) _ m xsN rfl ?ho (some ⟨w13.heap.size, 0, none⟩) 1 1 [.bool z.y.t, .int .i64 z.y.n, .int .i64 z.i, .int .i64 z.j, .slice A2 L.length c2] rfl rfl ?c0 ?c1 ?c2 ?c3 ?c4 ?c5 ?_))
                  case ho => exact hownV.alloc _
                  case c0 => intro h; cases h
                  case c1 =>
                    intro a ha j u hj
                    injection ha with ha
                    subst ha
                    exact cells_new w13 _ _ _ _ hj
                  case c2 => intro u hu; simp at hu; rcases hu with rfl | rfl | rfl | rfl | rfl <;> rfl
                  case c3 => unfold maxLen; omega
                  case c4 => omega
                  case c5 => rw [World.size_alloc]; omega
                  intro v' w14 hown14 hg14 hat14
                  obtain ⟨A14, c14, rfl⟩ := own_form hown14
                  have hbf14 := (hg14.block _ (Nat.lt_of_lt_of_le (blk_lt hbf13) hb14.size) (fun e => by have := own_base' hownV _ e.symm; have := H5S.out; omega)).trans (blk_below hb14 (blk_lt hbf13) hbf13)
                  have hbfc14 := blk_cell hbf14 (i := 0) rfl
                  have hbff14 : w14.frozen? ⟨bf, 0, none⟩ = false := blk_free hbf14
                  have hNA14 : NodesAt (w13.alloc (.cells #[.bool z.y.t, .int .i64 z.y.n, .int .i64 z.i, .int .i64 z.j, .slice A2 L.length c2] 114)) W5.heap.size (.slice AV m cV) ((ks.take m).map (nodeF ks s)) xsN := by
                    refine ⟨hNA.1.alloc _, fun k hk => ?_⟩
                    obtain ⟨a0, a1, a2, a3, A', cc, a4, a5, a6⟩ := hNA.2 k hk
                    exact ⟨a0, a1, a2, a3, A', cc, a4, a5, a6.below hb14⟩
                  have hpkA : IsSl Elt.pack (fun b => W5.heap.size ≤ b ∧ (Value.slice AV m cV).ownBlock ≠ some b) (w13.alloc (.cells #[.bool z.y.t, .int .i64 z.y.n, .int .i64 z.i, .int .i64 z.j, .slice A2 L.length c2] 114)) (.slice A2 pk.length c2) pk := by
                    rw [HML.out]
                    refine (hpk13.below hb14).weak fun b hb => ⟨by omega, fun e => ?_⟩
                    have := hVl b (by cases AV <;> exact e)
                    omega
                  have hown14' : w14.ownsRow W5.heap.size 114 5 (.slice A14 (m + 1) c14) (((ks.take m).map (nodeF ks s)).length + 1) (xsN ++ [.bool z.y.t, .int .i64 z.y.n, .int .i64 z.i, .int .i64 z.j, .slice A2 pk.length c2]) := by
                    rw [HML.out, HMM.out]; exact hown14
                  have hfin := OwnNodes.snoc (e := ⟨z.y, z.i, z.j, pk⟩) hNA14 (by rw [World.size_alloc]; omega) (by rw [HML.out]; exact hcap13) hpkA hg14 (by rw [World.size_alloc]; exact hat14) hown14'
                  rw [← htk.out] at hfin
                  have ha14 : Away W5.heap.size (fun b => b = bf) W5 w14 := (ha6.trans ((Away.ofBelow (hb13.trans (hb14.mono hwo13))).mono hsz6 (fun _ _ h => h))).trans (Away.grown hg14 (by rw [World.size_alloc]; omega) (fun j hj => .inr (own_base' hownV j hj)))
                  go_wp2
                  go_roundg (k - (m + 1))
                  case measure => omega
                  case rel =>
                    refine ⟨m + 1, .slice A14 (m + 1) c14, by omega, rfl, by go_num, ha14.trans (Away.setCell _ _ _ _ (.inl rfl)), ?_, ?_⟩
                    · rw [heap_set hbf14]; rfl
                    · exact hfin.away (m := w14.heap.size) (bn := bf) (Away.setCell _ _ _ _ (.inl rfl)) (Nat.le_refl _) (by have := H5S.out; omega)
            · obtain rfl : m = k := by omega
              rw [List.take_of_length_le (Nat.le_of_eq HKL.out)] at hon
              have hfe : forestF s root = ⟨ks.map (nodeF ks s), idxF ks root⟩ := by unfold forestF; rw [HKS.out]
              have hfor := (ha6.block _ (blk_lt hfo5) (fun e => by have e : w.heap.size + 1 = bf := e; omega)).trans hfo5
              have hf0 : wo.frozen? ⟨w.heap.size + 1, 0, none⟩ = false := blk_free hfor
              have hf1 : wo.frozen? ⟨w.heap.size + 1, 1, none⟩ = false := blk_free hfor
              have hc0 := blk_cell hfor (i := 0) rfl
              have hc1 := blk_cell hfor (i := 1) rfl
              have hg0 := blk_cell hbf6 (i := 0) rfl
              have hg1 := blk_cell hbf6 (i := 1) rfl
              have hbwr : Below w.heap.size w wo := hbw5.trans ((Away.mono ha6 hbw5.size (fun _ _ h => h)).below (fun j hj e => by have e : j = bf := e; omega))
              obtain ⟨AV, cV, hV⟩ := hon.isSl.form
              have hnsl := hon.isSl
              have hl5 : (ks.map (nodeF ks s)).length = ks.length := List.length_map _
              rw [hl5] at hV
              subst hV
              have HL5 := Lib.hid hl5
              have HFE := Lib.hid hfe
              have H5S := Lib.hid h5s
              clear hfe h5s hl5
              have hfin : ((wo.setCell ⟨w.heap.size + 1, 0, none⟩ (.slice AV ks.length cV)).setCell ⟨w.heap.size + 1, 1, none⟩ (.int .i64 (idxF ks root))).heap[w.heap.size + 1]? = some (.cells #[.slice AV ks.length cV, .int .i64 (idxF ks root)] 31 (0, 0)) := by
                rw [heap_set (heap_set hfor _ _)]; rfl
              go_wp2_with fail
              refine bodyPost_ret (results_cell rfl rfl (run_loadVar_row _ (w.heap.size + 1) 31 31 #[.slice AV ks.length cV, .int .i64 (idxF ks root)] (0, 0) _ hfin Tryz.underlying31 rfl (by kernel_rfl))) rfl ?_
              have h5w := hbw5.size
              rw [HFE.out]
              refine ⟨AV, cV, by simp only [HL5.out], (hbwr.setCell (by show w.heap.size ≤ w.heap.size + 1; omega) _).setCell (by show w.heap.size ≤ w.heap.size + 1; omega) _, ?_⟩
              rw [← HL5.out] at hnsl
              have h5l := H5S.out
              exact (hnsl.keep (fun b hb => by rw [heap_set_ne (by omega), heap_set_ne (by omega)]) (by rw [size_setCell, size_setCell]; exact Nat.le_refl _)).weak fun b hb => by omega
    · have hcnt : done.length + 1 ≤ l.length := by
        have h1 := nodup_sub_len (z :: done) (l.map (·.1)) hit2.facts.1 (fun a ha => hit2.facts.2 a ha)
        simpa using h1
      have hownW : (setBlock (wr.drewN nn) (w.heap.size + 2) o3).ownsRow (w.heap.size + 3) 106 4 u5 done.length (partCells done.reverse) := own_kept (w := wr.drewN nn) hown (grown_setBlock (wr.drewN nn) _ _) hit.notCells
      have hbW : Below (w.heap.size + 2) W0 (setBlock (wr.drewN nn) (w.heap.size + 2) o3) := below_setBlock (below_drewN hb _) (Nat.le_refl _) _
      have hsW : (setBlock (wr.drewN nn) (w.heap.size + 2) o3).heap.size = wr.heap.size := setBlock_size _ _ _
      generalize setBlock (wr.drewN nn) (w.heap.size + 2) o3 = W1 at hnx hit2 hent hownW hbW hsW
      unfold partV hdrV at hnx hent
      clear hown hb hit
      obtain ⟨A5, c5, rfl⟩ := own_form hownW
      have HS := Lib.hid hsW
      clear hsW
      go_wp2_with (first | (at_builtin; refine wpList_append_src _ rfl (.tmp 28) (.tmp 30) 135 rfl (w.heap.size + 3) 106 ip (.agg #[.bool false, .int .i64 0, .int .i64 0, .int .i64 0]) 4 32 Tryz.underlying135 hip hp0 hp2 hp3 rfl (by decide) _ done.length (partCells done.reverse) rfl ?ho (some ⟨W1.heap.size + 1, 0, none⟩) 1 1 (partC z) rfl rfl ?c0 ?c1 ?c2 ?c3 ?c4 ?c5 ?_))
      case ho => exact (hownW.alloc _).alloc _
      case c0 => intro h; cases h
      case c1 =>
        intro a ha j u hj
        injection ha with ha
        subst ha
        exact cells_new' (by simp) _ _ _ _ hj
      case c2 => exact partC_one z
      case c3 => unfold maxLen; omega
      case c4 => omega
      case c5 => simp; have := HS.out; omega
      intro v' w1 hown' hgrow _
      obtain ⟨A6, c6, rfl⟩ := own_form hown'
      go_wp2
      go_roundg (l.length - (done.length + 1))
      case measure => omega
      case rel => exact ⟨z :: done, by simp, by rw [List.reverse_cons, partCells_snoc]; exact hown', (hbW.trans (((((Below.refl _ _).alloc (Nat.le_refl _) _).alloc (by simp) _)).mono (by have := HS.out; omega))).grown hgrow (by simp; have := HS.out; omega) (fun j hj => by have := own_base' hownW j hj; omega), (hit2.below (((Below.refl _ _).alloc (Nat.le_refl _) _).alloc (by simp) _)).own2 ((hownW.alloc _).alloc _) hgrow⟩
end
end Go.Proofs.YtdbkbkopcnkgcaaGreat
