import Derived.Test.YtcndbohiiodndaaCykG
import Derived.Test.YtcndbohiiodndaaMeanC
import Derived.Deep.DeepCutAuto
open Go Go.RowKit
namespace Go.Proofs.Ytcndbohiiodndaa

theorem Try.infoBools : (Try.prog.info? 35).map (fun i => (i.zero, i.size, i.bytes)) = some (some (.slice none 0 0), 1, 24) := by kernel_rfl
theorem Try.infoB2 : (Try.prog.info? 152).map (fun i => (i.zero, i.size, i.bytes)) = some (some (.slice none 0 0), 1, 24) := by kernel_rfl
theorem Try.infoB3 : (Try.prog.info? 154).map (fun i => (i.zero, i.size, i.bytes)) = some (some (.slice none 0 0), 1, 24) := by kernel_rfl
theorem Try.infoBoolC : (Try.prog.info? 4).map (fun i => (i.zero, i.size, i.bytes)) = some (some (.bool false), 1, 1) := by kernel_rfl

/-- a row of heads that is being made -/
structure InSt (g : Gram) (wi wr : World) (n : Nat) (v : Value) (L : List (Nat × Nat)) : Prop where
  below : Below wi.heap.size wi wr
  own : wr.ownsRow wi.heap.size 35 1 v n (L.map hdV)
  lens : L.map (·.2) = (g.rules.take n).map (·.r.length + 1)
  blank : Blank wr L
  dist : L.Pairwise RBlk
  low : ∀ p ∈ L, wi.heap.size ≤ p.1

/-- the rows of one position that are being made -/
structure MidSt (g : Gram) (wo wr : World) (F : Nat → Prop) (av bv : Value) (La : List (List (Nat × Nat))) (Lb : List (Nat × Nat)) (xa : List Value) : Prop where
  below : Below wo.heap.size wo wr
  rows : GRow Elt.hd F wr wo.heap.size 152 av La xa
  own : wr.ownsRow wo.heap.size 35 1 bv Lb.length (Lb.map hdV)
  out : ∀ b, bv.ownBlock = some b → ¬ F b
  la : ∀ b ∈ La, b.map (·.2) = g.rules.map (·.r.length + 1)
  lb : ∀ p ∈ Lb, p.2 = g.nons.toNat
  blank : Blank wr (La.flatten ++ Lb)
  dist : (La.flatten ++ Lb).Pairwise RBlk
  leaf : ∀ p ∈ La.flatten ++ Lb, ¬ F p.1 ∧ wo.heap.size ≤ p.1
  low : ∀ b, F b → wo.heap.size ≤ b

/-- the chart that is being made -/
structure NewSt (g : Gram) (x : List Int) (w wr : World) (A : Option Addr) (c : Nat) (B : Option Addr) (d : Nat) (F : Nat → Prop) (hv iv : Value) (H : List (List (List (Nat × Nat)))) (I : List (List (Nat × Nat))) (xh xi : List Value) : Prop where
  below : Below w.heap.size w wr
  gram : wr.heap[w.heap.size]? = some (.cells #[.int .i64 g.terms, .int .i64 g.nons, .int .i64 g.start, .slice A g.rules.length c] 25 (0, 0))
  blk : wr.heap[w.heap.size + 1]? = some (.cells #[.int .i64 g.terms, .int .i64 g.nons, .int .i64 g.start, .slice A g.rules.length c, .slice B x.length d, hv, iv] 156 (0, 0))
  has : GRow (Elt.sl Elt.hd) F wr (w.heap.size + 2) 154 hv H xh
  is : GRow Elt.hd F wr (w.heap.size + 2) 152 iv I xi
  hr : ∀ a ∈ H, a.length = x.length + 1
  hx : ∀ a ∈ H, ∀ b ∈ a, b.map (·.2) = g.rules.map (·.r.length + 1)
  ir : ∀ a ∈ I, a.length = x.length + 1
  ix : ∀ a ∈ I, ∀ p ∈ a, p.2 = g.nons.toNat
  blank : Blank wr (H.flatten.flatten ++ I.flatten)
  dist : (H.flatten.flatten ++ I.flatten).Pairwise RBlk
  leaf : ∀ p ∈ H.flatten.flatten ++ I.flatten, ¬ F p.1 ∧ w.heap.size + 2 ≤ p.1
  low : ∀ b, F b → w.heap.size + 2 ≤ b

section
variable {g : Gram} {x : List Int} {w wo wi wr w1 w2 W1 W2 : World} {F : Nat → Prop} {av bv v v' hv iv : Value} {La : List (List (Nat × Nat))} {Lb L : List (Nat × Nat)} {xa : List Value} {n : Nat}

/-- one row of bits more -/
theorem InSt.snoc (h : InSt g wi wr n v L) (hn : n < g.rules.length) {m lf : Nat} (hm : m = g.rules[n].r.length + 1) (hlf : wr.heap.size ≤ lf) (hb : Below wr.heap.size wr W1) (hl : W1.heap[lf]? = some (.cells (bitsOf (fun _ => false) m) 4 (0, 0)))
    (hg : W1.grownBy w1 v.ownBlock) (hown : w1.ownsRow wi.heap.size 35 1 v' (n + 1) (L.map hdV ++ [hdV (lf, m)])) : InSt g wi w1 (n + 1) v' (L ++ [(lf, m)]) := by
  have hs := h.below.size
  have hownW : W1.ownsRow wi.heap.size 35 1 v n (L.map hdV) := h.own.kept (row := none) ⟨hb.os, hb.tape, hb.output, hb.size, fun j hj _ => hb.block j hj⟩ (by cases v.ownBlock <;> simp)
  refine ⟨(h.below.trans (hb.mono hs)).grown hg (Nat.le_trans hs hb.size) (fun k hk => own_base' hownW k hk), by simpa using hown, ?_, ?_, ?_, ?_⟩
  · rw [List.map_append, h.lens, List.take_succ_eq_append_getElem hn, List.map_append, hm]; rfl
  · exact ((h.blank.below hb).snoc (p := (lf, m)) hl).grown hownW (by decide) hg
  · rw [List.pairwise_append]
    refine ⟨h.dist, by simp, fun p hp q hq => ?_⟩
    simp at hq
    subst hq
    have := blk_lt (h.blank p hp)
    intro e
    simp at e; omega
  · intro p hp
    rcases List.mem_append.1 hp with hp | hp
    · exact h.low p hp
    · simp at hp; subst hp; exact Nat.le_trans hs hlf

/-- one position more -/
theorem MidSt.step (h : MidSt g wo wi F av bv La Lb xa) {xv : Value} {Lx : List (Nat × Nat)} {A : Option Addr} {c : Nat} (hxv : xv = .slice A g.rules.length c) (hi : InSt g wi wr g.rules.length xv Lx) {av' bv' : Value} {lf m : Nat} (hm : m = g.nons.toNat)
    (hb1 : Below wr.heap.size wr W1) (hg1 : W1.grownBy w1 av.ownBlock) (hown1 : w1.ownsRow wo.heap.size 152 1 av' (La.length + 1) (xa ++ [xv])) (hat1 : av'.ownBlock = av.ownBlock ∨ av'.ownBlock = some W1.heap.size)
    (hb2 : Below w1.heap.size w1 W2) (hg2 : W2.grownBy w2 bv.ownBlock) (hown2 : w2.ownsRow wo.heap.size 35 1 bv' (Lb.length + 1) (Lb.map hdV ++ [hdV (lf, m)])) (hat2 : bv'.ownBlock = bv.ownBlock ∨ bv'.ownBlock = some W2.heap.size)
    (hlf : wr.heap.size ≤ lf) (hlfb : W1.heap[lf]? = some (.cells (bitsOf (fun _ => false) m) 4 (0, 0)) ∨ (w1.heap.size ≤ lf ∧ W2.heap[lf]? = some (.cells (bitsOf (fun _ => false) m) 4 (0, 0)))) :
    ∃ F', MidSt g wo w2 F' av' bv' (La ++ [Lx]) (Lb ++ [(lf, m)]) (xa ++ [xv]) := by
  subst hxv
  have hs1 := h.below.size
  have hs2 := hi.below.size
  have hs3 := hb1.size
  have hs4 := hg1.size
  have hs5 := hb2.size
  have hs6 := hg2.size
  obtain ⟨hlx, hxs⟩ := own_hds hi.own
  have hbi : Below wi.heap.size wi W1 := hi.below.trans (hb1.mono hs2)
  -- the state at W1
  have hrows := h.rows.below hbi
  have hownb := own_same h.own fun k hk => hbi.block k (own_lt h.own k hk)
  have hownx := own_same hi.own fun k hk => hb1.block k (own_lt hi.own k hk)
  have hxsl := hxs.below hb1
  have hcx := own_cap hi.own
  generalize hO : (Value.slice A g.rules.length c).ownBlock = O at *
  have hFx : ∀ b, O = some b → wi.heap.size ≤ b ∧ b < wr.heap.size := fun b hb => ⟨own_base' hi.own b (hO.trans hb), own_lt hi.own b (hO.trans hb)⟩
  have hav : ∀ b, av.ownBlock = some b → b < wi.heap.size := fun b hb => own_lt h.rows.own b hb
  have hbv : ∀ b, bv.ownBlock = some b → b < wi.heap.size := fun b hb => own_lt h.own b hb
  have hrows2 := hrows.more (F' := fun b => F b ∨ O = some b) (fun _ hb => .inl hb) (fun b hb => by
    rcases hb with hb | hb
    · exact hrows.lt b hb
    · have := hFx b hb; omega) (fun b hb hb2 => by
    rcases hb2 with hb2 | hb2
    · exact hrows.out b hb hb2
    · have := hFx b hb2; have := hav b hb; omega)
  have hrows3 := hrows2.snoc hg1 (l := Lx) (A := A) (c := c) (by rw [← hlx]; exact hown1) hat1 (by omega) (by rw [← hlx]; exact hxsl.weak fun b hb => .inr hb)
  rw [← hlx] at hrows3
  have hownb1 : w1.ownsRow wo.heap.size 35 1 bv Lb.length (Lb.map hdV) := own_other hownb hrows.own (by decide) hg1
  have hblank1 : Blank w1 (La.flatten ++ Lb ++ Lx) := ((h.blank.below hbi).app (hi.blank.below hb1)).grown hrows.own (by decide) hg1
  -- the state at W2
  have hrows4 := hrows3.below hb2
  have hownb2 := own_same hownb1 fun k hk => hb2.block k (own_lt hownb1 k hk)
  have hblank2 := hblank1.below hb2
  have hleaf2 : W2.heap[lf]? = some (.cells (bitsOf (fun _ => false) m) 4 (0, 0)) := by
    rcases hlfb with h1 | h1
    · refine (hb2.block lf (by have := blk_lt h1; omega)).trans ((hg1.block lf (blk_lt h1) fun e => ?_).trans h1)
      have := hav lf e.symm
      omega
    · exact h1.2
  have hout2 : ∀ b, bv.ownBlock = some b → ¬ (F b ∨ O = some b) := fun b hb hb2 => by
    rcases hb2 with hb2 | hb2
    · exact h.out b hb hb2
    · have := hFx b hb2; have := hbv b hb; omega
  have hrows5 := hrows4.other hg2 hout2 fun b hb he => by
    obtain ⟨cs1, h1, _⟩ := own_typed hrows4.own b he
    obtain ⟨cs2, h2, _⟩ := own_typed hownb2 b hb
    rw [h1] at h2
    injection h2 with h2
    injection h2 with _ h3
    exact absurd h3 (by decide)
  have hblank3 := (hblank2.snoc (p := (lf, m)) hleaf2).grown hownb2 (by decide) hg2
  have hmem : ∀ p, p ∈ (La ++ [Lx]).flatten ++ (Lb ++ [(lf, m)]) ↔ p ∈ La.flatten ++ Lb ∨ p ∈ Lx ∨ p = (lf, m) := fun p => by
    simp only [List.flatten_append, List.flatten_cons, List.flatten_nil, List.append_nil, List.mem_append, List.mem_singleton]
    constructor
    · rintro ((h | h) | (h | h))
      · exact .inl (.inl h)
      · exact .inr (.inl h)
      · exact .inl (.inr h)
      · exact .inr (.inr h)
    · rintro ((h | h) | (h | h))
      · exact .inl (.inl h)
      · exact .inr (.inl h)
      · exact .inl (.inr h)
      · exact .inr (.inr h)
  have hold : ∀ p ∈ La.flatten ++ Lb, p.1 < wi.heap.size := fun p hp => blk_lt (h.blank p hp)
  have hnewx : ∀ p ∈ Lx, wi.heap.size ≤ p.1 ∧ p.1 < wr.heap.size := fun p hp => ⟨hi.low p hp, blk_lt (hi.blank p hp)⟩
  refine ⟨fun b => F b ∨ O = some b, ⟨?_, hrows5, by rw [List.length_append]; simpa using hown2, ?_, ?_, ?_, ?_, ?_, ?_, ?_⟩⟩
  · have k1 : Below wo.heap.size wo w1 := (h.below.trans (hbi.mono hs1)).grown hg1 (by omega) fun k hk => own_base' h.rows.own k hk
    exact (k1.trans (hb2.mono (by omega))).grown hg2 (by omega) fun k hk => own_base' h.own k hk
  · intro b hb hF
    rcases hat2 with e | e
    · exact hout2 b (e ▸ hb) hF
    · rw [e] at hb
      injection hb with hb
      have := hrows4.lt b hF
      omega
  · intro b hb
    rcases List.mem_append.1 hb with hb | hb
    · exact h.la b hb
    · simp at hb; subst hb; rw [hi.lens, List.take_length]
  · intro p hp
    rcases List.mem_append.1 hp with hp | hp
    · exact h.lb p hp
    · simp at hp; subst hp; exact hm
  · intro p hp
    refine hblank3 p ?_
    rcases (hmem p).1 hp with hp | hp | hp
    · exact List.mem_append_left _ (List.mem_append_left _ hp)
    · exact List.mem_append_left _ (List.mem_append_right _ hp)
    · exact List.mem_append_right _ (by simp [hp])
  · have hd := h.dist
    rw [List.pairwise_append] at hd
    obtain ⟨d1, d2, d3⟩ := hd
    have far : ∀ p q : Nat × Nat, p.1 < q.1 → RBlk p q := fun p q hlt e => by omega
    simp only [List.flatten_append, List.flatten_cons, List.flatten_nil, List.append_nil]
    rw [List.pairwise_append, List.pairwise_append, List.pairwise_append]
    refine ⟨⟨d1, hi.dist, fun p hp q hq => far _ _ ?_⟩, ⟨d2, by simp, fun p hp q hq => far _ _ ?_⟩, fun p hp q hq => ?_⟩
    · have := hold p (List.mem_append_left _ hp); have := hnewx q hq; omega
    · simp at hq; subst hq
      have := hold p (List.mem_append_right _ hp); show p.1 < lf; omega
    · rcases List.mem_append.1 hp with hp | hp
      · rcases List.mem_append.1 hq with hq | hq
        · exact d3 p hp q hq
        · simp at hq; subst hq
          refine far _ _ ?_
          have := hold p (List.mem_append_left _ hp); show p.1 < lf; omega
      · rcases List.mem_append.1 hq with hq | hq
        · refine RBlk.symm (far _ _ ?_)
          have := hold q (List.mem_append_right _ hq); have := hnewx p hp; omega
        · simp at hq; subst hq
          refine far _ _ ?_
          have := hnewx p hp; show p.1 < lf; omega
  · intro p hp
    rcases (hmem p).1 hp with hp | hp | hp
    · refine ⟨fun hF => ?_, (h.leaf p hp).2⟩
      rcases hF with hF | hF
      · exact (h.leaf p hp).1 hF
      · have := hFx _ hF; have := hold p hp; omega
    · refine ⟨fun hF => ?_, by have := hnewx p hp; omega⟩
      rcases hF with hF | hF
      · have := h.rows.lt _ hF; have := hnewx p hp; omega
      · obtain ⟨cs1, h1, _⟩ := own_typed hi.own _ (hO.trans hF)
        have h2 := hi.blank p hp
        rw [h1] at h2
        injection h2 with h2
        injection h2 with _ h3
        exact absurd h3 (by decide)
    · subst hp
      refine ⟨fun hF => ?_, by show wo.heap.size ≤ lf; omega⟩
      rcases hF with hF | hF
      · have : lf < wi.heap.size := h.rows.lt _ hF
        omega
      · have := hFx _ hF; simp at this; omega
  · intro b hb
    rcases hb with hb | hb
    · exact h.low b hb
    · have := hFx b hb; omega

/-- the rows of a position are laid into the chart -/
theorem NewSt.step {A : Option Addr} {c : Nat} {B : Option Addr} {d : Nat} {H : List (List (List (Nat × Nat)))} {I : List (List (Nat × Nat))} {xh xi : List Value} {F2 : Nat → Prop} {Aa : Option Addr} {ca : Nat} {Ab : Option Addr} {cb : Nat}
    (h : NewSt g x w wo A c B d F hv iv H I xh xi) (hm : MidSt g wo wr F2 (.slice Aa (x.length + 1) ca) (.slice Ab (x.length + 1) cb) La Lb xa) (hla : La.length = x.length + 1) (hlb : Lb.length = x.length + 1) {hv' iv' : Value}
    (hb1 : Below wr.heap.size wr W1) (hg1 : W1.grownBy w1 hv.ownBlock) (hown1 : w1.ownsRow (w.heap.size + 2) 154 1 hv' (H.length + 1) (xh ++ [.slice Aa (x.length + 1) ca])) (hat1 : hv'.ownBlock = hv.ownBlock ∨ hv'.ownBlock = some W1.heap.size)
    (hb2 : Below w1.heap.size w1 W2) (hg2 : W2.grownBy w2 iv.ownBlock) (hown2 : w2.ownsRow (w.heap.size + 2) 152 1 iv' (I.length + 1) (xi ++ [.slice Ab (x.length + 1) cb])) (hat2 : iv'.ownBlock = iv.ownBlock ∨ iv'.ownBlock = some W2.heap.size) :
    ∃ F', NewSt g x w ((w2.setCell ⟨w.heap.size + 1, 5, none⟩ hv').setCell ⟨w.heap.size + 1, 6, none⟩ iv') A c B d F' hv' iv' (H ++ [La]) (I ++ [Lb]) (xh ++ [.slice Aa (x.length + 1) ca]) (xi ++ [.slice Ab (x.length + 1) cb]) := by
  have hs0 := blk_lt h.blk
  have hs1 := h.below.size
  have hs2 := hm.below.size
  have hs3 := hb1.size
  have hs4 := hg1.size
  have hs5 := hb2.size
  have hs6 := hg2.size
  have hbi : Below wo.heap.size wo W1 := hm.below.trans (hb1.mono hs2)
  -- the finished rows
  have hasl := hm.rows.isSl
  obtain ⟨-, hbsl⟩ := own_hds hm.own
  have hca := hm.rows.cap
  have hcb : x.length + 1 ≤ cb := by have := own_cap (n := x.length + 1) (hlb ▸ hm.own); omega
  have hFa := fun b hb => own_lt hm.rows.own b hb
  have hFa2 := fun b hb => own_base' hm.rows.own b hb
  have hFb := fun b hb => own_lt hm.own b hb
  have hFb2 := fun b hb => own_base' hm.own b hb
  have hTa := fun b hb => own_typed hm.rows.own b hb
  have hTb := fun b hb => own_typed hm.own b hb
  generalize (Value.slice Aa (x.length + 1) ca).ownBlock = Oa at *
  generalize (Value.slice Ab (x.length + 1) cb).ownBlock = Ob at *
  have hhv : ∀ b, hv.ownBlock = some b → b < wo.heap.size := fun b hb => own_lt h.has.own b hb
  have hiv : ∀ b, iv.ownBlock = some b → b < wo.heap.size := fun b hb => own_lt h.is.own b hb
  have hF1 : ∀ b, (F b ∨ (F2 b ∨ Oa = some b) ∨ Ob = some b) → b < wr.heap.size := fun b hb => by
    rcases hb with hb | (hb | hb) | hb
    · have := h.has.lt b hb; omega
    · exact hm.rows.lt b hb
    · exact hFa b hb
    · exact hFb b hb
  have hF2 : ∀ b, b < wo.heap.size → (F b ∨ (F2 b ∨ Oa = some b) ∨ Ob = some b) → F b := fun b hlt hb => by
    rcases hb with hb | (hb | hb) | hb
    · exact hb
    · have := hm.low b hb; omega
    · have := hFa2 b hb; omega
    · have := hFb2 b hb; omega
  -- the state at W1
  have r1 := (h.has.below hbi).more (F' := fun b => F b ∨ (F2 b ∨ Oa = some b) ∨ Ob = some b) (fun _ hb => .inl hb) (fun b hb => Nat.lt_of_lt_of_le (hF1 b hb) hs3) fun b hb hb2 => h.has.out b hb (hF2 b (hhv b hb) hb2)
  have i1 := (h.is.below hbi).more (F' := fun b => F b ∨ (F2 b ∨ Oa = some b) ∨ Ob = some b) (fun _ hb => .inl hb) (fun b hb => Nat.lt_of_lt_of_le (hF1 b hb) hs3) fun b hb hb2 => h.is.out b hb (hF2 b (hiv b hb) hb2)
  have r2 := r1.snoc hg1 (l := La) (A := Aa) (c := ca) (by rw [hla]; exact hown1) hat1 (by omega) (by rw [hla]; exact (hasl.below hb1).weak fun b hb => .inr (.inl hb))
  rw [hla] at r2
  have i2 := i1.other hg1 (fun b hb hb2 => h.has.out b hb (hF2 b (hhv b hb) hb2)) fun b hb he => by
    obtain ⟨cs1, h1, _⟩ := own_typed r1.own b hb
    obtain ⟨cs2, h2, _⟩ := own_typed i1.own b he
    rw [h1] at h2
    injection h2 with h2
    injection h2 with _ h3
    exact absurd h3 (by decide)
  have bl1 : Blank w1 ((H.flatten.flatten ++ I.flatten) ++ (La.flatten ++ Lb)) := ((h.blank.below hbi).app (hm.blank.below hb1)).grown r1.own (by decide) hg1
  have hbsl1 : IsSl Elt.hd (fun b => F b ∨ (F2 b ∨ Oa = some b) ∨ Ob = some b) w1 (.slice Ab Lb.length cb) Lb := by
    rw [hlb]
    refine ((hbsl.below hb1).weak (G := fun b => F b ∨ (F2 b ∨ Oa = some b) ∨ Ob = some b) fun b hb => .inr (.inr hb)).keep (fun b hb => hg1.block b (Nat.lt_of_lt_of_le (hF1 b hb) hs3) fun e => h.has.out b e.symm (hF2 b (hhv b e.symm) hb)) hs4
  -- the state at W2
  have r3 := r2.below hb2
  have i3 := i2.below hb2
  have i4 := i3.snoc hg2 (l := Lb) (A := Ab) (c := cb) (by rw [hlb]; exact hown2) hat2 (by omega) (hbsl1.below hb2)
  rw [hlb] at i4
  have r4 := r3.other hg2 (fun b hb hb2 => h.is.out b hb (hF2 b (hiv b hb) hb2)) fun b hb he => by
    obtain ⟨cs1, h1, _⟩ := own_typed i3.own b hb
    obtain ⟨cs2, h2, _⟩ := own_typed r3.own b he
    rw [h1] at h2
    injection h2 with h2
    injection h2 with _ h3
    exact absurd h3 (by decide)
  have bl2 := (bl1.below hb2).grown i3.own (by decide) hg2
  -- the boxes
  have kg : ∀ b o, b < w.heap.size + 2 → wo.heap[b]? = some o → w2.heap[b]? = some o := fun b o hlt ho => by
    have hbo := blk_lt ho
    have k1 : w1.heap[b]? = some o := (hg1.block b (by omega) fun e => by have := own_base' h.has.own b e.symm; omega).trans ((hbi.block b hbo).trans ho)
    exact (hg2.block b (by have := blk_lt k1; omega) fun e => by have := own_base' h.is.own b e.symm; omega).trans ((hb2.block b (blk_lt k1)).trans k1)
  have kb : w2.heap[w.heap.size + 1]? = _ := kg _ _ (by omega) h.blk
  have kgr : w2.heap[w.heap.size]? = _ := kg _ _ (by omega) h.gram
  have hkeep : ∀ b, w.heap.size + 2 ≤ b → ((w2.setCell ⟨w.heap.size + 1, 5, none⟩ hv').setCell ⟨w.heap.size + 1, 6, none⟩ iv').heap[b]? = w2.heap[b]? := fun b hb => by rw [heap_set_ne (by omega), heap_set_ne (by omega)]
  have hz : w2.heap.size ≤ ((w2.setCell ⟨w.heap.size + 1, 5, none⟩ hv').setCell ⟨w.heap.size + 1, 6, none⟩ iv').heap.size := by rw [size_setCell, size_setCell]; exact Nat.le_refl _
  have hlowF : ∀ b, (F b ∨ (F2 b ∨ Oa = some b) ∨ Ob = some b) → w.heap.size + 2 ≤ b := fun b hb => by
    rcases hb with hb | (hb | hb) | hb
    · exact h.low b hb
    · have := hm.low b hb; omega
    · have := hFa2 b hb; omega
    · have := hFb2 b hb; omega
  have hmem : ∀ p, p ∈ (H ++ [La]).flatten.flatten ++ (I ++ [Lb]).flatten ↔ p ∈ H.flatten.flatten ++ I.flatten ∨ p ∈ La.flatten ++ Lb := fun p => by
    simp only [List.flatten_append, List.flatten_cons, List.flatten_nil, List.append_nil, List.mem_append]
    constructor
    · rintro ((h | h) | (h | h))
      · exact .inl (.inl h)
      · exact .inr (.inl h)
      · exact .inl (.inr h)
      · exact .inr (.inr h)
    · rintro ((h | h) | (h | h))
      · exact .inl (.inl h)
      · exact .inr (.inl h)
      · exact .inl (.inr h)
      · exact .inr (.inr h)
  have hold : ∀ p ∈ H.flatten.flatten ++ I.flatten, p.1 < wo.heap.size := fun p hp => blk_lt (h.blank p hp)
  have grow_set : ∀ {β : Type} {dd : Elt β} {Fx : Nat → Prop} {ty : TypeId} {u : Value} {M : List (List β)} {xs : List Value}, GRow dd Fx w2 (w.heap.size + 2) ty u M xs → (∀ b, Fx b → w.heap.size + 2 ≤ b) → GRow dd Fx ((w2.setCell ⟨w.heap.size + 1, 5, none⟩ hv').setCell ⟨w.heap.size + 1, 6, none⟩ iv') (w.heap.size + 2) ty u M xs := fun hG hlow =>
    ⟨own_same hG.own fun k hk => hkeep k (own_base' hG.own k hk), hG.out, fun b hb => Nat.lt_of_lt_of_le (hG.lt b hb) hz, fun k hk => by
      obtain ⟨A', c', k1, k2, k3⟩ := hG.row k hk
      exact ⟨A', c', k1, k2, k3.keep (fun b hb => hkeep b (hlow b hb)) hz⟩⟩
  refine ⟨fun b => F b ∨ (F2 b ∨ Oa = some b) ∨ Ob = some b, ⟨?_, ?_, ?_, grow_set r4 hlowF, grow_set i4 hlowF, ?_, ?_, ?_, ?_, ?_, ?_, ?_, hlowF⟩⟩
  · have k1 : Below w.heap.size w w1 := (h.below.trans (hbi.mono hs1)).grown hg1 (by omega) fun k hk => by have := own_base' h.has.own k hk; omega
    have k2 : Below w.heap.size w w2 := (k1.trans (hb2.mono (by omega))).grown hg2 (by omega) fun k hk => by have := own_base' h.is.own k hk; omega
    exact (k2.setCell (p := ⟨w.heap.size + 1, 5, none⟩) (show w.heap.size ≤ w.heap.size + 1 by omega) _).setCell (p := ⟨w.heap.size + 1, 6, none⟩) (show w.heap.size ≤ w.heap.size + 1 by omega) _
  · rw [heap_set_ne (by omega), heap_set_ne (by omega)]; exact kgr
  · rw [heap_set (heap_set kb _ _)]; rfl
  · intro a ha
    rcases List.mem_append.1 ha with ha | ha
    · exact h.hr a ha
    · simp at ha; subst ha; exact hla
  · intro a ha
    rcases List.mem_append.1 ha with ha | ha
    · exact h.hx a ha
    · simp at ha; subst ha; exact hm.la
  · intro a ha
    rcases List.mem_append.1 ha with ha | ha
    · exact h.ir a ha
    · simp at ha; subst ha; exact hlb
  · intro a ha
    rcases List.mem_append.1 ha with ha | ha
    · exact h.ix a ha
    · simp at ha; subst ha; exact hm.lb
  · intro p hp
    have hlo : w.heap.size + 2 ≤ p.1 := by
      rcases (hmem p).1 hp with hp | hp
      · exact (h.leaf p hp).2
      · have := (hm.leaf p hp).2; omega
    rw [hkeep p.1 hlo]
    refine bl2 p ?_
    rcases (hmem p).1 hp with hp | hp
    · exact List.mem_append_left _ hp
    · exact List.mem_append_right _ hp
  · have d1 := h.dist
    have d2 := hm.dist
    rw [List.pairwise_append] at d1 d2
    obtain ⟨a1, a2, a3⟩ := d1
    obtain ⟨b1, b2, b3⟩ := d2
    have far : ∀ p q : Nat × Nat, p ∈ H.flatten.flatten ++ I.flatten → q ∈ La.flatten ++ Lb → RBlk p q := fun p q hp hq e => by
      have := hold p hp; have := (hm.leaf q hq).2; omega
    simp only [List.flatten_append, List.flatten_cons, List.flatten_nil, List.append_nil]
    rw [List.pairwise_append, List.pairwise_append, List.pairwise_append]
    refine ⟨⟨a1, b1, fun p hp q hq => far _ _ (List.mem_append_left _ hp) (List.mem_append_left _ hq)⟩, ⟨a2, b2, fun p hp q hq => far _ _ (List.mem_append_right _ hp) (List.mem_append_right _ hq)⟩, fun p hp q hq => ?_⟩
    rcases List.mem_append.1 hp with hp | hp
    · rcases List.mem_append.1 hq with hq | hq
      · exact a3 p hp q hq
      · exact far _ _ (List.mem_append_left _ hp) (List.mem_append_right _ hq)
    · rcases List.mem_append.1 hq with hq | hq
      · exact RBlk.symm (far _ _ (List.mem_append_right _ hq) (List.mem_append_left _ hp))
      · exact b3 p hp q hq
  · intro p hp
    rcases (hmem p).1 hp with hp | hp
    · exact ⟨fun hF => (h.leaf p hp).1 (hF2 _ (hold p hp) hF), (h.leaf p hp).2⟩
    · obtain ⟨h1, h2⟩ := hm.leaf p hp
      refine ⟨fun hF => ?_, by omega⟩
      have hbk := hm.blank p hp
      rcases hF with hF | (hF | hF) | hF
      · have := h.has.lt _ hF; omega
      · exact h1 hF
      · obtain ⟨cs1, k1, _⟩ := hTa _ hF
        rw [k1] at hbk
        injection hbk with hbk
        injection hbk with _ k3
        exact absurd k3 (by decide)
      · obtain ⟨cs1, k1, _⟩ := hTb _ hF
        rw [k1] at hbk
        injection hbk with hbk
        injection hbk with _ k3
        exact absurd k3 (by decide)

theorem bitsAt_blank {H : List (List (List (Nat × Nat)))} {I : List (List (Nat × Nat))} {iv hv : Value} (hG : Grid g x F w hv iv H I) (hb : Blank w (H.flatten.flatten ++ I.flatten)) : BitsAt g x w H I (fun _ _ _ _ => false) (fun _ _ _ => false) := by
  refine ⟨fun i j n hi hj hn => ?_, fun i j hi hj => ?_⟩
  · obtain ⟨h1, h2, h3, e, e2⟩ := hG.get3 hi hj hn
    rw [e, ← e2]
    exact hb _ (List.mem_append_left _ (List.mem_flatten.2 ⟨H[i][j], List.mem_flatten.2 ⟨H[i], by simp, by simp⟩, by simp⟩))
  · obtain ⟨h1, h2, e, e2⟩ := hG.get2 hi hj
    rw [e, ← e2]
    exact hb _ (List.mem_append_right _ (List.mem_flatten.2 ⟨I[i], by simp, by simp⟩))

/-- what newChart leaves -/
def ChartNew (w w' : World) (e : Ending) (F0 : Nat → Prop) (g : Gram) (x : List Int) (A : Option Addr) (c : Nat) (B : Option Addr) (d : Nat) : Prop :=
  ∃ (F : Nat → Prop) (bc : Nat) (hA : Option Addr) (hc : Nat) (iA : Option Addr) (ic : Nat) (H : List (List (List (Nat × Nat)))) (I : List (List (Nat × Nat))), e = .returned (.pointer (some ⟨bc, 0, none⟩)) ∧ Below w.heap.size w w' ∧ w.heap.size ≤ bc ∧ (∀ b, F b → (F0 b ∧ b < w.heap.size) ∨ (w.heap.size ≤ b ∧ b < w'.heap.size)) ∧
    (∀ p ∈ H.flatten.flatten ++ I.flatten, w.heap.size ≤ p.1 ∧ p.1 < w'.heap.size) ∧
    ChartAt F w' bc g x A c B d hA hc iA ic H I (fun _ _ _ _ => false) (fun _ _ _ => false)

theorem NewSt.chart {A : Option Addr} {c : Nat} {B : Option Addr} {d : Nat} {H : List (List (List (Nat × Nat)))} {I : List (List (Nat × Nat))} {xh xi : List Value} {F0 : Nat → Prop} {hA : Option Addr} {hc : Nat} {iA : Option Addr} {ic : Nat}
    (h : NewSt g x w wr A c B d F (.slice hA (x.length + 1) hc) (.slice iA (x.length + 1) ic) H I xh xi) (hl : H.length = x.length + 1) (il : I.length = x.length + 1) (hr : IsSl Elt.rule F0 w (.slice A g.rules.length c) g.rules) (hx : IsSl Elt.int F0 w (.slice B x.length d) x) :
    ChartNew w wr (.returned (.pointer (some ⟨w.heap.size + 1, 0, none⟩))) F0 g x A c B d := by
  have h1 := h.has.isSl
  have h2 := h.is.isSl
  have hlt1 := fun b hb => own_lt h.has.own b hb
  have hlt2 := fun b hb => own_lt h.is.own b hb
  have hty1 := fun b hb => own_typed h.has.own b hb
  have hty2 := fun b hb => own_typed h.is.own b hb
  generalize (Value.slice hA (x.length + 1) hc).ownBlock = Oh at *
  generalize (Value.slice iA (x.length + 1) ic).ownBlock = Oi at *
  have hG : Grid g x (fun b => (F0 b ∧ b < w.heap.size) ∨ b = w.heap.size + 1 ∨ F b ∨ Oh = some b ∨ Oi = some b) wr (.slice hA (x.length + 1) hc) (.slice iA (x.length + 1) ic) H I := by
    refine ⟨h1.weak fun b hb => ?_, h2.weak fun b hb => ?_, hl, h.hr, h.hx, il, h.ir, h.ix, h.dist, fun p hp hF => ?_⟩
    · rcases hb with hb | hb
      · exact .inr (.inr (.inl hb))
      · exact .inr (.inr (.inr (.inl hb)))
    · rcases hb with hb | hb
      · exact .inr (.inr (.inl hb))
      · exact .inr (.inr (.inr (.inr hb)))
    · obtain ⟨k1, k2⟩ := h.leaf p hp
      have hbk := h.blank p hp
      rcases hF with hF | hF | hF | hF | hF
      · omega
      · omega
      · exact k1 hF
      · obtain ⟨cs1, k1, _⟩ := hty1 _ hF
        rw [k1] at hbk
        injection hbk with hbk
        injection hbk with _ k3
        exact absurd k3 (by decide)
      · obtain ⟨cs1, k1, _⟩ := hty2 _ hF
        rw [k1] at hbk
        injection hbk with hbk
        injection hbk with _ k3
        exact absurd k3 (by decide)
  have hlb := blk_lt h.blk
  refine ⟨_, w.heap.size + 1, hA, hc, iA, ic, H, I, rfl, h.below, by omega, fun b hb => ?_, fun p hp => ⟨by have := (h.leaf p hp).2; omega, blk_lt (h.blank p hp)⟩, h.blk, .inr (.inl rfl), (hr.old.below h.below).weak fun b hb => .inl hb, (hx.old.below h.below).weak fun b hb => .inl hb, hG, bitsAt_blank hG h.blank⟩
  rcases hb with hb | hb | hb | hb | hb
  · exact .inl hb
  · exact .inr (by omega)
  · exact .inr ⟨by have := h.low b hb; omega, h.has.lt b hb⟩
  · obtain ⟨_, _, k⟩ := hty1 b hb
    exact .inr ⟨by omega, hlt1 b hb⟩
  · obtain ⟨_, _, k⟩ := hty2 b hb
    exact .inr ⟨by omega, hlt2 b hb⟩
end

theorem mid_len {g : Gram} {wo w2 : World} {av bv : Value} {La : List (List (Nat × Nat))} {Lb L : List (Nat × Nat)} {p : Nat} {q : Nat × Nat} {xa : List Value} (ha : La.length = p) (hb : Lb.length = p) (h : ∃ F', MidSt g wo w2 F' av bv (La ++ [L]) (Lb ++ [q]) xa) :
    ∃ F' La' Lb' xa', La'.length = p + 1 ∧ Lb'.length = p + 1 ∧ MidSt g wo w2 F' av bv La' Lb' xa' := by
  obtain ⟨F', h⟩ := h
  exact ⟨F', _, _, _, by simp [ha], by simp [hb], h⟩
theorem new_i1 {wx W1 w1 : World} {base n m : Nat} {av bv : Value} {xs ys : List Value} (hB : ∀ W, Below wx.heap.size wx W → W.ownsRow base 152 1 bv n xs) (hA : W1.ownsRow base 154 1 av m ys) (hb : Below wx.heap.size wx W1) (hg : W1.grownBy w1 av.ownBlock) :
    ∀ W, Below w1.heap.size w1 W → W.ownsRow base 152 1 bv n xs := fun W hW =>
  have h := own_other (hB _ hb) hA (by decide) hg
  own_same h fun k hk => hW.block k (own_lt h k hk)
theorem new_len {g : Gram} {x : List Int} {w w2 : World} {A : Option Addr} {c : Nat} {B : Option Addr} {d : Nat} {hv iv : Value} {H : List (List (List (Nat × Nat)))} {I : List (List (Nat × Nat))} {xh xi : List Value} {a : List (List (Nat × Nat))} {b : List (Nat × Nat)} {q : Nat} (hl : H.length = q) (il : I.length = q) (h : ∃ F', NewSt g x w w2 A c B d F' hv iv (H ++ [a]) (I ++ [b]) xh xi) :
    ∃ F' hv' iv' H' I' xh' xi', H'.length = q + 1 ∧ I'.length = q + 1 ∧ Hid (hv = hv') ∧ Hid (iv = iv') ∧ NewSt g x w w2 A c B d F' hv' iv' H' I' xh' xi' := by
  obtain ⟨F', h⟩ := h
  exact ⟨F', _, _, _, _, _, _, by simp [hl], by simp [il], Lib.hid rfl, Lib.hid rfl, h⟩
theorem bel_of {w0 W1 w1 : World} {r : Option Nat} (_ : W1.grownBy w1 r) (h : Below w0.heap.size w0 W1) : Below w0.heap.size w0 W1 := h
theorem mid_b1 {wx W1 w1 : World} {base n m : Nat} {av bv : Value} {xs ys : List Value} (hB : ∀ W, Below wx.heap.size wx W → W.ownsRow base 35 1 bv n xs) (hA : W1.ownsRow base 152 1 av m ys) (hb : Below wx.heap.size wx W1) (hg : W1.grownBy w1 av.ownBlock) :
    ∀ W, Below w1.heap.size w1 W → W.ownsRow base 35 1 bv n xs := fun W hW =>
  have h := own_other (hB _ hb) hA (by decide) hg
  own_same h fun k hk => hW.block k (own_lt h k hk)
set_option maxRecDepth 100000 in
set_option maxHeartbeats 16000000 in
theorem newChart_any (F0 : Nat → Prop) (g : Gram) (x : List Int) (A : Option Addr) (c : Nat) (B : Option Addr) (d : Nat) (w : World) (hr : IsSl Elt.rule F0 w (.slice A g.rules.length c) g.rules) (hx : IsSl Elt.int F0 w (.slice B x.length d) x) (hV : Valid g) (hm : x.length ≤ 12) :
    Calls Try.prog 88 #[gramV g (.slice A g.rules.length c), .slice B x.length d] w fun e w' => ChartNew w w' e F0 g x A c B d := by
  have h32 := hV.len
  have hmkN : ∀ w : World, (Instr.makeSlice 35 (.int .i64 g.nons) (.int .i64 g.nons)).run Try.prog w = .ok (.slice (some ⟨w.heap.size, 0, none⟩) g.nons.toNat g.nons.toNat) (w.alloc (.cells (bitsOf (fun _ => false) g.nons.toNat) 4)) := fun w => by
    have h1 := hV.n1
    have h10 := hV.n10
    have := run_make_row' (P := Try.prog) 35 4 (.bool false) 1 Try.underlying35 Try.infoBoolC rfl .i64 .i64 g.nons.toNat (by omega) (by omega) w
    rwa [Int.toNat_of_nonneg (by omega), bits_made] at this
  have hmkR : ∀ m : Nat, m ≤ 4 → ∀ w : World, (Instr.makeSlice 35 (.int .i64 ((m : Int) + 1)) (.int .i64 ((m : Int) + 1))).run Try.prog w = .ok (.slice (some ⟨w.heap.size, 0, none⟩) (m + 1) (m + 1)) (w.alloc (.cells (bitsOf (fun _ => false) (m + 1)) 4)) := fun m hm w => by
    have := run_make_row' (P := Try.prog) 35 4 (.bool false) 1 Try.underlying35 Try.infoBoolC rfl .i64 .i64 (m + 1) (by omega) (by omega) w
    rwa [bits_made] at this
  obtain ⟨i1, hi1, ha1, hb1, hc1⟩ := info_parts Try.infoBools
  obtain ⟨i2, hi2, ha2, hb2, hc2⟩ := info_parts Try.infoB2
  obtain ⟨i3, hi3, ha3, hb3, hc3⟩ := info_parts Try.infoB3
  unfold gramV
  go_enter Try.func88, Try.ntmps88
  go_wp2_with fail
  have hsA : (w.alloc (.cells #[.int .i64 g.terms, .int .i64 g.nons, .int .i64 g.start, .slice A g.rules.length c] 25)).heap.size = w.heap.size + 1 := World.size_alloc _ _
  have hN0 : ∃ F, NewSt g x w ((w.alloc (.cells #[.int .i64 g.terms, .int .i64 g.nons, .int .i64 g.start, .slice A g.rules.length c] 25)).alloc (.cells #[.int .i64 g.terms, .int .i64 g.nons, .int .i64 g.start, .slice A g.rules.length c, .slice B x.length d, .slice none 0 0, .slice none 0 0] 156)) A c B d F (.slice none 0 0) (.slice none 0 0) [] [] [] [] := by
    refine ⟨fun _ => False, ((Below.refl _ _).alloc (Nat.le_refl _) _).alloc (by rw [hsA]; omega) _, ?_, ?_, GRow.nil _ (fun b hb => hb.elim), GRow.nil _ (fun b hb => hb.elim), by simp, by simp, by simp, by simp, fun p hp => by simp at hp, by simp, fun p hp => by simp at hp, fun b hb => hb.elim⟩
    · rw [Below.heap_alloc _ _ _ (by rw [hsA]; omega), heap_alloc_new]
    · rw [← hsA, heap_alloc_new]
  obtain ⟨F1, hN1⟩ := hN0
  clear hsA
  go_loopg [18] (x.length + 1) (fun gk i wr => ∃ (q : Nat) (F : Nat → Prop) (hv iv : Value) (H : List (List (List (Nat × Nat)))) (I : List (List (Nat × Nat))) (xh xi : List Value), q ≤ x.length + 1 ∧ gk = x.length + 1 - q ∧ i = .int .i64 q ∧ H.length = q ∧ I.length = q ∧ NewSt g x w wr A c B d F hv iv H I xh xi)
  case atStart => exact ⟨0, F1, _, _, [], [], [], [], by omega, by omega, rfl, rfl, rfl, hN1⟩
  case round =>
    clear hN1
    obtain ⟨q, F, hv, iv, H, I, xh, xi, hq, rfl, rfl, hl, il, hS⟩ := hrel
    obtain ⟨wo, rfl⟩ : ∃ wo : World, wo = wr := ⟨_, rfl⟩
    have HL := Lib.hid hl
    have IL := Lib.hid il
    clear hl il
    by_cases hlt : q < x.length + 1
    · have hqz : decide ((q : Int) < (x.length : Int) + 1) = true := by simp only [decide_eq_true_eq]; omega
      go_wp2_with fail
      go_loopg [6, 7, 23] (x.length + 1) (fun gk av bv j wr => ∃ (p : Nat) (F2 : Nat → Prop) (La : List (List (Nat × Nat))) (Lb : List (Nat × Nat)) (xa : List Value), p ≤ x.length + 1 ∧ gk = x.length + 1 - p ∧ j = .int .i64 p ∧ La.length = p ∧ Lb.length = p ∧ MidSt g wo wr F2 av bv La Lb xa)
      case atStart => exact ⟨0, fun _ => False, [], [], [], by omega, by omega, rfl, rfl, rfl, ⟨Below.refl _ _, GRow.nil _ (fun b hb => hb.elim), World.ownsRow_nil _ _ _ _, (fun b hb => by cases hb), by simp, by simp, fun p hp => by simp at hp, by simp, fun p hp => by simp at hp, fun b hb => hb.elim⟩⟩
      case round =>
        obtain ⟨p, F2, La, Lb, xa, hp, rfl, rfl, hla, hlb, hM⟩ := hrel
        obtain ⟨wi, rfl⟩ : ∃ wi : World, wi = wr := ⟨_, rfl⟩
        have HLA := Lib.hid hla
        have HLB := Lib.hid hlb
        clear hla hlb
        by_cases hlt2 : p < x.length + 1
        · have hpz : decide ((p : Int) < (x.length : Int) + 1) = true := by simp only [decide_eq_true_eq]; omega
          have hgi := blk_below hM.below (blk_lt hS.gram) hS.gram
          have hg3 := blk_cell hgi (i := 3) rfl
          go_wp2_with fail
          clear hg3
          go_loopg [8, 28] g.rules.length (fun gk xv i wr => ∃ (n : Nat) (Lx : List (Nat × Nat)), n ≤ g.rules.length ∧ gk = g.rules.length - n ∧ i = .int .i64 n ∧ InSt g wi wr n xv Lx)
          case atStart => exact ⟨0, [], by omega, by omega, rfl, ⟨Below.refl _ _, World.ownsRow_nil _ _ _ _, by simp, fun p hp => by simp at hp, by simp, by simp⟩⟩
          case round =>
            obtain ⟨n, Lx, hn, rfl, rfl, hI⟩ := hrel
            obtain ⟨wx, rfl⟩ : ∃ wx : World, wx = wr := ⟨_, rfl⟩
            by_cases hlt3 : n < g.rules.length
            · obtain ⟨b, o, rfl, hFb, hlb, hc1', A', c', hc2', hsy⟩ := hr.ruleAt n hlt3
              have hok := hV.ok g.rules[n] (by simp)
              have ln := hok.len
              have hs1 := hS.below.size
              have hs2 := hM.below.size
              have hs3 := hI.below.size
              have hbx : Below w.heap.size w wx := hS.below.trans ((hM.below.trans (hI.below.mono hs2)).mono hs1)
              have hd1 := (hbx.cell (p := ⟨b, o + n * 2, none⟩) hlb).trans hc1'
              have hd2 := (hbx.cell (p := ⟨b, o + n * 2 + 1, none⟩) hlb).trans hc2'
              have hmk := hmkR _ ln
              have hsn := fun (lf m : Nat) (W1 w1 : World) (v' : Value) => InSt.snoc (g := g) (wi := wi) (wr := wx) (W1 := W1) (w1 := w1) (n := n) (v := u8) (v' := v') (L := Lx) (m := m) (lf := lf) hI hlt3
              have HSN := Lib.hid hsn
              clear hc1' hc2' hsn hsy hok
              have hownx := hI.own
              generalize g.rules[n].r.length = rl at hd2 hmk ln HSN
              generalize g.rules[n].l = lf at hd1
              have hnz : (n : Int) < (g.rules.length : Int) := by omega
              go_wp2_with (first | (at_builtin; refine wpList_append_src _ rfl (.tmp 32) (.tmp 38) 152 rfl wi.heap.size 35 i1 (.slice none 0 0) 1 24 Try.underlying152 hi1 ha1 hb1 hc1 rfl (by decide) _ n (Lx.map hdV) rfl ?ho (some ⟨wx.heap.size + 2, 0, none⟩) 1 1 [hdV (wx.heap.size + 1, rl + 1)] rfl rfl ?c0 ?c1 ?c2 ?c3 ?c4 ?c5 ?_))
              case ho => exact own_same hownx fun k hk => (below3 wx _ _ _).block k (own_lt hownx k hk)
              case c0 => intro h; cases h
              case c1 => intro a ha j u hj; injection ha with ha; subst ha; exact cells_new' (by simp) _ _ _ _ hj
              case c2 => intro u hu; simp at hu; subst hu; rfl
              case c3 => unfold maxLen; omega
              case c4 => omega
              case c5 => simp; omega
              intro v' w1 hown' hgrow hat
              have hI' := HSN.out (wx.heap.size + 1) (rl + 1) _ w1 v' rfl (by omega) (below3 wx _ _ _) (blk_new1 (by simp) _ _) hgrow hown'
              go_wp2
              go_roundg (g.rules.length - (n + 1))
              case measure => omega
              case rel => exact ⟨n + 1, _, by omega, rfl, by go_num, hI'⟩
            · obtain rfl : n = g.rules.length := by omega
              have hs1 := hS.below.size
              have hs2 := hM.below.size
              have hs3 := hI.below.size
              have hgx := blk_below hI.below (blk_lt hgi) hgi
              have hg1 := blk_cell hgx (i := 1) rfl
              have hgl := blk_lt hgx
              have hownA := Lib.hid (fun (W : World) (hb : Below wx.heap.size wx W) => (hM.rows.below (hI.below.trans (hb.mono hs3))).own)
              have hownB := Lib.hid (fun (W : World) (hb : Below wx.heap.size wx W) => own_same hM.own (w' := W) fun k hk => (hI.below.trans (hb.mono hs3)).block k (own_lt hM.own k hk))
              go_wp2_with fail
              obtain ⟨Ax, cx, rfl⟩ := own_form hI.own
              have hAlt : ∀ k, u6.ownBlock = some k → k < wx.heap.size := fun k hk => by have := own_lt hM.rows.own k hk; omega
              have hwo := blk_lt hS.gram
              go_region_law (first | (refine step_append_one _ rfl (.tmp 41) (.tmp 43) (.tmp 42) 154 rfl wo.heap.size 152 i2 (.slice none 0 0) 24 Try.underlying154 hi2 ha2 hb2 hc2 rfl _ La.length xa (by rfl) (hownA.out _ (by refine Below.drew ?_; first | exact below1 _ _ | exact below2 _ _ _ | exact below3 _ _ _ _)) (by rfl) (by rfl) (fun j u hj => by rw [World.cell?_drew]; first | exact cells_new' (by simp) _ _ _ _ hj | exact cell_new1 (by simp) _ _ _ _ _ hj | exact cell_new2 (by simp) _ _ _ _ _ _ hj) (by rfl) (La.length + 1) rfl (by have := HLA.out; unfold maxLen; omega) (by have := HLA.out; omega) (by simp; omega) ?_; intro A1 c1 w1 hown1 hga hat1; have hbl := bel_of hga (w0 := wx) (by refine Below.drew ?_; first | exact below1 _ _ | exact below2 _ _ _ | exact below3 _ _ _ _); have hgm1 : w1.heap[w.heap.size]? = _ := (hga.block w.heap.size (Nat.lt_of_lt_of_le hgl hbl.size) (fun e => by have := own_base' hM.rows.own _ e.symm; omega)).trans ((hbl.block _ hgl).trans hgx); have hgc1 := blk_cell hgm1 (i := 1) rfl; have hlt1 := blk_lt hgm1; have HB := Lib.hid (mid_b1 hownB.out (hownA.out _ hbl) hbl hga)) | (refine step_append_one _ rfl (.tmp 45) (.tmp 49) (.tmp 48) 152 rfl wo.heap.size 35 i1 (.slice none 0 0) 24 Try.underlying152 hi1 ha1 hb1 hc1 rfl _ Lb.length (Lb.map hdV) (by rfl) (HB.out _ (by first | exact Below.refl _ _ | exact below1 _ _ | exact below2 _ _ _)) (by rfl) (by rfl) (fun j u hj => by first | exact cells_new' (by simp) _ _ _ _ hj | exact cell_after hga hAlt _ _ _ (by omega) (by rw [World.cell?_drew]; first | exact cells_new' (by simp) _ _ _ _ hj | exact cell_new1 (by simp) _ _ _ _ _ hj)) (by rfl) (Lb.length + 1) rfl (by have := HLB.out; unfold maxLen; omega) (by have := HLB.out; omega) (by have := hga.size; have := hbl.size; simp; omega) ?_; intro A2 c2 w2 hown2 hgb hat2))
              all_goals
                have hbl2 := bel_of hgb (w0 := w1) (by first | exact Below.refl _ _ | exact below1 _ _ | exact below2 _ _ _)
                have hst := mid_len HLA.out HLB.out (by first
                  | exact MidSt.step (lf := w1.heap.size) hM rfl hI rfl hbl hga hown1 hat1 hbl2 hgb hown2 hat2 (by have := hga.size; have := hbl.size; omega) (.inr ⟨Nat.le_refl _, by first | exact blk_new' rfl _ | exact blk_new1 rfl _ _⟩)
                  | exact MidSt.step (lf := wx.heap.size) hM rfl hI rfl hbl hga hown1 hat1 hbl2 hgb hown2 hat2 (Nat.le_refl _) (.inl (by rw [drew_heap]; first | exact blk_new' rfl _ | exact blk_new1 rfl _ _ | exact blk_new2 rfl _ _ _))
                  | exact MidSt.step (lf := wx.heap.size + 1) hM rfl hI rfl hbl hga hown1 hat1 hbl2 hgb hown2 hat2 (Nat.le_succ _) (.inl (by rw [drew_heap]; first | exact blk_new' (by simp) _ | exact blk_new1 (by simp) _ _ | exact blk_new2 (by simp) _ _ _)))
                clear hown1 hga hat1 hbl hgm1 hgc1 HB hown2 hgb hat2 hbl2 hg1 hownA hownB
                obtain ⟨F3, La', Lb', xa', hla, hlb, hM'⟩ := hst
                go_wp2
                go_roundg (x.length + 1 - (p + 1))
                case measure => omega
                case rel => exact ⟨p + 1, F3, La', Lb', xa', by omega, rfl, by go_num, hla, hlb, hM'⟩
        · obtain rfl : p = x.length + 1 := by omega
          have hpz : decide (((x.length + 1 : Nat) : Int) < (x.length : Int) + 1) = false := by simp
          obtain ⟨Aa, ca, e1⟩ := own_form hM.rows.own
          obtain ⟨Ab, cb, e2⟩ := own_form hM.own
          rw [HLA.out] at e1
          rw [HLB.out] at e2
          subst e1
          subst e2
          have hs1 := hS.below.size
          have hs2 := hM.below.size
          have hwo := blk_lt hS.blk
          have hbi := blk_below hM.below hwo hS.blk
          have hc5 := blk_cell hbi (i := 5) rfl
          have hc6 := blk_cell hbi (i := 6) rfl
          have hwi := blk_lt hbi
          have hc5' : ∀ o o' : Obj, ((wi.alloc o).alloc o').cell? ⟨w.heap.size + 1, 5, none⟩ = some hv := fun o o' => (World.cell?_of_block (w := wi) ((below2 wi o o').block _ hwi)).trans hc5
          have hc6' : ∀ o o' : Obj, ((wi.alloc o).alloc o').cell? ⟨w.heap.size + 1, 6, none⟩ = some iv := fun o o' => (World.cell?_of_block (w := wi) ((below2 wi o o').block _ hwi)).trans hc6
          have hownH := Lib.hid (fun (W : World) (hb : Below wi.heap.size wi W) => (hS.has.below (hM.below.trans (hb.mono hs2))).own)
          have hownI := Lib.hid (fun (W : World) (hb : Below wi.heap.size wi W) => (hS.is.below (hM.below.trans (hb.mono hs2))).own)
          have hAlt : ∀ k, hv.ownBlock = some k → k < wi.heap.size := fun k hk => by have := own_lt hS.has.own k hk; omega
          clear hr hx hV hmkN hmkR h32 hi1 ha1 hb1 hc1
          go_wp2_with fail
          go_region_law (first | (refine step_append_one _ rfl (.tmp 57) (.tmp 59) (.tmp 58) 153 rfl (w.heap.size + 2) 154 i3 (.slice none 0 0) 24 Try.underlying153 hi3 ha3 hb3 hc3 rfl _ H.length xh (by rfl) (hownH.out _ (by refine Below.drew ?_; first | exact below1 _ _ | exact below2 _ _ _)) (by rfl) (by rfl) (fun j u hj => by rw [World.cell?_drew]; first | exact cells_new' (by simp) _ _ _ _ hj | exact cell_new1 (by simp) _ _ _ _ _ hj) (by rfl) (H.length + 1) rfl (by have := HL.out; unfold maxLen; omega) (by have := HL.out; omega) (by simp; omega) ?_; intro A1 c1 w1 hown1 hga hat1; have hbl := bel_of hga (w0 := wi) (by refine Below.drew ?_; first | exact below1 _ _ | exact below2 _ _ _); have hgm1 : w1.heap[w.heap.size + 1]? = _ := (hga.block (w.heap.size + 1) (Nat.lt_of_lt_of_le hwi hbl.size) (fun e => by have := own_base' hS.has.own _ e.symm; omega)).trans ((hbl.block _ hwi).trans hbi); have hgc1 := blk_cell hgm1 (i := 6) rfl; have hlt1 := blk_lt hgm1; have HB := Lib.hid (new_i1 hownI.out (hownH.out _ hbl) hbl hga)) | (refine step_append_one _ rfl (.tmp 64) (.tmp 66) (.tmp 65) 154 rfl (w.heap.size + 2) 152 i2 (.slice none 0 0) 24 Try.underlying154 hi2 ha2 hb2 hc2 rfl _ I.length xi (by rfl) (HB.out _ (by first | exact Below.refl _ _ | exact below1 _ _)) (by rfl) (by rfl) (fun j u hj => by first | exact cells_new' (by simp) _ _ _ _ hj | exact cell_after hga hAlt _ _ _ (by omega) (by rw [World.cell?_drew]; first | exact cells_new' (by simp) _ _ _ _ hj | exact cell_new1 (by simp) _ _ _ _ _ hj)) (by rfl) (I.length + 1) rfl (by have := IL.out; unfold maxLen; omega) (by have := IL.out; omega) (by have := hga.size; have := hbl.size; simp; omega) ?_; intro A2 c2 w2 hown2 hgb hat2; have hbl2 := bel_of hgb (w0 := w1) (by first | exact Below.refl _ _ | exact below1 _ _); have hgm2 : w2.heap[w.heap.size + 1]? = _ := (hgb.block (w.heap.size + 1) (Nat.lt_of_lt_of_le hlt1 hbl2.size) (fun e => by have := own_base' hS.is.own _ e.symm; omega)).trans ((hbl2.block _ hlt1).trans hgm1); have hq5 := blk_cell hgm2 (i := 5) rfl; have hq6 := blk_cell hgm2 (i := 6) rfl; have hf5 : w2.frozen? ⟨w.heap.size + 1, 5, none⟩ = false := blk_free hgm2; have hf6 : w2.frozen? ⟨w.heap.size + 1, 6, none⟩ = false := blk_free hgm2))
          all_goals
            have hst := new_len HL.out IL.out (NewSt.step hS hM HLA.out HLB.out hbl hga hown1 hat1 hbl2 hgb hown2 hat2)
            clear hown1 hga hat1 hbl hgm1 hgc1 HB hown2 hgb hat2 hbl2 hownH hownI hq5 hq6 hf5 hf6 hgm2 hc5 hc6 hc5' hc6'
            obtain ⟨F', hv', iv', H', I', xh', xi', hl, il, e5, e6, hS'⟩ := hst
            go_wp2
            go_roundg (x.length + 1 - (q + 1))
            case measure => omega
            case rel => exact ⟨q + 1, F', hv', iv', H', I', xh', xi', by omega, rfl, by go_num, hl, il, hS'⟩
    · obtain rfl : q = x.length + 1 := by omega
      have hpz : decide (((x.length + 1 : Nat) : Int) < (x.length : Int) + 1) = false := by simp
      obtain ⟨hA, hc, rfl⟩ := own_form hS.has.own
      obtain ⟨iA, ic, rfl⟩ := own_form hS.is.own
      rw [HL.out, IL.out] at hS
      go_wp2_with fail
      go_ret
      exact hS.chart HL.out IL.out hr hx
end Go.Proofs.Ytcndbohiiodndaa
