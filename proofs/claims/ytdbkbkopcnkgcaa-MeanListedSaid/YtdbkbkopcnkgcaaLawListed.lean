import Derived.Test.YtdbkbkopcnkgcaaListZ
import Derived.Test.YtdbkbkopcnkgcaaReads
import Derived.Test.YtdbkbkopcnkgcaaSameT
import Derived.Deep.DeepCutAuto
open Go Go.RowKit
namespace Go.Proofs.Ytdbkbkopcnkgcaa

/-! ### isTree -/
theorem FitL.pre {g : Gram} {l : List Sym} {ks : List Tr} {p : List Int} (h : FitL g l ks p) : PreR ks p := by
  induction h with
  | nil => exact .nil
  | term n _ ih => exact PreR.cons (-1) n .nil ih
  | non k r hr _ _ ih1 ih2 => exact PreR.cons k 0 ih1 ih2
theorem YT.reads {g : Gram} {x : List Int} {l : List Sym} {a : Nat} {L : List Nat} {ks : List Tr} {p : List Int} (h : YT g x l a L ks p) : a ≤ x.length → ReadR g l ks ((x.drop a).take (L.getLastD a - a)) := by
  induction h with
  | nil a => intro _; simp; exact .nil
  | @term n a l L ks p hx hy ih =>
    intro _
    have ha : a < x.length := (List.getElem?_eq_some_iff.1 hx).1
    have hx2 : x[a] = n := (List.getElem?_eq_some_iff.1 hx).2
    have hle := drv_le (hy.drv (by omega))
    rw [List.getLastD_cons, List.drop_eq_getElem_cons ha, hx2, show L.getLastD (a + 1) - a = (L.getLastD (a + 1) - (a + 1)) + 1 by omega, List.take_succ_cons]
    exact .term n (ih (by omega))
  | @non k r a l L La us ks p q hr hu hy ih1 ih2 =>
    intro ha
    have h1 := drv_le (hu.drv ha)
    have h2 := drv_le (hy.drv h1.2)
    rw [List.getLastD_cons]
    have e : (x.drop a).take (L.getLastD (La.getLastD a) - a) = (x.drop a).take (La.getLastD a - a) ++ (x.drop (La.getLastD a)).take (L.getLastD (La.getLastD a) - La.getLastD a) := by
      rw [show L.getLastD (La.getLastD a) - a = (La.getLastD a - a) + (L.getLastD (La.getLastD a) - La.getLastD a) by omega, List.take_add, List.drop_drop, show a + (La.getLastD a - a) = La.getLastD a by omega]
    rw [e]
    exact .non k r hr (ih1 ha) (ih2 h1.2)
set_option maxRecDepth 100000 in
set_option maxHeartbeats 1600000 in
theorem isTree_any (m : Nat) (F F2 F3 : Nat → Prop) {g : Gram} {x : List Int} (A0 : Option Addr) (c0 : Nat) (B : Option Addr) (d : Nat) (t : Tr) (A : Option Addr) (c : Nat) (w : World) (hv : Valid g) (hr : IsSl Elt.rule F w (.slice A0 g.rules.length c0) g.rules) (hx : IsSl Elt.int F2 w (.slice B x.length d) x) (hl : x.length ≤ 1000) (hk : IsSl (trD m) F3 w (.slice A t.kids.length c) t.kids) (ht : ReadR g [⟨false, g.start⟩] [t] x) :
    Calls Try.prog 35 #[gramV g (.slice A0 g.rules.length c0), .slice B x.length d, .agg #[.int .i64 t.rule, .int .i64 t.term, .slice A t.kids.length c]] w fun e w' => e = .returned (.bool true) ∧ Below w.heap.size w w' := by
  have hb2 := below2 w (.cells #[.int .i64 g.terms, .int .i64 g.nons, .int .i64 g.start, .slice A0 g.rules.length c0] 25) (.cells #[.int .i64 t.rule, .int .i64 t.term, .slice A t.kids.length c] 70)
  have hcl := reads_any g hv m _ _ A0 c0 ⟨false, g.start⟩ t x A c _ (hr.below hb2) (hk.below hb2) ht hl
  unfold gramV at hcl ⊢
  have HCL := Lib.hid hcl
  have HX := Lib.hid (hx.below hb2)
  have hb2' := hb2
  clear hcl hr hx hk ht
  go_enter Try.func35, Try.ntmps35
  go_wp2_with fail
  refine HCL.out.mono ?_
  rintro e5 w5 ⟨B5, d5, rfl, hb5, hown5⟩
  have heq := equal_int _ _ x x _ _ _ _ _ _ w5 (own_ints hown5) (HX.out.below hb5)
  have hw5 := hb2'.trans (hb5.mono hb2'.size)
  simp only [decide_true] at heq
  clear hown5
  go_wp2_with fail
  refine heq.mono ?_
  rintro e6 w6 ⟨rfl, hb6⟩
  go_wp2_with fail
  go_ret
  exact ⟨rfl, hw5.trans (hb6.mono hw5.size)⟩

theorem sl_preL {P : Program} {t E : TypeId} (ht : P.underlying t = some (.slice E)) {size : Nat} (hz : ∀ w, (sizeOf E).run P w = .ok size w) {α : Type} {d : Elt α} {F : Nat → Prop} {w0 : World} {A : Option Addr} {n c : Nat} {xs : List α} (h : IsSl d F w0 (.slice A n c) xs) (hc : n ≤ c) (j : Nat) (hj : j ≤ n) :
    ∃ A', (∀ w : World, (Instr.slice t (.slice A n c) none (some (.int .i64 j)) none).run P w = .ok (.slice A' j c) w) ∧ IsSl d F w0 (.slice A' j c) (xs.take j) := by
  obtain ⟨rfl, hn⟩ := h.len
  refine ⟨if c = 0 then A else A.map (·.add (0 * size)), fun w => ?_, ?_⟩
  · have hjc : j ≤ c := by omega
    simp [Instr.slice, run_underlying ht, hz, Instr.sliceBounds, Instr.sliceBound, asIntOf, hjc]
  · obtain ⟨A', c', he, hl, h⟩ := h
    injection he with h1 h2 h3
    subst h1
    refine ⟨_, c, by rw [List.length_take, Nat.min_eq_left hj], by rw [List.length_take]; omega, fun k hk => ?_⟩
    rw [List.length_take] at hk
    obtain ⟨b, o, rfl, hb, hlt, he⟩ := h k (by omega)
    rw [if_neg (by omega)]
    refine ⟨b, o, by simp [add_lit], hb, hlt, ?_⟩
    rw [List.getElem_take]
    exact he

/-! ### the law MeanListed -/
theorem cntU_v (g : Gram) (x : List Int) (M : List (List Nat)) : -1 ≤ cntU g x M ∧ cntU g x M ≤ 1000000000 := by
  unfold cntU
  split
  · unfold valW
    split
    · unfold maxCount; omega
    · omega
  · omega
set_option maxRecDepth 100000 in
set_option maxHeartbeats 6400000 in
theorem meanListed_any (F F2 : Nat → Prop) (l l2 : List Int) (A : Option Addr) (n c : Nat) (A2 : Option Addr) (n2 c2' : Nat) (most : Int) (w : World) (hl : IsSl Elt.int F w (.slice A n c) l) (hl2 : IsSl Elt.int F2 w (.slice A2 n2 c2') l2) (hnc : n ≤ c) :
    Calls Try.prog 7 #[.slice A n c, .slice A2 n2 c2', .int .i64 most] w fun e w' => e = .returned (.bool true) ∧ Below w.heap.size w w' := by
  go_enter Try.func7, Try.ntmps7
  go_wp2_with fail
  refine (made_any F F2 l l2 A n c A2 n2 c2' 5 _ hl hl2 hnc (by decide)).mono ?_
  rintro e1 w1 ⟨g, A', c', x, C, cx, rfl, hM⟩
  have hv := hM.small.valid
  have hx5 := hM.most
  have hcap := hM.cap
  have hcx := hM.capx
  have hok : OkWord g x := hM.terms
  have hw1 := hM.below
  have hbA := below1 w1 (.cells #[.int .i64 g.terms, .int .i64 g.nons, .int .i64 g.start, .slice A' g.rules.length c'] 25)
  have gg := heap_alloc_new w1 (.cells #[.int .i64 g.terms, .int .i64 g.nons, .int .i64 g.start, .slice A' g.rules.length c'] 25)
  have hrA := (hM.rules.below hbA).weak (G := fun _ => True) fun _ _ => trivial
  have hxA := (hM.word.below hbA).weak (G := fun _ => True) fun _ _ => trivial
  have hwA := hw1.trans (hbA.mono hw1.size)
  have k0 := blk_cell gg (i := 0) rfl
  have k1 := blk_cell gg (i := 1) rfl
  have k2 := blk_cell gg (i := 2) rfl
  have k3 := blk_cell gg (i := 3) rfl
  unfold gramV
  clear hM hl hl2 hw1 hbA
  go_wp2_with fail
  generalize w1.alloc (.cells #[.int .i64 g.terms, .int .i64 g.nons, .int .i64 g.start, .slice A' g.rules.length c'] 25) = w2 at hwA gg hrA hxA k0 k1 k2 k3 ⊢
  generalize w1.heap.size = bg at gg k0 k1 k2 k3 ⊢
  have hcn := mcount_any _ hv (by omega) w2 hcap hok hrA hxA
  unfold gramV at hcn
  refine hcn.mono ?_
  rintro e3 w3 ⟨M, hIM, rfl, hb3⟩
  obtain ⟨ts, err, hTR⟩ := tr_ex g x M 100
  have hpl := listed_plain hv (by omega) hIM hTR
  have hcv := cntU_v g x M
  have gg3 := blk_below hb3 (blk_lt gg) gg
  have hr3 := hrA.below hb3
  have hx3 := hxA.below hb3
  have hw3 := hwA.trans (hb3.mono hwA.size)
  have htr := treesN_any _ hv (by omega) w3 hcap hok hr3 hx3 100 (by decide) hIM hTR
  unfold gramV at htr
  clear hcn k0 k1 k2 k3 gg hrA hxA hwA hb3
  have k0 := blk_cell gg3 (i := 0) rfl
  have k1 := blk_cell gg3 (i := 1) rfl
  have k2 := blk_cell gg3 (i := 2) rfl
  have k3 := blk_cell gg3 (i := 3) rfl
  have HIM := Lib.hid hIM
  have HTR := Lib.hid htr
  have HPL := Lib.hid hpl
  clear hIM hTR htr hpl
  generalize hcu : cntU g x M = cu at hcv
  have HCU := Lib.hid hcu
  clear hcu
  go_wp2_with fail
  refine HTR.out.mono ?_
  rintro e4 w4 ⟨Aa, ca, rfl, hca, hsa, hb4⟩
  have gg4 := blk_below hb4 (blk_lt gg3) gg3
  have hr4 := hr3.below hb4
  have hx4 := hx3.below hb4
  have hsa4 := hsa.weak (G := fun _ => True) fun _ _ => trivial
  have hw4 := hw3.trans (hb4.mono hw3.size)
  clear HTR k0 k1 k2 k3 gg3 hr3 hx3 hsa hw3 hb4
  have hme := means_any w4
  go_wp2_with fail
  refine hme.mono ?_
  rintro e5 w5 ⟨rfl, hb5⟩
  have hw5 := hw4.trans (hb5.mono hw4.size)
  clear hme
  rcases HPL.out with rfl | ⟨rfl, ps, hL⟩
  · have hme := means_any w5
    clear HPL
    go_wp2_with fail
    refine hme.mono ?_
    rintro e6 w6 ⟨rfl, hb6⟩
    go_wp2_with fail
    go_ret
    exact ⟨rfl, hw5.trans (hb6.mono hw5.size)⟩
  · clear HPL
    have gg5 := blk_below hb5 (blk_lt gg4) gg4
    have hr5 := hr4.below hb5
    have hx5w := hx4.below hb5
    have hs5 := hsa4.below hb5
    clear gg4 hr4 hx4 hsa4 hw4 hb5
    obtain ⟨m, hm⟩ : ∃ m, m = ts.length := ⟨_, rfl⟩
    have hall := hL.all
    have hmany := hL.many
    have hfew := hL.few
    rw [HCU.out] at hall hmany
    rw [← hm] at hs5 hca hall hmany hfew ⊢
    have HMN := Lib.hid hm
    have HL := Lib.hid hL
    clear hm hL
    obtain ⟨dn, hsd⟩ := hs5.deep
    have HSD := Lib.hid hsd
    have HS5 := Lib.hid hs5
    have HR5 := Lib.hid hr5
    have HX5 := Lib.hid hx5w
    have HGG := Lib.hid gg5
    clear hsd hs5 hr5 hx5w
    have hgl := blk_lt gg5
    clear gg5
    go_upto_region 6 with (fail)
    go_cut [10, 78] (fun s10 s78 wx => s10 = .slice Aa m ca ∧ s78 = .bool false ∧ wx = w5)
    case first =>
      by_cases c0 : 0 ≤ cu
      · have d0 : decide (0 ≤ cu) = true := by simpa using c0
        have d1 : decide (cu ≥ 0) = true := by simpa using c0
        have d2 : (cu == -1) = false := by simp; omega
        by_cases c1 : cu ≤ 100
        · have d3 : decide (cu ≤ 100) = true := by simpa using c1
          have d4 : ((m : Int) != cu) = false := by rw [hall c0 c1]; simp
          have d5 : decide (cu > 100) = false := by simp; omega
          have d6 : decide (100 < cu) = false := by simp; omega
          go_wp2_with fail
          go_meet
          exact ⟨rfl, rfl, rfl⟩
        · have d3 : decide (cu ≤ 100) = false := by simp; omega
          have d4 : m = 100 := hmany (.inr (by omega))
          have d5 : decide (cu > 100) = true := by simp; omega
          have d6 : decide (100 < cu) = true := by simp; omega
          have d7 : ((m : Int) != 100) = false := by rw [d4]; rfl
          have D4 := Lib.hid d4
          clear d4
          go_wp2_with fail
          go_meet
          exact ⟨by rw [D4.out], rfl, rfl⟩
      · have c2 : cu = -1 := by omega
        have d4 : m = 100 := hmany (.inl c2)
        have d7 : ((m : Int) != 100) = false := by rw [d4]; rfl
        have D4 := Lib.hid d4
        clear d4
        subst c2
        go_wp2_with fail
        go_meet
        exact ⟨by rw [D4.out], rfl, rfl⟩
    case rest =>
    obtain ⟨rfl, rfl, rfl⟩ := hcut
    clear hall hmany
    go_wp2_with fail
    go_loopg [81] m (fun gk i wr => ∃ q : Nat, q ≤ m ∧ gk = m - q ∧ i = .int .i64 q ∧ Below wc.heap.size wc wr)
    case atStart => exact ⟨0, Nat.zero_le _, rfl, rfl, Below.refl _ _⟩
    case round =>
      obtain ⟨q, hq, rfl, rfl, hB⟩ := hrel
      obtain ⟨wo, rfl⟩ : ∃ wo : World, wo = wr := ⟨_, rfl⟩
      by_cases hlt : q < m
      · have hqz : (q : Int) < (m : Int) := by omega
        have hqt : q < ts.length := by rw [← HMN.out]; exact hlt
        have hqp : q < ps.length := by rw [HL.out.len]; exact hqt
        have hyt := HL.out.fit q hqt hqp
        have hhi := HL.out.hi _ (List.getElem_mem hqp)
        obtain ⟨pq, hpq⟩ : ∃ pq, ps[q] = pq := ⟨_, rfl⟩
        rw [hpq] at hyt hhi
        have hrd := hyt.reads (Nat.zero_le _)
        have hxe : (x.drop 0).take ([x.length].getLastD 0 - 0) = x := by simp
        rw [hxe] at hrd
        have hpr := hyt.fit.pre
        obtain ⟨b2, o2, hAa, _, hb2l, x0, x1, Rk, cr, m', hm', x2, hkk⟩ := (HSD.out.below hB).trIn q hqt
        have hprev : 0 < q → ∃ (r' t' : Int) (Rk' : Option Addr) (kl' cr' : Nat), wo.cell? ⟨b2, o2 + (q - 1) * 3, none⟩ = some (.int .i64 r') ∧ wo.cell? ⟨b2, o2 + (q - 1) * 3 + 1, none⟩ = some (.int .i64 t') ∧ wo.cell? ⟨b2, o2 + (q - 1) * 3 + 2, none⟩ = some (.slice Rk' kl' cr') ∧
            ∃ pl : List Int, (∀ W : World, Below wo.heap.size wo W → Calls Try.prog 36 #[.agg #[.int .i64 r', .int .i64 t', .slice Rk' kl' cr']] W fun e w' => ∃ B d, e = .returned (.slice B pl.length d) ∧ Below W.heap.size W w' ∧ w'.ownsRow W.heap.size 3 1 (.slice B pl.length d) pl.length (pl.map (Value.int .i64))) ∧
              ¬ pq.length < pl.length ∧ (pl.length = pq.length → cmpInts pl pq < 0) := by
          intro h0
          have hq1 : q - 1 < ts.length := by omega
          have hq2 : q - 1 < ps.length := by omega
          obtain ⟨b5, o5, hA5, _, _, z0, z1, Rz, cz, mz, _, z2, hkz⟩ := (HSD.out.below hB).trIn (q - 1) hq1
          rw [hAa] at hA5
          injection hA5 with hA5
          injection hA5 with e1 e2
          subst e1 e2
          have hyz := HL.out.fit (q - 1) hq1 hq2
          have hord := HL.out.ord (q - 1) (by omega)
          have hqq : q - 1 + 1 = q := by omega
          simp only [hqq] at hord
          rw [hpq] at hord
          exact ⟨_, _, Rz, _, cz, z0, z1, z2, ps[q - 1], fun W hW => pre_any mz _ ts[q - 1] ps[q - 1] Rz cz W (hkz.below hW) hyz.fit.pre (HL.out.hi _ (List.getElem_mem hq2)), hord⟩
        subst hAa
        clear hyt hpq
        generalize ts[q] = t at x0 x1 x2 hkk hrd hpr
        obtain ⟨W3, hW3⟩ : ∃ W3 : World, W3 = wo.alloc (.cells #[.int .i64 t.rule, .int .i64 t.term, .slice Rk t.kids.length cr] 70) := ⟨_, rfl⟩
        have hbB : Below wo.heap.size wo W3 := by rw [hW3]; exact below1 wo _
        have hkb : W3.heap[wo.heap.size]? = some (.cells #[.int .i64 t.rule, .int .i64 t.term, .slice Rk t.kids.length cr] 70) := by rw [hW3]; exact heap_alloc_new wo _
        have hszB := hB.size
        have hgg3 := blk_below (hB.trans (hbB.mono hszB)) hgl HGG.out
        have k0 := blk_cell hgg3 (i := 0) rfl
        have k1 := blk_cell hgg3 (i := 1) rfl
        have k2 := blk_cell hgg3 (i := 2) rfl
        have k3 := blk_cell hgg3 (i := 3) rfl
        have j0 := blk_cell hkb (i := 0) rfl
        have j1 := blk_cell hkb (i := 1) rfl
        have j2 := blk_cell hkb (i := 2) rfl
        rw [hW3] at k0 k1 k2 k3 j0 j1 j2
        have hit := isTree_any m' _ _ _ A' c' C cx t Rk cr W3 hv ((HR5.out.below hB).below hbB) ((HX5.out.below hB).below hbB) (by omega) (hkk.below hbB) hrd
        have hp2 : ∀ W : World, Below W3.heap.size W3 W → Calls Try.prog 36 #[.agg #[.int .i64 t.rule, .int .i64 t.term, .slice Rk t.kids.length cr]] W fun e w' => ∃ B d, e = .returned (.slice B pq.length d) ∧ Below W.heap.size W w' ∧ w'.ownsRow W.heap.size 3 1 (.slice B pq.length d) pq.length (pq.map (Value.int .i64)) := fun W hW => pre_any m' _ t pq Rk cr W ((hkk.below hbB).below hW) hpr hhi
        unfold gramV at hit
        have HIT := Lib.hid hit
        have HP2 := Lib.hid hp2
        have HPV := Lib.hid hprev
        clear hit hp2 hprev hpr hrd hkk hgg3 hxe hhi
        generalize t.rule = kr at x0 hW3 hkb HIT HP2 j0 j1 j2 k0 k1 k2 k3
        generalize t.term = kt at x1 hW3 hkb HIT HP2 j0 j1 j2 k0 k1 k2 k3
        generalize t.kids.length = kl at x2 hW3 hkb HIT HP2 j0 j1 j2 k0 k1 k2 k3
        go_wp2_with fail
        rw [← hW3]
        clear k0 k1 k2 k3 j0 j1 j2 x0 x1 x2 hW3
        refine HIT.out.mono ?_
        rintro e6 w6 ⟨rfl, hb6⟩
        have hB6 := hB.trans ((hbB.trans (hb6.mono hbB.size)).mono hszB)
        by_cases h0 : 0 < q
        · have d0 : decide ((q : Int) > 0) = true := by simp; omega
          have d1 : decide (0 < q) = true := by simpa using h0
          have d2 : decide ((0 : Int) < (q : Int)) = true := by simp; omega
          have hwr : IntKind.i64.wrap ((q : Int) - 1) = ((q - 1 : Nat) : Int) := by rw [IntWalk.i64_in _ (by have := HL.out.few; omega)]; omega
          obtain ⟨r', t', Rk', kl', cr', z0, z1, z2, pl, hp1, hl1, hl2⟩ := HPV.out h0
          have hbb := hbB.trans (hb6.mono hbB.size)
          have hbD : Below wo.heap.size wo w6.drew := hbb.drew
          have hp1' := hp1 w6.drew hbD
          have y0 := cell_liftR hbb z0
          have y1 := cell_liftR hbb z1
          have y2 := cell_liftR hbb z2
          have hk6 := blk_below hb6 (blk_lt hkb) hkb
          have j0 := blk_cell hk6 (i := 0) rfl
          have j1 := blk_cell hk6 (i := 1) rfl
          have j2 := blk_cell hk6 (i := 2) rfl
          have HP1 := Lib.hid hp1'
          have HP2' := Lib.hid (fun (W : World) (hW : Below w6.drew.heap.size w6.drew W) => HP2.out W (hb6.trans ((((Below.refl _ w6).drew).trans hW).mono hb6.size)))
          have HL2 := Lib.hid hl2
          have hq1m : ((q - 1 : Nat) : Int) < (m : Int) := by omega
          have hq1n : q - 1 < m := by omega
          clear z0 z1 z2 hp1 hp1' hl2 HPV hk6 HP2
          generalize q - 1 = q1 at hwr y0 y1 y2 hq1m hq1n
          go_wp2_with fail
          go_region_held3 (fun w' => w'.cell? ⟨b2, o2 + q1 * 3, none⟩ = some (.int .i64 r') ∧ w'.cell? ⟨b2, o2 + q1 * 3 + 1, none⟩ = some (.int .i64 t') ∧ w'.cell? ⟨b2, o2 + q1 * 3 + 2, none⟩ = some (.slice Rk' kl' cr') ∧ w'.cell? ⟨wo.heap.size, 0, none⟩ = some (.int .i64 kr) ∧ w'.cell? ⟨wo.heap.size, 1, none⟩ = some (.int .i64 kt) ∧ w'.cell? ⟨wo.heap.size, 2, none⟩ = some (.slice Rk kl cr)) (first | go_keep | exact ⟨cell_liftR hb7 y0, cell_liftR hb7 y1, cell_liftR hb7 y2, cell_liftR hb7 j0, cell_liftR hb7 j1, cell_liftR hb7 j2⟩ | exact ⟨cell_liftR hb8 (cell_liftR hb7 y0), cell_liftR hb8 (cell_liftR hb7 y1), cell_liftR hb8 (cell_liftR hb7 y2), cell_liftR hb8 (cell_liftR hb7 j0), cell_liftR hb8 (cell_liftR hb7 j1), cell_liftR hb8 (cell_liftR hb7 j2)⟩) ((first | (with_reducible refine HP1.out.mono ?_; rintro e7 w7 ⟨B7, d7, rfl, hb7, hown7⟩) | (with_reducible refine (HP2'.out _ hb7).mono ?_; rintro e8 w8 ⟨B8, d8, rfl, hb8, hown8⟩)))
          have hb78 := hb7.trans (hb8.mono hb7.size)
          have hB8 := hB6.trans (((Below.refl _ w6).drew.trans hb78).mono hB6.size)
          have hcmp := compareInts_any _ _ pl pq B7 B8 _ _ d7 d8 w8 ((own_ints hown7).below hb8) (own_ints hown8)
          have hl2 := HL2.out
          clear HL2 hown7 hown8 HP1 HP2' hb78 y0 y1 y2 j0 j1 j2
          generalize hcz : cmpInts pl pq = cz at hcmp hl2
          have HC := Lib.hid hcmp
          clear hcmp hcz
          generalize pl.length = la at hl1 hl2 HC ⊢
          generalize pq.length = lb at hl1 hl2 HC ⊢
          have v0 : decide (lb < la) = false := by simp; omega
          have v1 : decide (la > lb) = false := by simp; omega
          have v2 : decide ((la : Int) > (lb : Int)) = false := by simp; omega
          by_cases hab : la = lb
          · have hneg := hl2 hab
            subst hab
            have u0 : decide (cz ≥ 0) = false := by simp; omega
            have u1 : decide (0 ≤ cz) = false := by simp; omega
            clear hl1 hl2 hneg v0
            go_wp2_with fail
            refine HC.out.mono ?_
            rintro e9 w9 ⟨rfl, rfl⟩
            go_wp2_with fail
            go_roundg (m - (q + 1))
            case measure => omega
            case rel => exact ⟨q + 1, by omega, rfl, by go_num, hB8⟩
          · have u0 : (la == lb) = false := by simpa using hab
            have u1 : ((la : Int) == (lb : Int)) = false := by simp; omega
            clear HC hl1 hl2 hab
            go_wp2_with fail
            go_roundg (m - (q + 1))
            case measure => omega
            case rel => exact ⟨q + 1, by omega, rfl, by go_num, hB8⟩
        · have d0 : decide ((q : Int) > 0) = false := by simp; omega
          have d1 : decide (0 < q) = false := by simpa using h0
          have d2 : decide ((0 : Int) < (q : Int)) = false := by simp; omega
          clear HP2 HPV h0
          go_wp2_with fail
          go_roundg (m - (q + 1))
          case measure => omega
          case rel => exact ⟨q + 1, by omega, rfl, by go_num, hB6⟩
      · obtain rfl : q = m := by omega
        have hb := below_int most 101 wo (by omega)
        have hz0 := Int.emod_nonneg most (show (101 : Int) ≠ 0 by omega)
        have hz1 := Int.emod_lt_of_pos most (show (0 : Int) < 101 by omega)
        generalize most % 101 = mz at hb hz0 hz1
        obtain ⟨mn, rfl⟩ : ∃ mn : Nat, mz = mn := ⟨mz.toNat, by omega⟩
        have gg8 := blk_below hB hgl HGG.out
        have hr8 := HR5.out.below hB
        have hx8 := HX5.out.below hB
        have hs8 := HSD.out.below hB
        have hw8 := hw5.trans (hB.mono hw5.size)
        have htr := treesN_any _ hv (by omega) wo hcap hok hr8 hx8 mn (by omega) HIM.out (HL.out.less mn (by omega))
        unfold gramV at htr
        have k0 := blk_cell gg8 (i := 0) rfl
        have k1 := blk_cell gg8 (i := 1) rfl
        have k2 := blk_cell gg8 (i := 2) rfl
        have k3 := blk_cell gg8 (i := 3) rfl
        have HTR := Lib.hid htr
        clear htr HSD HS5 HR5 HX5 HGG hr8 hx8 hB gg8
        go_wp2_with fail
        refine hb.mono ?_
        rintro e9 w9 ⟨rfl, rfl⟩
        go_wp2_with fail
        refine HTR.out.mono ?_
        rintro e10 w10 ⟨As, cs, rfl, hcs, hss, hb10⟩
        clear HTR k0 k1 k2 k3 hb
        have hlm : (ts.take mn).length = min mn q := by rw [List.length_take, ← HMN.out]
        obtain ⟨j, hj⟩ : ∃ j, j = min mn q := ⟨_, rfl⟩
        have hjm : min (mn : Int) (q : Int) = (j : Int) := by omega
        have htk : ts.take j = ts.take mn := by rw [hj, HMN.out, ← List.take_eq_take_min]
        rw [← hj] at hlm
        obtain ⟨Ap, hsp, hsa⟩ := sl_preL (P := Try.prog) Try.underlying66 Try.sizeOf70 (hs8.below hb10) hca j (by omega)
        rw [htk] at hsa
        have heq := eqT_any dn
        have hsa' := hsa.flat
        have heq := eqTree_any _ _ (ts.take mn) As cs Ap ca w10 hss (hlm ▸ hsa')
        rw [hlm] at heq ⊢
        have HEQ := Lib.hid heq
        have hw10 := hw8.trans (hb10.mono hw8.size)
        clear heq hss hsa hsa' hs8 hcs hlm htk hj hw8 hb10
        go_wp2_with fail
        refine HEQ.out.mono ?_
        rintro e11 w11 ⟨rfl, hb11⟩
        go_wp2_with fail
        go_ret
        exact ⟨rfl, hw10.trans (hb11.mono hw10.size)⟩
end Go.Proofs.Ytdbkbkopcnkgcaa
