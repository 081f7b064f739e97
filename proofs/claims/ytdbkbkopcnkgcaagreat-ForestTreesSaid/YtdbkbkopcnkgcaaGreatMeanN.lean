import Derived.Test.YtdbkbkopcnkgcaaGreatMeanO
open Go Go.RowKit
open Go.ChangeMaps (setBlock)
namespace Go.Proofs.YtdbkbkopcnkgcaaGreat

/-- what counts read: the ends, in blocks below lo that no map is -/
structure CtEnv (Fe : Nat → Prop) (lo rd ro be : Nat) (g : Gram) (x : List Int) (M : List (List Nat)) (A : Option Addr) (n c : Nat) (B : Option Addr) (m d : Nat) (C : Option Addr) (p q : Nat) (W : World) : Prop where
  ends : IsEnds Fe W be g x M A n c B m d C p q
  low : lo ≤ W.heap.size

/-- the count of a part, while the rules are gone through -/
structure CntAtN (Env : World → Prop) (b0 : Nat) (w : World) (bc rd ro be bs : Nat) (y : MPart) (s : Int × CM) : Prop where
  ct : CtAt w bc rd ro be s.2
  sum : w.heap[bs]? = some (.cells #[.int .i64 s.1] 3 (0, 0))
  part : w.heap[b0 + 1]? = some (.cells #[.int .i64 y.n, .int .i64 y.i, .int .i64 y.j] 78 (0, 0))
  ptr : w.heap[b0]? = some (.cells #[.pointer (some ⟨bc, 0, none⟩)] 71 (0, 0))
  env : Env w

theorem num_new {g : Gram} {x : List Int} {s : CM} {y : MPart} (hs : CMOk g x s) (hy : OkMP g x y) (hn : alook s.op y = none) : NumOk g x ⟨s.done, aput s.op y true⟩ (0, ⟨s.done, aput s.op y true⟩) := by
  have hk := alook_none.1 hn
  refine ⟨by unfold CntV maxCount; simp, ⟨?_, fun z hz => ?_, fun z hz => ?_, hs.val⟩, CMStep.refl _⟩
  · simp only
    rw [aput_new hk, List.map_append, List.nodup_append]
    exact ⟨hs.nodup, by simp, fun a ha b hb e => by simp at hb; subst hb; subst e; exact hk ha⟩
  · simp only at hz
    rw [aput_new hk, List.map_append] at hz
    rcases List.mem_append.1 hz with hz | hz
    · exact hs.sub z hz
    · simp at hz; rw [hz]; exact hy
  · simp only at hz ⊢
    rw [alook_put] at hz
    split at hz
    · cases hz
    · exact hs.done z hz

section
variable {Fe : Nat → Prop} {lo bc rd ro be : Nat} {g : Gram} {x : List Int} {M : List (List Nat)} {A : Option Addr} {n c : Nat} {B : Option Addr} {m d : Nat} {C : Option Addr} {p q : Nat}

theorem CtEnv.keep (hFe : ∀ b, Fe b → b < lo ∧ b ≠ rd ∧ b ≠ ro) (W w' : World) (h : CtEnv Fe lo rd ro be g x M A n c B m d C p q W) (_hl : lo ≤ W.heap.size) (ha : Away lo (fun b => b = rd ∨ b = ro) W w') : CtEnv Fe lo rd ro be g x M A n c B m d C p q w' :=
  ⟨ends_keep h.ends (fun b hb _ => ha.block b (hFe b hb).1 (by rintro (e | e); exact (hFe b hb).2.1 e; exact (hFe b hb).2.2 e)) ha.size, Nat.le_trans h.low ha.size⟩

set_option maxRecDepth 100000 in
set_option maxHeartbeats 1600000 in
theorem count_any (hv : Valid g) (hx : x.length ≤ 12) (hsh : MShape g x M) (hshort : Short x M) (hlow : MLow M) (hlen : g.rules.length = n) (hFe : ∀ b, Fe b → b < lo ∧ b ≠ rd ∧ b ≠ ro) : ∀ f, CountH (CtEnv Fe lo rd ro be g x M A n c B m d C p q) g x (cntP g x M f) ((partsM g x).length + 1 - f) bc rd ro be
  | 0 => fun y s W hy hs hroom _ _ => by
    have := nodup_sub_len _ _ hs.nodup fun z hz => mem_partsM (hs.sub z hz)
    rw [List.length_map] at this
    omega
  | f + 1 => fun y s W hy hs hroom hE hct => by
    have ih := count_any hv hx hsh hshort hlow hlen hFe f
    cases hd : alook s.done y with
    | some v =>
      have e1 : cntP g x M (f + 1) y s = (v, s) := by unfold cntP; rw [hd]
      rw [e1]
      refine (count_known hct y v (.inl hd)).mono ?_
      rintro e w' ⟨rfl, hb⟩
      exact ⟨rfl, hct.below hb, Away.ofBelow hb⟩
    | none =>
      by_cases ho : (alook s.op y).getD false = true
      · have e1 : cntP g x M (f + 1) y s = (-1, s) := by unfold cntP; rw [hd]; simp only; rw [if_pos ho]
        rw [e1]
        refine (count_known hct y (-1) (.inr ⟨hd, ho, rfl⟩)).mono ?_
        rintro e w' ⟨rfl, hb⟩
        exact ⟨rfl, hct.below hb, Away.ofBelow hb⟩
      · have hn : alook s.op y = none := by
          cases h : alook s.op y with
          | none => rfl
          | some b =>
            rw [h] at ho
            cases b
            · have := hs.done y h; rw [hd] at this; cases this
            · exact absurd rfl ho
        have hk := alook_none.1 hn
        obtain ⟨t, ht⟩ : ∃ t, t = g.rules.foldl (ruleM (cntP g x M f) x M y) (0, ⟨s.done, aput s.op y true⟩) := ⟨_, rfl⟩
        have e1 : cntP g x M (f + 1) y s = (t.1, ⟨aput t.2.done y t.1, aput t.2.op y false⟩) := by
          rw [ht]
          show (match alook s.done y with | some v => (v, s) | none => _) = _
          rw [hd]
          simp only
          rw [if_neg ho]
        rw [e1]
        have HT := Lib.hid ht
        have HY := Lib.hid hy
        have HS := Lib.hid hs
        have HE := Lib.hid hE
        have IH := Lib.hid ih
        have hb2 := below2 W (.cells #[.pointer (some ⟨bc, 0, none⟩)] 71) (.cells #[.int .i64 y.n, .int .i64 y.i, .int .i64 y.j] 78)
        have g0 := blk_new1 (w := W) rfl (.cells #[.pointer (some ⟨bc, 0, none⟩)] 71) (.cells #[.int .i64 y.n, .int .i64 y.i, .int .i64 y.j] 78)
        have g1 := blk_new' (w := W.alloc (.cells #[.pointer (some ⟨bc, 0, none⟩)] 71)) (a := W.heap.size + 1) (by rw [World.size_alloc]) (.cells #[.int .i64 y.n, .int .i64 y.i, .int .i64 y.j] 78)
        have h2 := hct.below hb2
        have hlD : ∀ P : Behind ((W.alloc (.cells #[.pointer (some ⟨bc, 0, none⟩)] 71)).alloc (.cells #[.int .i64 y.n, .int .i64 y.i, .int .i64 y.j] 78)), (Instr.lookup 72 (.map (some rd)) (mpartV y) true).run Tryz.prog P.w' = .ok (.tuple #[.int .i64 0, .bool false]) P.w' := fun P => by
          have := run_look_ok (P := Tryz.prog) Tryz.mpartKey Tryz.underlying72 Tryz.zeroInt (h2.done.below P.h) y
          rw [hd] at this
          exact this
        have e0 := cell_behind (blk_cell g0 (i := 0) rfl)
        have e1 := cell_behind (blk_cell g1 (i := 0) rfl)
        have e2 := cell_behind (blk_cell g1 (i := 1) rfl)
        have e3 := cell_behind (blk_cell g1 (i := 2) rfl)
        have e4 := cell_behind (blk_cell h2.blk (i := 1) rfl)
        have HN := Lib.hid hn
        have HNUM := Lib.hid (num_new hs hy hn)
        have HROOM := Lib.hid (show (partsM g x).length + 1 - f ≤ (aput s.op y true).length by rw [aput_new hk, List.length_append]; simp; omega)
        unfold mpartV at hlD ⊢
        clear ho hn hd ht hy hs hE ih hroom
        go_enter Tryz.func24, Tryz.ntmps24
        go_wp2_with fail
        refine wp_region_behind (by kernel_rfl) (by kernel_rfl) ?_
        repeat (go_big_quiet_step (fail))
        refine wpQuiet_nil ?_
        intro _ hw'
        obtain ⟨P2, hw''⟩ := hw'
        subst hw''
        have hbP := P2.h
        have h3 := h2.below hbP
        have g03 := blk_below hbP (blk_lt g0) g0
        have g13 := blk_below hbP (blk_lt g1) g1
        clear hlD e0 e1 e2 e3 e4 g0 g1
        generalize P2.w' = W3 at hbP h3 g03 g13 ⊢
        have hlO : ∀ P : Behind W3, (Instr.lookup 73 (.map (some ro)) (mpartV y) false).run Tryz.prog P.w' = .ok (.bool false) P.w' := fun P => by
          have := run_look (P := Tryz.prog) Tryz.mpartKey Tryz.underlying73 Tryz.zeroBool (h3.op.below P.h) y
          rw [HN.out] at this
          exact this
        have q0 := cell_behind (blk_cell g03 (i := 0) rfl)
        have q1 := cell_behind (blk_cell g13 (i := 0) rfl)
        have q2 := cell_behind (blk_cell g13 (i := 1) rfl)
        have q3 := cell_behind (blk_cell g13 (i := 2) rfl)
        have q5 := cell_behind (blk_cell h3.blk (i := 2) rfl)
        unfold mpartV at hlO
        go_wp2_with fail
        refine wp_region_behind (by kernel_rfl) (by kernel_rfl) ?_
        repeat (go_big_quiet_step (fail))
        refine wpQuiet_nil ?_
        intro _ hw'
        obtain ⟨P4, hw''⟩ := hw'
        subst hw''
        have hbP4 := P4.h
        have h4 := h3.below hbP4
        have g04 := blk_below hbP4 (blk_lt g03) g03
        have g14 := blk_below hbP4 (blk_lt g13) g13
        clear hlO q0 q1 q2 q3 q5 g03 g13
        have hb4 : Below W.heap.size W P4.w' := hb2.trans ((hbP.trans (hbP4.mono hbP.size)).mono hb2.size)
        generalize P4.w' = W4 at hbP4 h4 g04 g14 hb4 ⊢
        clear P2 P4 h2 h3 hb2 hbP hbP4
        go_wp2_with fail
        have r0 := blk_cell g04 (i := 0) rfl
        have r1 := blk_cell g14 (i := 0) rfl
        have r2 := blk_cell g14 (i := 1) rfl
        have r3 := blk_cell g14 (i := 2) rfl
        have r5 := blk_cell h4.blk (i := 2) rfl
        obtain ⟨o4, hput, hm4⟩ := (h4.op.same (w' := W4.drew) rfl).put (P := Tryz.prog) Tryz.mpartKey Tryz.underlying73 y true
        unfold mpartV at hput
        go_region
        have hne : ∀ {b2 : Nat} {cs : Array Value} {T : TypeId} {fr : Nat × Nat}, W4.heap[b2]? = some (.cells cs T fr) → (setBlock W4.drew ro o4).heap[b2]? = some (.cells cs T fr) := fun h1 => (setBlock_other _ _ _ (map_ne h4.op h1)).trans h1
        have h5 : CtAt (setBlock W4.drew ro o4) bc rd ro be ⟨s.done, aput s.op y true⟩ := ⟨hne h4.blk, h4.done.same (setBlock_other _ _ _ h4.ne), hm4, h4.ne⟩
        have g05 := hne g04
        have g15 := hne g14
        have ha5 : Away W.heap.size (fun b => b = rd ∨ b = ro) W (setBlock W4.drew ro o4) := (Away.ofBelow hb4).trans ⟨rfl, rfl, rfl, by rw [setBlock_size]; exact Nat.le_refl _, fun b2 _ hF => setBlock_other _ _ _ fun e => hF (.inr e)⟩
        clear r0 r1 r2 r3 r5 hput hm4 hne h4 g04 g14 hb4
        generalize setBlock W4.drew ro o4 = W5 at h5 g05 g15 ha5 ⊢
        clear W4
        have hE5 := CtEnv.keep hFe W W5 HE.out HE.out.low (ha5.mono HE.out.low fun _ _ h => h)
        have hbA := below1 W5 (.cells #[.int .i64 0] 3)
        have h6 := h5.below hbA
        have g06 := blk_below hbA (blk_lt g05) g05
        have g16 := blk_below hbA (blk_lt g15) g15
        have hsum := heap_alloc_new W5 (.cells #[.int .i64 0] 3)
        have hE6 := CtEnv.keep hFe W5 _ hE5 hE5.low (Away.ofBelow (hbA.mono hE5.low))
        have ha6 := ha5.trans (Away.ofBelow (F := fun b => b = rd ∨ b = ro) (hbA.mono ha5.size))
        have hszs := World.size_alloc W5 (.cells #[.int .i64 0] 3)
        have hlo5 := hE5.low
        have hbsW := ha5.size
        have r0 := blk_cell g06 (i := 0) rfl
        have r1 := blk_cell h6.blk (i := 0) rfl
        have r2 := hE6.ends.c3
        clear h5 g05 g15 ha5 hE5 hbA
        have hsz0 := g06
        have hone : CntAtN (CtEnv Fe lo rd ro be g x M A n c B m d C p q) W.heap.size (W5.alloc (.cells #[.int .i64 0] 3)) bc rd ro be W5.heap.size y (0, ⟨s.done, aput s.op y true⟩) := ⟨h6, hsum, g16, g06, hE6⟩
        have HONE := Lib.hid hone
        have HA6 := Lib.hid ha6
        clear hone h6 hsum g06 g16 hE6 ha6 hsz0
        go_wp2_with fail
        clear r0 r1 r2
        generalize W5.alloc (.cells #[.int .i64 0] 3) = W6 at HONE HA6 hszs ⊢
        generalize W5.heap.size = bs at HONE hszs hlo5 hbsW ⊢
        have hn32 : n ≤ 32 := by have := hv.len; omega
        go_loopg [41] n (fun gk i wr => ∃ (k : Nat) (s1 : Int × CM), k ≤ n ∧ gk = n - k ∧ i = .int .i64 k ∧ CntAtN (CtEnv Fe lo rd ro be g x M A n c B m d C p q) W.heap.size wr bc rd ro be bs y s1 ∧ NumOk g x ⟨s.done, aput s.op y true⟩ s1 ∧ Away W.heap.size (fun b => b = rd ∨ b = ro) W wr ∧ (g.rules.drop k).foldl (ruleM (cntP g x M f) x M y) s1 = t)
        case atStart => exact ⟨0, _, Nat.zero_le _, rfl, rfl, HONE.out, HNUM.out, HA6.out, HT.out.symm⟩
        case round =>
          obtain ⟨k, s1, hkn, rfl, rfl, hat, hnum, haw, hfo⟩ := hrel
          obtain ⟨wo, rfl⟩ : ∃ wo : World, wo = wr := ⟨_, rfl⟩
          by_cases hlt : k < n
          · have hkl : k < g.rules.length := by omega
            obtain ⟨b5, o5, hA, hF5, hl5, hc1, A', c', hc2, hsy⟩ := hat.env.ends.rules.ruleAt k hkl
            subst hA
            have hmem : g.rules[k] ∈ g.rules := List.getElem_mem hkl
            rw [List.drop_eq_getElem_cons hkl, List.foldl_cons] at hfo
            generalize g.rules[k] = r at hc1 hc2 hsy hfo hmem
            have hbB := below1 wo (.cells #[.int .i64 r.l, .slice A' r.r.length c'] 99)
            have hrr := heap_alloc_new wo (.cells #[.int .i64 r.l, .slice A' r.r.length c'] 99)
            have hkz : (k : Int) < (n : Int) := by omega
            have hct7 := hat.ct.below hbB
            have hs7 := blk_below hbB (blk_lt hat.sum) hat.sum
            have hp7 := blk_below hbB (blk_lt hat.part) hat.part
            have hq7 := blk_below hbB (blk_lt hat.ptr) hat.ptr
            have he7 := CtEnv.keep hFe wo _ hat.env hat.env.low (Away.ofBelow (hbB.mono hat.env.low))
            have ha7 := haw.trans (Away.ofBelow (F := fun b => b = rd ∨ b = ro) (hbB.mono haw.size))
            have hsy7 := hsy.below hbB
            have u1 := blk_cell hp7 (i := 0) rfl
            by_cases hlf : r.l = y.n
            · have hlz : (r.l != y.n) = false := by simp [hlf]
              have hr0 : ruleM (cntP g x M f) x M y s1 r = (splC x M y.j r.r y.i).foldl (wayM (cntP g x M f) r y.i) s1 := by unfold ruleM; rw [if_pos hlf]
              rw [hr0] at hfo
              have hsp : Calls Tryz.prog 42 #[.pointer (some ⟨be, 0, none⟩), .slice A' r.r.length c', .int .i64 y.i, .int .i64 y.j, .func (.func 43) #[] #[.pointer (some ⟨W.heap.size + 1, 0, none⟩), .pointer (some ⟨wo.heap.size, 0, none⟩), .pointer (some ⟨W.heap.size, 0, none⟩), .pointer (some ⟨bs, 0, none⟩)]] (wo.alloc (.cells #[.int .i64 r.l, .slice A' r.r.length c'] 99)).drew fun e w' => e = .returned (.tuple #[]) ∧ CntAtN (CtEnv Fe lo rd ro be g x M (some ⟨b5, o5, none⟩) n c B m d C p q) W.heap.size w' bc rd ro be bs y ((splC x M y.j r.r y.i).foldl (wayM (cntP g x M f) r y.i) s1) ∧ NumOk g x ⟨s.done, aput s.op y true⟩ ((splC x M y.j r.r y.i).foldl (wayM (cntP g x M f) r y.i) s1) ∧ Away W.heap.size (fun b => b = rd ∨ b = ro) W w' := by
                have hE := CtEnv.keep (g := g) (x := x) (M := M) (be := be) (A := some ⟨b5, o5, none⟩) (n := n) (c := c) (B := B) (m := m) (d := d) (C := C) (p := p) (q := q) hFe
                have hcb : CbAt (CtEnv Fe lo rd ro be g x M (some ⟨b5, o5, none⟩) n c B m d C p q) g x ((partsM g x).length + 1 - f) (wo.alloc (.cells #[.int .i64 r.l, .slice A' r.r.length c'] 99)) bc rd ro be (W.heap.size + 1) wo.heap.size W.heap.size bs y r A' c' s1 := ⟨hct7, hs7, hp7, hrr, hq7, he7, hnum.num, hnum.ok, Nat.le_trans HROOM.out hnum.step.len⟩
                have hcd := hcb.below hE hlo5 (Below.refl _ _).drew
                refine (sp_count IH.out (cntP_ok hv f) hv hmem HY.out hx hsh hshort hlow hE hFe hlo5 hcd hcd.env.ends (hsy7.below (Below.refl _ _).drew)).mono ?_
                rintro e w' ⟨rfl, hc9, ha9⟩
                refine ⟨rfl, ⟨hc9.ct, hc9.sum, hc9.part, hc9.ptr, hc9.env⟩, foldl_inv (P := NumOk g x ⟨s.done, aput s.op y true⟩) _ _ hnum fun s2 L hs2 hL => wayM_ok (cntP_ok hv f) hv hmem HY.out.2.2.1 HY.out.2.2.2 hs2 (splC_le hL).2, ?_⟩
                refine (ha7.trans (Away.ofBelow ((Below.refl _ _).drew.mono ha7.size))).trans (ha9.mono ha7.size fun b9 hb9 h9 => ?_)
                rcases h9 with h9 | h9 | h9
                · exact .inl h9
                · exact .inr h9
                · omega
              have v0 := blk_cell hq7 (i := 0) rfl
              have v1 := blk_cell hct7.blk (i := 0) rfl
              have v2 := blk_cell hrr (i := 1) rfl
              have v3 := blk_cell hp7 (i := 1) rfl
              have v4 := blk_cell hp7 (i := 2) rfl
              have HSP := Lib.hid hsp
              have HFO := Lib.hid hfo
              clear hsp hfo hr0 hlf hat hnum haw hsy
              go_wp2_with fail
              refine wp_region_any (by kernel_rfl) ?_
              change wpAny _ _ _ _ _ _ _ (World.drew _)
              refine wpAny_take (i := 4) (v := ?_) rfl (by kernel_rfl) (by kernel_rfl) (by kernel_rfl) (fun _ _ _ h => h) (Or.inl ⟨by rfl, ?_⟩) ?_
              rotate_left
              · (intro w'; go_simp; first | done | with_reducible rfl)
              refine wpAny_take (i := 6) (v := ?_) rfl (by kernel_rfl) (by kernel_rfl) (by kernel_rfl) (fun _ _ _ h => h) (Or.inl ⟨by rfl, ?_⟩) ?_
              rotate_left
              · (intro w'; go_simp; first | done | with_reducible rfl)
              refine wpAny_take (i := 8) (v := ?_) rfl (by kernel_rfl) (by kernel_rfl) (by kernel_rfl) (fun _ _ _ h => h) (Or.inl ⟨by rfl, ?_⟩) ?_
              rotate_left
              · (intro w'; go_simp; first | done | with_reducible rfl)
              refine wpAny_take (i := 10) (v := ?_) rfl (by kernel_rfl) (by kernel_rfl) (by kernel_rfl) (fun _ _ _ h => h) (Or.inl ⟨by rfl, ?_⟩) ?_
              rotate_left
              · (intro w'; go_simp; first | done | with_reducible rfl)
              refine wpAny_of_D (S := fun w' => w' = (wo.alloc (.cells #[.int .i64 r.l, .slice A' r.r.length c'] 99)).drew) (dep := 11) _ _ _ _ ?_
              refine wpAnyD_load (i := 0) (v := .pointer (some ⟨bc, 0, none⟩)) [1, 2, 3, 11] rfl (by kernel_rfl) (by kernel_rfl) (by kernel_rfl) (by kernel_rfl) (by kernel_rfl) (by kernel_rfl) (by kernel_rfl) (fun _ _ _ h => h) (by rfl) ?_ rfl ?_
              · (intro w' hS; subst hS; go_simp)
              refine wpAnyD_pure (i := 1) (v := ?_) [2, 3, 11] rfl (by kernel_rfl) (by kernel_rfl) (by kernel_rfl) (by kernel_rfl) (by kernel_rfl) (by kernel_rfl) (by kernel_rfl) (fun _ _ _ h => h) (by rfl) ?_ rfl ?_
              rotate_left
              · (intro w'; go_simp; first | done | with_reducible rfl)
              refine wpAnyD_pure (i := 2) (v := ?_) [3, 11] rfl (by kernel_rfl) (by kernel_rfl) (by kernel_rfl) (by kernel_rfl) (by kernel_rfl) (by kernel_rfl) (by kernel_rfl) (fun _ _ _ h => h) (by rfl) ?_ rfl ?_
              rotate_left
              · (intro w'; go_simp; first | done | with_reducible rfl)
              refine wpAnyD_load (i := 3) (v := .pointer (some ⟨be, 0, none⟩)) [11] rfl (by kernel_rfl) (by kernel_rfl) (by kernel_rfl) (by kernel_rfl) (by kernel_rfl) (by kernel_rfl) (by kernel_rfl) (fun _ _ _ h => h) (by rfl) ?_ rfl ?_
              · (intro w' hS; subst hS; go_simp)
              refine wpAnyD_load (i := 5) (v := .slice A' r.r.length c') [11] rfl (by kernel_rfl) (by kernel_rfl) (by kernel_rfl) (by kernel_rfl) (by kernel_rfl) (by kernel_rfl) (by kernel_rfl) (fun _ _ _ h => h) (by rfl) ?_ rfl ?_
              · (intro w' hS; subst hS; go_simp)
              refine wpAnyD_load (i := 7) (v := .int .i64 y.i) [11] rfl (by kernel_rfl) (by kernel_rfl) (by kernel_rfl) (by kernel_rfl) (by kernel_rfl) (by kernel_rfl) (by kernel_rfl) (fun _ _ _ h => h) (by rfl) ?_ rfl ?_
              · (intro w' hS; subst hS; go_simp)
              refine wpAnyD_load (i := 9) (v := .int .i64 y.j) [11] rfl (by kernel_rfl) (by kernel_rfl) (by kernel_rfl) (by kernel_rfl) (by kernel_rfl) (by kernel_rfl) (by kernel_rfl) (fun _ _ _ h => h) (by rfl) ?_ rfl ?_
              · (intro w' hS; subst hS; go_simp)
              refine wpAnyD_each (rs := [11]) (by kernel_rfl) (by simp) ?_
              refine EachD.cons rfl (fun K hK => ?_) EachD.nil
              simp only [List.getElem_toArray, List.getElem_cons_succ, List.getElem_cons_zero]
              refine step_call rfl 42 Tryz.f42 Tryz.func42 (by kernel_rfl) (by kernel_rfl) [.tmp 53, .tmp 55, .tmp 57, .tmp 59, .tmp 60] #[66, 97, 3, 3, 123] (by rfl) [.pointer (some ⟨be, 0, none⟩), .slice A' r.r.length c', .int .i64 y.i, .int .i64 y.j, .func (.func 43) #[] #[.pointer (some ⟨W.heap.size + 1, 0, none⟩), .pointer (some ⟨wo.heap.size, 0, none⟩), .pointer (some ⟨W.heap.size, 0, none⟩), .pointer (some ⟨bs, 0, none⟩)]] (by kernel_rfl) _ HSP.out ?_
              rintro e5 w5 ⟨rfl, hat5, hnum5, ha5⟩
              refine ⟨_, rfl, ?_⟩
              try go_simp
              refine hK _ _ (fun e => Bool.noConfusion (show true = false from e)) ?_
              clear hK K
              refine wpAnyD_of _ _ _ _ (by kernel_rfl) ?_
              refine wpAny_done (by kernel_rfl) ?_ _
              go_wp2_with fail
              go_roundg (n - (k + 1))
              case measure => omega
              case rel => exact ⟨k + 1, _, by omega, rfl, by go_num, hat5, hnum5, ha5, HFO.out⟩
            · have hlz : (r.l != y.n) = true := by simp [hlf]
              have hr0 : ruleM (cntP g x M f) x M y s1 r = s1 := by unfold ruleM; rw [if_neg hlf]
              rw [hr0] at hfo
              have HFO := Lib.hid hfo
              have HNM := Lib.hid hnum
              clear hfo hr0 hlf hat hnum haw hsy hsy7
              go_wp2_with fail
              go_roundg (n - (k + 1))
              case measure => omega
              case rel => exact ⟨k + 1, s1, by omega, rfl, by go_num, ⟨hct7, hs7, hp7, hq7, he7⟩, HNM.out, ha7, HFO.out⟩
          · obtain rfl : k = n := by omega
            rw [← hlen, List.drop_length] at hfo
            simp only [List.foldl_nil] at hfo
            subst hfo
            have HNM := Lib.hid hnum.num
            clear hnum HT HNUM HONE HA6 hszs
            go_wp2_with fail
            have r0 := blk_cell hat.ptr (i := 0) rfl
            have r1 := blk_cell hat.part (i := 0) rfl
            have r2 := blk_cell hat.part (i := 1) rfl
            have r3 := blk_cell hat.part (i := 2) rfl
            have r5 := blk_cell hat.ct.blk (i := 2) rfl
            obtain ⟨o7, hput, hm7⟩ := (hat.ct.op.same (w' := wo.drew) rfl).put (P := Tryz.prog) Tryz.mpartKey Tryz.underlying73 y false
            unfold mpartV at hput
            go_region
            have hne : ∀ {b2 : Nat} {cs : Array Value} {T : TypeId} {fr : Nat × Nat}, wo.heap[b2]? = some (.cells cs T fr) → (setBlock wo.drew ro o7).heap[b2]? = some (.cells cs T fr) := fun h1 => (setBlock_other _ _ _ (map_ne hat.ct.op h1)).trans h1
            have h7 : CtAt (setBlock wo.drew ro o7) bc rd ro be ⟨s1.2.done, aput s1.2.op y false⟩ := ⟨hne hat.ct.blk, hat.ct.done.same (setBlock_other _ _ _ hat.ct.ne), hm7, hat.ct.ne⟩
            have g7 := hne hat.ptr
            have g8 := hne hat.part
            have g9 := hne hat.sum
            have ha7 : Away W.heap.size (fun b => b = rd ∨ b = ro) W (setBlock wo.drew ro o7) := haw.trans ⟨rfl, rfl, rfl, by rw [setBlock_size]; exact Nat.le_refl _, fun b2 _ hF => setBlock_other _ _ _ fun e => hF (.inr e)⟩
            clear r0 r1 r2 r3 r5 hput hm7 hne hat haw
            generalize setBlock wo.drew ro o7 = W7 at h7 g7 g8 g9 ha7 ⊢
            go_wp2_with fail
            have r0 := blk_cell g7 (i := 0) rfl
            have r1 := blk_cell g8 (i := 0) rfl
            have r2 := blk_cell g8 (i := 1) rfl
            have r3 := blk_cell g8 (i := 2) rfl
            have r4 := blk_cell g9 (i := 0) rfl
            have r5 := blk_cell h7.blk (i := 1) rfl
            obtain ⟨o8, hput, hm8⟩ := (h7.done.same (w' := W7.drew) rfl).put (P := Tryz.prog) Tryz.mpartKey Tryz.underlying72 y s1.1
            unfold mpartV at hput
            go_region
            all_goals
              have g10 : (setBlock W7.drew rd o8).heap[bs]? = some (.cells #[.int .i64 s1.1] 3 (0, 0)) := (setBlock_other _ _ _ (map_ne h7.done g9)).trans g9
              have r6 := blk_cell g10 (i := 0) rfl
              go_wp2_with fail
              go_ret
              refine ⟨rfl, ⟨(setBlock_other _ _ _ (map_ne h7.done h7.blk)).trans h7.blk, hm8, h7.op.same (setBlock_other _ _ _ (fun e => h7.ne e.symm)), h7.ne⟩, ha7.trans ⟨rfl, rfl, rfl, by rw [setBlock_size]; exact Nat.le_refl _, fun b2 _ hF => setBlock_other _ _ _ fun e => hF (.inl e)⟩⟩
end
end Go.Proofs.YtdbkbkopcnkgcaaGreat
