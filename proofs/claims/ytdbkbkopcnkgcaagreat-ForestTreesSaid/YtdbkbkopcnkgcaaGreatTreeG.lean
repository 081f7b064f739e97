import Derived.Test.YtdbkbkopcnkgcaaGreatTreeF
open Go Go.RowKit
open Go.ChangeMaps (setBlock)
namespace Go.Proofs.YtdbkbkopcnkgcaaGreat

theorem OwnG.below {w w' : World} {base : Nat} {G : Nat → Prop} {v : Value} {L : List (Rk × RH)} (h : OwnG w base G v L) (hb : Below w.heap.size w w') : OwnG w' base G v L :=
  h.keep hb.size (fun b hb' => hb.block b (h.own.lt b hb').2) fun b hb' hl => ⟨hb', hb.block b hl⟩

/-- the splits of a rule, with the closure of again -/
theorem sp_again {g : Gram} {x : List Int} {M : List (List Nat)} {most : Nat} {of : MPart → List Rk} {F Fe : Nat → Prop} {w0 W : World} {bb be bo : Nat} {av : Value} {hs : List (MPart × Hd)} {k : AgB} {y0 : MPart} {kn : Nat} {r : Rule} {R : Option Addr} {rc : Nat} {v : Value} {Lh : List (Rk × RH)} {A : Option Addr} {n c : Nat} {B : Option Addr} {m d : Nat} {C : Option Addr} {p q : Nat}
    (hof : BestAt F w0 bb be most bo av hs of) (hok : OfOk g most of) (hm : most ≤ 100) (hF : ∀ b, F b → b < w0.heap.size) (hv : Valid g) (hx : x.length ≤ 12) (hsh : MShape g x M) (hshort : Short x M) (hlow : MLow M) (hr : g.rules[kn]? = some r) (hy : OkMP g x y0) (hfit : ∀ a ∈ Lh.map (·.1), RkFit g [] [⟨false, r.l⟩] a) (hcnt : Lh.length + 2856100 ≤ 1000000000)
    (h : AgAt (fun b => Fe b ∧ b < W.heap.size) F w0 W.heap.size W k bb y0 kn r R rc v Lh) (hends : IsEnds Fe W be g x M A n c B m d C p q) (hsy : IsSl Elt.sym Fe W (.slice R r.r.length rc) r.r) :
    Calls Tryz.prog 42 #[.pointer (some ⟨be, 0, none⟩), .slice R r.r.length rc, .int .i64 y0.i, .int .i64 y0.j, .func (.func 47) #[] k.caps] W fun e w' => e = .returned (.tuple #[]) ∧ ∃ v' L', L'.map (·.1) = (splC x M y0.j r.r y0.i).foldl (wayR most of kn r y0.i) (Lh.map (·.1)) ∧ AgAt (fun b => Fe b ∧ b < W.heap.size) F w0 W.heap.size w' k bb y0 kn r R rc v' L' := by
  have hrm := List.mem_of_getElem? hr
  have hok4 := hv.ok r hrm
  have hml := hsh.len
  have H : SpCallK (fun K (s : List Rk) w2 => ∃ v' L', L'.map (·.1) = s ∧ AgAt K F w0 W.heap.size w2 k bb y0 kn r R rc v' L') (wayR most of kn r y0.i) (fun s _ => (∀ a ∈ s, RkFit g [] [⟨false, r.l⟩] a) ∧ s.length + 100 ≤ 1000000000) Fe W 47 k.caps be g x M A n c B m d C p q R rc r.r y0.i y0.j := by
    refine ⟨fun args w => ?_, hx, fun z hz => ?_, hsh.row, hsh.small, hshort, hlow, hy.2.2.1, hy.2.2.2, hok4.len, hends, hsy, fun K K' s W1 h1 hk => ?_, fun K s w1 w2 h1 hb => ?_, fun K s W1 b i u hb hK h1 => ?_, fun K s W1 L b hL hP _ hKW h1 _ _ harr _ hsy1 => ?_⟩
    · have hfn := Tryz.func47
      have hnm : (Tryz.f47.name == "runtime.NumGoroutine") = false := by kernel_rfl
      have hbd : Tryz.f47.body.isNone = false := by kernel_rfl
      simp only [beq_eq_false_iff_ne, Option.isNone_eq_false_iff, Option.isSome_iff_ne_none] at hnm hbd
      simp [callFunc, hfn, hnm, hbd]
    · have := hok4.syms z hz
      exact ⟨this.n0, fun ht => by have := this.nn ht; omega⟩
    · obtain ⟨v', L', h2, h3⟩ := h1
      exact ⟨v', L', h2, h3.less hk⟩
    · obtain ⟨v', L', h2, h3⟩ := h1
      exact ⟨v', L', h2, h3.beneath hb⟩
    · obtain ⟨v', L', h2, h3⟩ := h1
      exact ⟨v', L', h2, h3.poke hb hK⟩
    · obtain ⟨v', L', h2, h3⟩ := h1
      have hl := splL_le hL
      subst h2
      have h4 := hP.2
      rw [List.length_map] at h4
      have hy12 := hy.2.2.1
      have hj12 := hy.2.2.2
      exact agcb_any hof hok hm hF hv hr hl.1 (fun z hz => by have := hl.2 z hz; omega) (by omega) h4 hKW h3 harr hsy1
  have hall : AllP (wayR most of kn r y0.i) (fun s _ => (∀ a ∈ s, RkFit g [] [⟨false, r.l⟩] a) ∧ s.length + 100 ≤ 1000000000) (Lh.map (·.1)) (splC x M y0.j r.r y0.i) := by
    have h2 := splC_few (x := x) (M := M) (i := y0.i) (j := y0.j) (l := r.r) (by have := hy.2.2.2; omega) hok4.len
    exact ways_allP hok hm hr _ _ (fun L hL => (splC_le hL).1) hfit (by rw [List.length_map]; omega)
  exact splits_anyK W _ H ⟨v, Lh, rfl, h⟩ hall

set_option maxRecDepth 100000 in
set_option maxHeartbeats 3200000 in
/-- the first rows of a part from those of other parts -/
theorem again_any {g : Gram} {x : List Int} {M : List (List Nat)} {most : Nat} {of : MPart → List Rk} {F Fe : Nat → Prop} {w : World} {bb be bo : Nat} {av : Value} {hs : List (MPart × Hd)} {y : MPart} {A : Option Addr} {n c : Nat} {B : Option Addr} {m d : Nat} {C : Option Addr} {p q : Nat}
    (hof : BestAt F w bb be most bo av hs of) (hok : OfOk g most of) (hm : most ≤ 100) (hF : ∀ b, F b → b < w.heap.size) (hFe : ∀ b, Fe b → b < w.heap.size) (hv : Valid g) (hx : x.length ≤ 12) (hsh : MShape g x M) (hshort : Short x M) (hlow : MLow M) (hlen : g.rules.length = n) (hy : OkMP g x y) (hends : IsEnds Fe w be g x M A n c B m d C p q) :
    Calls Tryz.prog 27 #[.pointer (some ⟨bb, 0, none⟩), mpartV y] w fun e w' => ∃ A' c', e = .returned (.slice A' (againP g x M most of y).length c') ∧ (againP g x M most of y).length ≤ c' ∧ IsSl Elt.ranked (fun b => F b ∨ w.heap.size ≤ b) w' (.slice A' (againP g x M most of y).length c') (againP g x M most of y) ∧ Below w.heap.size w w' := by
  have hr4 : ∀ r ∈ g.rules, r.r.length ≤ 4 := fun r hr => (hv.ok r hr).len
  have hj12 : y.j ≤ 12 := by have := hy.2.2.2; omega
  generalize htot : rulesR x M most of y 0 g.rules [] = tot
  have htot0 : rulesR x M most of y 0 (g.rules.drop 0) [] = tot := by rw [List.drop_zero]; exact htot
  have HAG := Lib.hid (show againP g x M most of y = firstP most tot by unfold againP; rw [htot])
  have HTOT := Lib.hid htot0
  have hfits := rulesR_fit (x := x) (M := M) hok hm hr4 hj12 g.rules 0 [] (List.drop_zero ..) (by simp)
  rw [htot] at hfits
  have HFT := Lib.hid hfits
  clear htot htot0 hfits
  have HOF := Lib.hid hof
  have HOK := Lib.hid hok
  have HE := Lib.hid hends
  have HY := Lib.hid hy
  have hn32 : n ≤ 32 := by have := hv.len; omega
  have eb0 := blk_cell hof.blk (i := 0) rfl
  have ee3 := hends.c3
  clear hof hok hends hy
  have hb3 : Below w.heap.size w (((w.alloc (.cells #[.pointer (some ⟨bb, 0, none⟩)] 79)).alloc (.cells #[.int .i64 y.n, .int .i64 y.i, .int .i64 y.j] 78)).alloc (.cells #[.slice none 0 0] 86)) := below3 w _ _ _
  have g0 := blk_new2 (w := w) rfl (.cells #[.pointer (some ⟨bb, 0, none⟩)] 79) (.cells #[.int .i64 y.n, .int .i64 y.i, .int .i64 y.j] 78) (.cells #[.slice none 0 0] 86)
  have g1 := blk_new1 (w := w.alloc (.cells #[.pointer (some ⟨bb, 0, none⟩)] 79)) (a := w.heap.size + 1) (by rw [World.size_alloc]) (.cells #[.int .i64 y.n, .int .i64 y.i, .int .i64 y.j] 78) (.cells #[.slice none 0 0] 86)
  have g2 := blk_new' (w := (w.alloc (.cells #[.pointer (some ⟨bb, 0, none⟩)] 79)).alloc (.cells #[.int .i64 y.n, .int .i64 y.i, .int .i64 y.j] 78)) (a := w.heap.size + 1 + 1) (by rw [World.size_alloc, World.size_alloc]) (.cells #[.slice none 0 0] 86)
  have eb0' := cell_lift hb3 eb0
  have ee3' := cell_lift hb3 ee3
  have ep := blk_cell g0 (i := 0) rfl
  unfold mpartV
  go_enter Tryz.func27, Tryz.ntmps27
  go_wp2_with fail
  generalize ((w.alloc (.cells #[.pointer (some ⟨bb, 0, none⟩)] 79)).alloc (.cells #[.int .i64 y.n, .int .i64 y.i, .int .i64 y.j] 78)).alloc (.cells #[.slice none 0 0] 86) = W3 at hb3 g0 g1 g2 eb0' ee3' ep ⊢
  clear eb0 ee3 eb0' ee3' ep
  go_loopg [17] n (fun gk i wr => ∃ (k : Nat) (v : Value) (L : List (Rk × RH)) (s : List Rk), k ≤ n ∧ gk = n - k ∧ i = .int .i64 k ∧ L.map (·.1) = s ∧ Below w.heap.size w wr ∧ wr.heap[w.heap.size]? = some (.cells #[.pointer (some ⟨bb, 0, none⟩)] 79 (0, 0)) ∧ wr.heap[w.heap.size + 1]? = some (.cells #[.int .i64 y.n, .int .i64 y.i, .int .i64 y.j] 78 (0, 0)) ∧ wr.heap[w.heap.size + 1 + 1]? = some (.cells #[v] 86 (0, 0)) ∧ OwnG wr w.heap.size (fun b => (F b ∨ w.heap.size ≤ b) ∧ b ≠ w.heap.size + 1 + 1) v L ∧ (∀ a ∈ s, RkFit g [] [⟨false, y.n⟩] a) ∧ s.length ≤ k * 2856100 ∧ rulesR x M most of y k (g.rules.drop k) s = tot)
  case atStart => exact ⟨0, _, [], [], Nat.zero_le _, rfl, rfl, rfl, hb3, g0, g1, g2, OwnG.nil _ _ _, by simp, by simp, HTOT.out⟩
  case round =>
    clear hb3 g0 g1 g2 HTOT
    obtain ⟨k, v, L, s, hk, rfl, rfl, hs0, hB, g0, g1, g2, hO, hfit, hsl, htot⟩ := hrel
    obtain ⟨wo, rfl⟩ : ∃ wo : World, wo = wr := ⟨_, rfl⟩
    subst hs0
    have hwo := hB.size
    by_cases hlt : k < n
    · have hkl : k < g.rules.length := by omega
      have hEo := ends_keep HE.out (fun b hb hl => hB.block b (hFe b hb)) hB.size
      obtain ⟨b5, o5, hA, hF5, hl5, hc1, A', c', hc2, hsy⟩ := hEo.rules.ruleAt k hkl
      subst hA
      have hget := List.getElem?_eq_getElem hkl
      rw [List.drop_eq_getElem_cons hkl] at htot
      unfold rulesR at htot
      have hrf := ruleR_fit (x := x) (M := M) HOK.out hm hget (hr4 _ (List.getElem_mem hkl)) (y := y) hj12 hfit
      generalize g.rules[k] = r at hc1 hc2 hsy htot hget hrf
      have hbB := below2 wo (.cells #[.int .i64 k] 3) (.cells #[.int .i64 r.l, .slice A' r.r.length c'] 99)
      have gn := blk_new1 (w := wo) rfl (.cells #[.int .i64 k] 3) (.cells #[.int .i64 r.l, .slice A' r.r.length c'] 99)
      have gr := blk_new' (w := wo.alloc (.cells #[.int .i64 k] 3)) (a := wo.heap.size + 1) (by rw [World.size_alloc]) (.cells #[.int .i64 r.l, .slice A' r.r.length c'] 99)
      have hkz : (k : Int) < (n : Int) := by omega
      have h0 := blk_below hbB (blk_lt g0) g0
      have h1 := blk_below hbB (blk_lt g1) g1
      have h2 := blk_below hbB (blk_lt g2) g2
      have hO2 := hO.below hbB
      have hB2 := hB.trans (hbB.mono hwo)
      have u1 := blk_cell h1 (i := 0) rfl
      by_cases hlf : r.l = y.n
      · have hlz : (r.l != y.n) = false := by simp [hlf]
        have hr0 : ruleR x M most of y k r (L.map (·.1)) = (splC x M y.j r.r y.i).foldl (wayR most of k r y.i) (L.map (·.1)) := by unfold ruleR; rw [if_pos hlf]
        rw [hr0] at htot hrf
        have hLl : L.length ≤ k * 2856100 := by rw [List.length_map] at hsl; exact hsl
        obtain ⟨W5, hW5⟩ : ∃ W5 : World, W5 = ((wo.alloc (.cells #[.int .i64 k] 3)).alloc (.cells #[.int .i64 r.l, .slice A' r.r.length c'] 99)) := ⟨_, rfl⟩
        rw [← hW5] at hbB gn gr h0 h1 h2 hO2 hB2 u1
        have hbd : Below W5.heap.size W5 W5.drew := (Below.refl _ _).drew
        have hs5 := blk_lt gr
        have hag : AgAt (fun b => Fe b ∧ b < W5.drew.heap.size) F w W5.drew.heap.size W5.drew ⟨wo.heap.size, w.heap.size + 1, wo.heap.size + 1, w.heap.size, w.heap.size + 1 + 1⟩ bb y k r A' c' v L :=
          ⟨hB2.trans (hbd.mono hB2.size), by show w.heap.size ≤ w.heap.size + 1 + 1; omega, hB2.size, blk_lt gn, blk_lt h1, blk_lt gr, blk_lt h0, gn, h1, gr, h0, h2, (hO2.below hbd).keep (Nat.le_refl _) (fun _ _ => rfl) fun b hb _ => ⟨⟨hb.1, fun e => by have := e.1.2; omega, hb.2⟩, rfl⟩, fun e => by have := hFe _ e.1; simp only at this; omega, fun b hb e => by have := hFe b e.1; have := own_base' hO2.own b hb; omega⟩
        have hLb : L.length + 2856100 ≤ 1000000000 := by
          have h31 : k ≤ 31 := by omega
          have := Nat.mul_le_mul_right 2856100 h31
          omega
        have hbwd := hbB.trans (hbd.mono hbB.size)
        have hsp : Calls Tryz.prog 42 #[.pointer (some ⟨be, 0, none⟩), .slice A' r.r.length c', .int .i64 y.i, .int .i64 y.j, .func (.func 47) #[] #[.pointer (some ⟨wo.heap.size, 0, none⟩), .pointer (some ⟨w.heap.size + 1, 0, none⟩), .pointer (some ⟨wo.heap.size + 1, 0, none⟩), .pointer (some ⟨w.heap.size, 0, none⟩), .pointer (some ⟨w.heap.size + 1 + 1, 0, none⟩)]] W5.drew fun e w' => e = .returned (.tuple #[]) ∧ ∃ v' L', L'.map (·.1) = (splC x M y.j r.r y.i).foldl (wayR most of k r y.i) (L.map (·.1)) ∧ AgAt (fun b => Fe b ∧ b < W5.drew.heap.size) F w W5.drew.heap.size w' ⟨wo.heap.size, w.heap.size + 1, wo.heap.size + 1, w.heap.size, w.heap.size + 1 + 1⟩ bb y k r A' c' v' L' :=
          sp_again (x := x) (M := M) HOF.out HOK.out hm hF hv hx hsh hshort hlow hget HY.out (by rw [hlf]; exact hfit) hLb hag (ends_keep hEo (fun b hb hl => hbwd.block b hl) hbwd.size) (hsy.below hbwd)
        have HSP := Lib.hid hsp
        have HT := Lib.hid htot
        have HRF := Lib.hid hrf
        have r1 := cell_lift hB2 (blk_cell HOF.out.blk (i := 0) rfl)
        have r2 := blk_cell gr (i := 1) rfl
        have r3 := blk_cell h1 (i := 1) rfl
        have r4 := blk_cell h1 (i := 2) rfl
        have r5 := blk_cell h0 (i := 0) rfl
        clear hsp htot hrf hr0 hlf hag hO hO2 hfit hsl hsy hEo gn gr h0 h1 h2 hget hs5
        have u2 := u1
        rw [hW5] at u2
        go_wp2_with fail
        rw [← hW5]
        clear hc1 hc2 u2 hW5
        refine wp_region_any (by kernel_rfl) ?_
        change wpAny _ _ _ _ _ _ _ (World.drew _)
        refine wpAny_take (i := 4) (v := ?_) rfl (by kernel_rfl) (by kernel_rfl) (by kernel_rfl) (fun _ _ _ h => h) (Or.inl ⟨by rfl, ?_⟩) ?_
        rotate_left
        · (intro w'; go_simp; first | done | with_reducible rfl)
        refine wpAny_take (i := 6) (v := ?_) rfl (by kernel_rfl) (by kernel_rfl) (by kernel_rfl) (fun _ _ _ h => h) (Or.inl ⟨by rfl, ?_⟩) ?_
        rotate_left
        · (intro w'; go_simp; first | done | with_reducible rfl)
        refine wpAny_take (i := 8) (v := ?_) rfl (by kernel_rfl) (by kernel_rfl) (by kernel_rfl) (fun _ _ _ h => h) (Or.inl ⟨by rfl, ?_⟩) ?_
        rotate_left
        · (intro w'; go_simp; first | done | with_reducible rfl)
        refine wpAny_take (i := 10) (v := ?_) rfl (by kernel_rfl) (by kernel_rfl) (by kernel_rfl) (fun _ _ _ h => h) (Or.inl ⟨by rfl, ?_⟩) ?_
        rotate_left
        · (intro w'; go_simp; first | done | with_reducible rfl)
        refine wpAny_of_D (S := fun w' => w' = W5.drew) (dep := 11) _ _ _ _ ?_
        refine wpAnyD_load (i := 0) (v := .pointer (some ⟨bb, 0, none⟩)) [1, 2, 3, 11] rfl (by kernel_rfl) (by kernel_rfl) (by kernel_rfl) (by kernel_rfl) (by kernel_rfl) (by kernel_rfl) (by kernel_rfl) (fun _ _ _ h => h) (by rfl) ?_ rfl ?_
        · (intro w' hS; subst hS; go_simp)
        refine wpAnyD_pure (i := 1) (v := ?_) [2, 3, 11] rfl (by kernel_rfl) (by kernel_rfl) (by kernel_rfl) (by kernel_rfl) (by kernel_rfl) (by kernel_rfl) (by kernel_rfl) (fun _ _ _ h => h) (by rfl) ?_ rfl ?_
        rotate_left
        · (intro w'; go_simp; first | done | with_reducible rfl)
        refine wpAnyD_pure (i := 2) (v := ?_) [3, 11] rfl (by kernel_rfl) (by kernel_rfl) (by kernel_rfl) (by kernel_rfl) (by kernel_rfl) (by kernel_rfl) (by kernel_rfl) (fun _ _ _ h => h) (by rfl) ?_ rfl ?_
        rotate_left
        · (intro w'; go_simp; first | done | with_reducible rfl)
        refine wpAnyD_load (i := 3) (v := .pointer (some ⟨be, 0, none⟩)) [11] rfl (by kernel_rfl) (by kernel_rfl) (by kernel_rfl) (by kernel_rfl) (by kernel_rfl) (by kernel_rfl) (by kernel_rfl) (fun _ _ _ h => h) (by rfl) ?_ rfl ?_
        · (intro w' hS; subst hS; go_simp)
        refine wpAnyD_load (i := 5) (v := .slice A' r.r.length c') [11] rfl (by kernel_rfl) (by kernel_rfl) (by kernel_rfl) (by kernel_rfl) (by kernel_rfl) (by kernel_rfl) (by kernel_rfl) (fun _ _ _ h => h) (by rfl) ?_ rfl ?_
        · (intro w' hS; subst hS; go_simp)
        refine wpAnyD_load (i := 7) (v := .int .i64 y.i) [11] rfl (by kernel_rfl) (by kernel_rfl) (by kernel_rfl) (by kernel_rfl) (by kernel_rfl) (by kernel_rfl) (by kernel_rfl) (fun _ _ _ h => h) (by rfl) ?_ rfl ?_
        · (intro w' hS; subst hS; go_simp)
        refine wpAnyD_load (i := 9) (v := .int .i64 y.j) [11] rfl (by kernel_rfl) (by kernel_rfl) (by kernel_rfl) (by kernel_rfl) (by kernel_rfl) (by kernel_rfl) (by kernel_rfl) (fun _ _ _ h => h) (by rfl) ?_ rfl ?_
        · (intro w' hS; subst hS; go_simp)
        refine wpAnyD_each (rs := [11]) (by kernel_rfl) (by simp) ?_
        refine EachD.cons rfl (fun K hK => ?_) EachD.nil
        simp only [List.getElem_toArray, List.getElem_cons_succ, List.getElem_cons_zero]
        refine step_call rfl 42 Tryz.f42 Tryz.func42 (by kernel_rfl) (by kernel_rfl) [.tmp 30, .tmp 32, .tmp 34, .tmp 36, .tmp 37] #[66, 97, 3, 3, 123] (by rfl) [.pointer (some ⟨be, 0, none⟩), .slice A' r.r.length c', .int .i64 y.i, .int .i64 y.j, .func (.func 47) #[] #[.pointer (some ⟨wo.heap.size, 0, none⟩), .pointer (some ⟨w.heap.size + 1, 0, none⟩), .pointer (some ⟨wo.heap.size + 1, 0, none⟩), .pointer (some ⟨w.heap.size, 0, none⟩), .pointer (some ⟨w.heap.size + 1 + 1, 0, none⟩)]] (by kernel_rfl) _ HSP.out ?_
        rintro e5 w5 ⟨rfl, v5, L5, hL5, hag5⟩
        refine ⟨_, rfl, ?_⟩
        try go_simp
        refine hK _ _ (fun e => Bool.noConfusion (show true = false from e)) ?_
        clear hK K
        refine wpAnyD_of _ _ _ _ (by kernel_rfl) ?_
        refine wpAny_done (by kernel_rfl) ?_ _
        have HL5 := Lib.hid hL5
        have HAG5 := Lib.hid hag5
        clear hL5 hag5
        go_wp2_with fail
        go_roundg (n - (k + 1))
        case measure => omega
        case rel => exact ⟨k + 1, v5, L5, _, by omega, rfl, by go_num, HL5.out, HAG5.out.below, HAG5.out.hp, HAG5.out.hx, HAG5.out.ha, HAG5.out.row.keep (Nat.le_refl _) (fun _ _ => rfl) fun b hb _ => ⟨⟨hb.1, hb.2.2⟩, rfl⟩, HRF.out.1, by have := HRF.out.2; rw [List.length_map] at this; omega, HT.out⟩
      · have hlz : (r.l != y.n) = true := by simp [hlf]
        have hr0 : ruleR x M most of y k r (L.map (·.1)) = L.map (·.1) := by unfold ruleR; rw [if_neg hlf]
        rw [hr0] at htot
        have HT := Lib.hid htot
        have HFI := Lib.hid hfit
        have HO2 := Lib.hid hO2
        have HSL := Lib.hid (Nat.le_trans hsl (Nat.mul_le_mul_right 2856100 (Nat.le_succ k)))
        clear hsl htot hr0 hlf hfit hO hO2 hrf hsy hEo gn gr hget
        go_wp2_with fail
        go_roundg (n - (k + 1))
        case measure => omega
        case rel => exact ⟨k + 1, v, L, _, by omega, rfl, by go_num, rfl, hB2, h0, h1, h2, HO2.out, HFI.out, HSL.out, HT.out⟩
    · obtain rfl : k = n := by omega
      rw [List.drop_eq_nil_of_le (by omega)] at htot
      unfold rulesR at htot
      have hbbw := blk_lt HOF.out.blk
      have hm1 := cell_lift hB (blk_cell HOF.out.blk (i := 1) rfl)
      have hLl : L.length ≤ 1000000000 := by
        rw [List.length_map] at hsl
        have := Nat.mul_le_mul_right 2856100 hn32
        omega
      have hfi := first_any wo w.heap.size bb most v _ (fun b hb => hb.2) L hO.good (RkFit.key hfit) hLl hO.own hbbw hm1 (by omega)
      rw [htot] at hfi
      have HFI := Lib.hid hfi
      have HB := Lib.hid hB
      have HOB := Lib.hid (fun j => own_base' hO.own j)
      obtain ⟨Av, cv, rfl⟩ := own_form hO.own
      have r5 := blk_cell g0 (i := 0) rfl
      have r6 := blk_cell g2 (i := 0) rfl
      clear hfi htot hO hLl hB hfit hsl g0 g1 g2 hm1
      go_wp2_with fail
      refine HFI.out.mono ?_
      rintro e8 w8 ⟨A8, n8, c8, rfl, hn8, hc8, hs8, ha8⟩
      rw [← HAG.out] at hn8 hs8
      have hfin : IsSl Elt.ranked (fun b => F b ∨ w.heap.size ≤ b) w8 (.slice A8 (againP g x M most of y).length c8) (againP g x M most of y) := by
        rw [← hn8]
        refine hs8.weak fun b hb => ?_
        rcases hb with hb | hb
        · exact .inr (HOB.out b hb)
        · exact hb.1.1.1
      have hbel : Below w.heap.size w w8 := ((Away.ofBelow (F := fun _ => False) HB.out).trans (ha8.mono HB.out.size fun j hj h => by have := HOB.out j h; omega)).below fun _ _ h => h
      have hc9 : (againP g x M most of y).length ≤ c8 := by rw [← hn8]; exact hc8
      have HF := Lib.hid hfin
      have HN8 := Lib.hid hn8
      clear hs8 hn8 hfin
      go_wp2_with fail
      go_ret
      exact ⟨A8, c8, congrArg (fun n => Ending.returned (Value.slice A8 n c8)) HN8.out, hc9, HF.out, hbel⟩
end Go.Proofs.YtdbkbkopcnkgcaaGreat
