import Derived.Test.YtdbkbkopcnkgcaaGreatMeanK
import Derived.Test.YtdbkbkopcnkgcaaGreatFeedB
import Derived.Test.YtdbkbkopcnkgcaaGreatWoodWd
open Go Go.RowKit
open Go.ChangeMaps (setBlock)
namespace Go.Proofs.YtdbkbkopcnkgcaaGreat

/-! ### mean.counter in memory -/
def mpartV (y : MPart) : Value := .agg #[.int .i64 y.n, .int .i64 y.i, .int .i64 y.j]
theorem Tryz.fieldsMpart : Tryz.prog.fieldsOf 78 = #[{ name := "n", type := 3, offset := 0, embedded := false, tag := "", pkgPath := "parlance/mean", byteOffset := 0 }, { name := "i", type := 3, offset := 1, embedded := false, tag := "", pkgPath := "parlance/mean", byteOffset := 8 }, { name := "j", type := 3, offset := 2, embedded := false, tag := "", pkgPath := "parlance/mean", byteOffset := 16 }] := by
  simp only [Program.fieldsOf, Tryz.underlying78]
theorem Tryz.eqMp (a b c a' b' c' : Int) (w : World) : (Op.equal 78 (.agg #[.int .i64 a, .int .i64 b, .int .i64 c]) (.agg #[.int .i64 a', .int .i64 b', .int .i64 c'])).run Tryz.prog w = .ok (decide (a = a' ∧ b = b' ∧ c = c')) w := by
  unfold Op.equal Op.maxDepth
  rw [run_equalIn_struct (P := Tryz.prog) w 9999 78 _ _ (by rw [Tryz.fieldsMpart]; exact Tryz.underlying78) (by kernel_rfl), Tryz.fieldsMpart]
  by_cases h1 : a = a' <;> by_cases h2 : b = b' <;> by_cases h3 : c = c' <;> simp [Op.eqFields, h1, h2, h3, go_sem]
theorem Tryz.chkMp (b : Bool) (n : Nat) (x y z : Int) (w : World) : (Instr.checkKey b (n + 1 + 1) 78 (.agg #[.int .i64 x, .int .i64 y, .int .i64 z])).run Tryz.prog w = .ok () w := by
  rw [Instr.checkKey]
  simp [run_underlying Tryz.underlying78, Tryz.chkInt, go_sem]
theorem Tryz.mpartKey : MKey Tryz.prog 78 mpartV where
  eq a b w := by
    unfold mpartV
    rw [Tryz.eqMp]
    obtain ⟨a1, a2, a3⟩ := a
    obtain ⟨b1, b2, b3⟩ := b
    have h : (a1 = b1 ∧ (a2 : Int) = b2 ∧ (a3 : Int) = b3) ↔ (⟨a1, a2, a3⟩ : MPart) = ⟨b1, b2, b3⟩ := by simp only [MPart.mk.injEq]; omega
    exact congrArg (fun b => Result.ok b w) (decide_eq_decide.2 h)
  chk e a w := Tryz.chkMp e 9998 _ _ _ w
  bits a := bits3 9999 _ _ _
  und := ⟨_, Tryz.underlying78, fun a b => by simp [Instr.sameNow]⟩

/-- the counter -/
structure CtAt (w : World) (bc rd ro be : Nat) (s : CM) : Prop where
  blk : w.heap[bc]? = some (.cells #[.pointer (some ⟨be, 0, none⟩), .map (some rd), .map (some ro)] 75 (0, 0))
  done : IsMap mpartV (Value.int .i64) w rd s.done
  op : IsMap mpartV Value.bool w ro s.op
  ne : rd ≠ ro
theorem CtAt.below {w w' : World} {bc rd ro be : Nat} {s : CM} (h : CtAt w bc rd ro be s) (hb : Below w.heap.size w w') : CtAt w' bc rd ro be s := ⟨blk_below hb (blk_lt h.blk) h.blk, h.done.below hb, h.op.below hb, h.ne⟩
/-- a write into a block of cells that is not the counter's own -/
theorem map_set {κ ν : Type} {enc : κ → Value} {vn : ν → Value} {w : World} {r b i : Nat} {v : Value} {l : List (κ × ν)} (h : IsMap enc vn w r l) (hb : b ≠ r) : IsMap enc vn (w.setCell ⟨b, i, none⟩ v) r l := h.same (heap_set_ne (fun e => hb e.symm) _ _)
theorem CtAt.set {w : World} {bc rd ro be b i : Nat} {v : Value} {s : CM} (h : CtAt w bc rd ro be s) (h1 : b ≠ bc) (h2 : b ≠ rd) (h3 : b ≠ ro) : CtAt (w.setCell ⟨b, i, none⟩ v) bc rd ro be s :=
  ⟨by rw [heap_set_ne (fun e => h1 e.symm)]; exact h.blk, map_set h.done h2, map_set h.op h3, h.ne⟩

set_option maxRecDepth 100000 in
set_option maxHeartbeats 800000 in
/-- a part that is counted already, or that is being counted -/
theorem count_known {w : World} {bc rd ro be : Nat} {s : CM} (h : CtAt w bc rd ro be s) (y : MPart) (v : Int) (hk : alook s.done y = some v ∨ (alook s.done y = none ∧ (alook s.op y).getD false = true ∧ v = -1)) :
    Calls Tryz.prog 24 #[.pointer (some ⟨bc, 0, none⟩), mpartV y] w fun e w' => e = .returned (.int .i64 v) ∧ Below w.heap.size w w' := by
  have hb2 := below2 w (.cells #[.pointer (some ⟨bc, 0, none⟩)] 71) (.cells #[.int .i64 y.n, .int .i64 y.i, .int .i64 y.j] 78)
  have g0 := blk_new1 (w := w) rfl (.cells #[.pointer (some ⟨bc, 0, none⟩)] 71) (.cells #[.int .i64 y.n, .int .i64 y.i, .int .i64 y.j] 78)
  have g1 := blk_new' (w := w.alloc (.cells #[.pointer (some ⟨bc, 0, none⟩)] 71)) (a := w.heap.size + 1) (by rw [World.size_alloc]) (.cells #[.int .i64 y.n, .int .i64 y.i, .int .i64 y.j] 78)
  have h2 := h.below hb2
  have hlD : ∀ P : Behind ((w.alloc (.cells #[.pointer (some ⟨bc, 0, none⟩)] 71)).alloc (.cells #[.int .i64 y.n, .int .i64 y.i, .int .i64 y.j] 78)), (Instr.lookup 72 (.map (some rd)) (mpartV y) true).run Tryz.prog P.w' = .ok (.tuple #[((alook s.done y).map (Value.int .i64)).getD (.int .i64 0), .bool (alook s.done y).isSome]) P.w' := fun P => run_look_ok Tryz.mpartKey Tryz.underlying72 Tryz.zeroInt (h2.done.below P.h) y
  have hlO : ∀ P : Behind ((w.alloc (.cells #[.pointer (some ⟨bc, 0, none⟩)] 71)).alloc (.cells #[.int .i64 y.n, .int .i64 y.i, .int .i64 y.j] 78)), (Instr.lookup 73 (.map (some ro)) (mpartV y) false).run Tryz.prog P.w' = .ok (((alook s.op y).map Value.bool).getD (.bool false)) P.w' := fun P => run_look Tryz.mpartKey Tryz.underlying73 Tryz.zeroBool (h2.op.below P.h) y
  have e0 := cell_behind (blk_cell g0 (i := 0) rfl)
  have e1 := cell_behind (blk_cell g1 (i := 0) rfl)
  have e2 := cell_behind (blk_cell g1 (i := 1) rfl)
  have e3 := cell_behind (blk_cell g1 (i := 2) rfl)
  have e4 := cell_behind (blk_cell h2.blk (i := 1) rfl)
  have e5 := cell_behind (blk_cell h2.blk (i := 2) rfl)
  unfold mpartV at hlD hlO ⊢
  rcases hk with hk | ⟨hk, hk2, rfl⟩
  · rw [hk] at hlD
    simp only [Option.map_some, Option.getD_some, Option.isSome_some] at hlD
    clear hk hlO
    go_enter Tryz.func24, Tryz.ntmps24
    go_wp2_with fail
    refine wp_region_behind (by kernel_rfl) (by kernel_rfl) ?_
    repeat (go_big_quiet_step (fail))
    refine wpQuiet_nil ?_
    intro _ hw'
    obtain ⟨P2, hw''⟩ := hw'
    subst hw''
    have hbP := P2.h
    clear hlD e0 e1 e2 e3 e4 e5
    generalize P2.w' = W3 at hbP ⊢
    go_wp2_with fail
    go_ret
    exact ⟨rfl, hb2.trans (hbP.mono hb2.size)⟩
  · have hop : (((alook s.op y).map Value.bool).getD (.bool false)) = .bool true := by
      cases ho : alook s.op y with
      | none => rw [ho] at hk2; cases hk2
      | some b => rw [ho] at hk2; simp only [Option.getD_some] at hk2; rw [hk2]; rfl
    rw [hk] at hlD
    simp only [Option.map_none, Option.getD_none, Option.isSome_none] at hlD
    have HOP := Lib.hid hop
    clear hk hk2 hop
    go_enter Tryz.func24, Tryz.ntmps24
    go_wp2_with fail
    refine wp_region_behind (by kernel_rfl) (by kernel_rfl) ?_
    repeat (go_big_quiet_step (fail))
    refine wpQuiet_nil ?_
    intro _ hw'
    obtain ⟨P2, hw''⟩ := hw'
    subst hw''
    have hbP := P2.h
    have h3 := h2.below hbP
    have q0 := cell_behind (e0 P2)
    have q1 := cell_behind (e1 P2)
    have q2 := cell_behind (e2 P2)
    have q3 := cell_behind (e3 P2)
    have q5 := cell_behind (e5 P2)
    clear hlD hlO e0 e1 e2 e3 e4 e5
    generalize P2.w' = W3 at hbP h3 q0 q1 q2 q3 q5 ⊢
    have hlO : ∀ P : Behind W3, (Instr.lookup 73 (.map (some ro)) (mpartV y) false).run Tryz.prog P.w' = .ok (.bool true) P.w' := fun P => by
      have := run_look (P := Tryz.prog) Tryz.mpartKey Tryz.underlying73 Tryz.zeroBool (h3.op.below P.h) y
      rw [HOP.out] at this
      exact this
    unfold mpartV at hlO
    go_wp2_with fail
    refine wp_region_behind (by kernel_rfl) (by kernel_rfl) ?_
    repeat (go_big_quiet_step (fail))
    refine wpQuiet_nil ?_
    intro _ hw'
    obtain ⟨P4, hw''⟩ := hw'
    subst hw''
    have hbP4 := P4.h
    clear hlO q0 q1 q2 q3 q5
    generalize P4.w' = W4 at hbP4 ⊢
    go_wp2_with fail
    go_ret
    exact ⟨rfl, hb2.trans ((hbP.trans (hbP4.mono hbP.size)).mono hb2.size)⟩
end Go.Proofs.YtdbkbkopcnkgcaaGreat

open Go Go.RowKit
open Go.ChangeMaps (setBlock)
namespace Go.Proofs.YtdbkbkopcnkgcaaGreat

/-- what count$1 finds: the sum, the part, the rule, the counter -/
structure CbAt (Env : World → Prop) (g : Gram) (x : List Int) (lim : Nat) (W : World) (bc rd ro be bx rr bcx bs : Nat) (y0 : MPart) (r : Rule) (R : Option Addr) (rc : Nat) (s : Int × CM) : Prop where
  ct : CtAt W bc rd ro be s.2
  sum : W.heap[bs]? = some (.cells #[.int .i64 s.1] 3 (0, 0))
  part : W.heap[bx]? = some (.cells #[.int .i64 y0.n, .int .i64 y0.i, .int .i64 y0.j] 78 (0, 0))
  rule : W.heap[rr]? = some (.cells #[.int .i64 r.l, .slice R r.r.length rc] 99 (0, 0))
  ptr : W.heap[bcx]? = some (.cells #[.pointer (some ⟨bc, 0, none⟩)] 71 (0, 0))
  env : Env W
  num : CntV s.1
  ok : CMOk g x s.2
  room : lim ≤ s.2.op.length

/-- the contract of count, at the fuel that is left -/
def CountH (Env : World → Prop) (g : Gram) (x : List Int) (F : MPart → CM → Int × CM) (lim bc rd ro be : Nat) : Prop := ∀ (y : MPart) (s : CM) (W : World), OkMP g x y → CMOk g x s → lim ≤ s.op.length → Env W → CtAt W bc rd ro be s →
  Calls Tryz.prog 24 #[.pointer (some ⟨bc, 0, none⟩), mpartV y] W fun e w' => e = .returned (.int .i64 (F y s).1) ∧ CtAt w' bc rd ro be (F y s).2 ∧ Away W.heap.size (fun b => b = rd ∨ b = ro) W w'

theorem map_ne {κ ν : Type} {enc : κ → Value} {vn : ν → Value} {w : World} {b r : Nat} {l : List (κ × ν)} {cs : Array Value} {T : TypeId} {fr : Nat × Nat} (h : IsMap enc vn w r l) (hb : w.heap[b]? = some (.cells cs T fr)) : b ≠ r := fun e => by
  obtain ⟨es, clock, h1, _⟩ := h
  subst e
  rw [hb] at h1
  cases h1
theorem CbAt.away {Env : World → Prop} {g : Gram} {x : List Int} {lim lo : Nat} {W w' : World} {bc rd ro be bx rr bcx bs : Nat} {y0 : MPart} {r : Rule} {R : Option Addr} {rc : Nat} {s : Int × CM} {st : CM} (h : CbAt Env g x lim W bc rd ro be bx rr bcx bs y0 r R rc s)
    (hE : ∀ W w', Env W → lo ≤ W.heap.size → Away lo (fun b => b = rd ∨ b = ro) W w' → Env w') (hlo : lo ≤ bs) (ha : Away W.heap.size (fun b => b = rd ∨ b = ro) W w') (hct : CtAt w' bc rd ro be st) (hok : CMOk g x st) (hroom : lim ≤ st.op.length) : CbAt Env g x lim w' bc rd ro be bx rr bcx bs y0 r R rc (s.1, st) := by
  have hb : ∀ {b : Nat} {cs : Array Value} {T : TypeId} {fr : Nat × Nat}, W.heap[b]? = some (.cells cs T fr) → w'.heap[b]? = some (.cells cs T fr) := fun h1 => (ha.block _ (blk_lt h1) (by rintro (e | e); exact map_ne h.ct.done h1 e; exact map_ne h.ct.op h1 e)).trans h1
  have hs := blk_lt h.sum
  exact ⟨hct, hb h.sum, hb h.part, hb h.rule, hb h.ptr, hE W w' h.env (by omega) (ha.mono (by omega) fun _ _ h => h), h.num, hok, hroom⟩
theorem CbAt.below {Env : World → Prop} {g : Gram} {x : List Int} {lim lo : Nat} {W w' : World} {bc rd ro be bx rr bcx bs : Nat} {y0 : MPart} {r : Rule} {R : Option Addr} {rc : Nat} {s : Int × CM} (h : CbAt Env g x lim W bc rd ro be bx rr bcx bs y0 r R rc s)
    (hE : ∀ W w', Env W → lo ≤ W.heap.size → Away lo (fun b => b = rd ∨ b = ro) W w' → Env w') (hlo : lo ≤ bs) (hb : Below W.heap.size W w') : CbAt Env g x lim w' bc rd ro be bx rr bcx bs y0 r R rc s :=
  h.away (st := s.2) hE hlo (Away.ofBelow hb) (h.ct.below hb) h.ok h.room

set_option maxRecDepth 100000 in
set_option maxHeartbeats 1600000 in
theorem cb_any {Env : World → Prop} {g : Gram} {x : List Int} {F : MPart → CM → Int × CM} {lim bc rd ro be bx rr bcx bs : Nat} {y0 : MPart} {r : Rule} {R : Option Addr} {rc lo : Nat} {Fs : Nat → Prop} (hC : CountH Env g x F lim bc rd ro be) (hF : GoodF g x F) (hv : Valid g) (hr : r ∈ g.rules) (hy0 : OkMP g x y0)
    (hE : ∀ W w', Env W → lo ≤ W.heap.size → Away lo (fun b => b = rd ∨ b = ro) W w' → Env w') (hFs : ∀ b, Fs b → b ≠ rd ∧ b ≠ ro ∧ b ≠ bs) (hlo : lo ≤ bs)
    (s : Int × CM) (W : World) (L : List Nat) (b : Nat) (hL : L.length = r.r.length) (hL2 : ∀ z ∈ L, z ≤ x.length) (h : CbAt Env g x lim W bc rd ro be bx rr bcx bs y0 r R rc s) (hb : W.heap[b]? = some (.cells (L.map fun v : Nat => Value.int .i64 v).toArray 3 (0, 0))) (hsy : IsSl Elt.sym Fs W (.slice R r.r.length rc) r.r) :
    Calls Tryz.prog 43 #[.slice (some ⟨b, 0, none⟩) r.r.length r.r.length, .pointer (some ⟨bx, 0, none⟩), .pointer (some ⟨rr, 0, none⟩), .pointer (some ⟨bcx, 0, none⟩), .pointer (some ⟨bs, 0, none⟩)] W fun e w' => e = .returned (.tuple #[]) ∧ CbAt Env g x lim w' bc rd ro be bx rr bcx bs y0 r R rc (wayM F r y0.i s L) ∧ Away W.heap.size (fun b => b = rd ∨ b = ro ∨ b = bs) W w' := by
  have c1 := blk_cell h.part (i := 1) rfl
  have c2 := blk_cell h.rule (i := 1) rfl
  have hln := (hv.ok r hr).len
  go_enter Tryz.func43, Tryz.ntmps43
  go_wp2_with fail
  go_region
  have h1 := h.below hE hlo (Below.refl W.heap.size W).drew
  have hb1 : W.drew.heap[b]? = _ := hb
  have hsy1 := hsy.below (Below.refl W.heap.size W).drew
  have ha1 : Away W.heap.size (fun b => b = rd ∨ b = ro ∨ b = bs) W W.drew := Away.ofBelow (Below.refl _ _).drew
  clear c1 c2
  generalize W.drew = W1 at h1 hb1 hsy1 ha1 ⊢
  generalize hfin : prodM F r.r L y0.i (1, s.2) = fin
  have HFIN := Lib.hid hfin
  have HWAY := Lib.hid (show wayM F r y0.i s L = (addC s.1 fin.1, fin.2) by unfold wayM; rw [hfin])
  clear hfin
  have hi0 := hy0.2.2.1
  have hone : CntV 1 := by unfold CntV maxCount; omega
  have HH := Lib.hid h1
  have HONE := Lib.hid hone
  have c2 := blk_cell h1.rule (i := 1) rfl
  clear hone h1
  go_wp2_with fail
  clear c2
  go_loopg [6, 7, 15] r.r.length (fun gk pv av i wr => ∃ (k a : Nat) (pr : Int) (st : CM), k ≤ r.r.length ∧ gk = r.r.length - k ∧ i = .int .i64 k ∧ pv = .int .i64 pr ∧ av = .int .i64 a ∧ a ≤ x.length ∧ CntV pr ∧ CbAt Env g x lim wr bc rd ro be bx rr bcx bs y0 r R rc (s.1, st) ∧ wr.heap[b]? = some (.cells (L.map fun v : Nat => Value.int .i64 v).toArray 3 (0, 0)) ∧ IsSl Elt.sym Fs wr (.slice R r.r.length rc) r.r ∧ Away W.heap.size (fun b => b = rd ∨ b = ro ∨ b = bs) W wr ∧ prodM F (r.r.drop k) (L.drop k) a (pr, st) = fin)
  case atStart => exact ⟨0, y0.i, 1, s.2, by omega, by omega, rfl, rfl, rfl, hi0, HONE.out, HH.out, hb1, hsy1, ha1, HFIN.out⟩
  case round =>
    clear hb1 hsy1 ha1 HH
    obtain ⟨k, a, pr, st, hk, rfl, rfl, rfl, rfl, ha, hpr, h2, hb2, hsy2, ha2, hp⟩ := hrel
    obtain ⟨wo, rfl⟩ : ∃ wo : World, wo = wr := ⟨_, rfl⟩
    by_cases hlt : k < r.r.length
    · obtain ⟨b5, o5, hA, hF5, hl5, d0, d1⟩ := hsy2.symAt k hlt
      subst hA
      have hkL : k < L.length := by omega
      rw [List.drop_eq_getElem_cons hlt, List.drop_eq_getElem_cons hkL] at hp
      unfold prodM at hp
      have hz := hL2 L[k] (List.getElem_mem hkL)
      have e8 : wo.cell? ⟨b, k, none⟩ = some (.int .i64 L[k]) := blk_cell hb2 (by rw [List.getElem?_toArray, List.getElem?_map, List.getElem?_eq_getElem hkL]; rfl)
      have hsk := (hv.ok r hr).syms r.r[k] (List.getElem_mem hlt)
      have hLz := List.getElem?_eq_getElem hkL
      generalize L[k] = z at hp hz e8 hLz
      generalize r.r[k] = y at hp d0 d1 hsk
      obtain ⟨yt, yn⟩ := y
      simp only at hp d0 d1
      have hkz : (k : Int) < (r.r.length : Int) := by omega
      have hbA := below1 wo (.cells #[.bool yt, .int .i64 yn] 70)
      have h3 := h2.below hE hlo hbA
      have hb3 := blk_below hbA (blk_lt hb2) hb2
      have hsy3 := hsy2.below hbA
      have ha3 : Away W.heap.size (fun b => b = rd ∨ b = ro ∨ b = bs) W (wo.alloc (.cells #[.bool yt, .int .i64 yn] 70)) := ha2.trans ((Away.ofBelow hbA).mono ha2.size fun _ _ h => h)
      have e9 : (wo.alloc (.cells #[.bool yt, .int .i64 yn] 70)).cell? ⟨b, k, none⟩ = some (.int .i64 z) := (hbA.cell (p := ⟨b, k, none⟩) (blk_lt hb2)).trans e8
      cases yt
      · rw [if_neg (by decide)] at hp
        have hyn := hsk.nn rfl
        have hfk := hF ⟨yn, a, z⟩ st ⟨hsk.n0, hyn, ha, hz⟩ h3.ok
        obtain ⟨f1, f2, f3⟩ := hfk
        have h4 := h3.below hE hlo (Below.refl _ _).drew
        have hcnt := hC ⟨yn, a, z⟩ st _ ⟨hsk.n0, hyn, ha, hz⟩ h4.ok h4.room h4.env h4.ct
        unfold mpartV at hcnt
        have hptr := blk_cell h3.ptr (i := 0) rfl
        have hyc := blk_cell (heap_alloc_new wo (.cells #[.bool false, .int .i64 yn] 70)) (i := 1) rfl
        have HP := Lib.hid hp
        have HPR := Lib.hid hpr
        have H4 := Lib.hid h4
        have HCNT := Lib.hid hcnt
        have HF1 := Lib.hid f1
        have HTM := Lib.hid (fun (w : World) => times_any pr (F ⟨yn, a, z⟩ st).1 hpr f1 w)
        clear hp hpr h2 hb2 hsy2 ha2 hsk hcnt h4 hyn f1
        generalize hFr : F ⟨yn, a, z⟩ st = fr at HP HCNT HF1 HTM f2 f3
        go_wp2_with fail
        refine wp_region_any (by kernel_rfl) ?_
        change wpAny _ _ _ _ _ _ _ (World.drew _)
        refine wpAny_take (i := 0) (v := ?_) rfl (by kernel_rfl) (by kernel_rfl) (by kernel_rfl) (fun _ _ _ h => h) (Or.inl ⟨by rfl, ?_⟩) ?_
        rotate_left
        · (intro w'; go_simp; first | done | with_reducible rfl)
        refine wpAny_take (i := 2) (v := ?_) rfl (by kernel_rfl) (by kernel_rfl) (by kernel_rfl) (fun _ _ _ h => h) (Or.inl ⟨by rfl, ?_⟩) ?_
        rotate_left
        · (intro w'; go_simp; first | done | with_reducible rfl)
        refine wpAny_take (i := 4) (v := ?_) rfl (by kernel_rfl) (by kernel_rfl) (by kernel_rfl) (fun _ _ _ h => h) (Or.inl ⟨by rfl, ?_⟩) ?_
        rotate_left
        · (intro w'; go_simp; first | done | with_reducible rfl)
        refine wpAny_take (i := 5) (v := ?_) rfl (by kernel_rfl) (by kernel_rfl) (by kernel_rfl) (fun _ _ _ h => h) (Or.inl ⟨by rfl, ?_⟩) ?_
        rotate_left
        · (intro w'; go_simp; first | done | with_reducible rfl)
        refine wpAny_take (i := 6) (v := ?_) rfl (by kernel_rfl) (by kernel_rfl) (by kernel_rfl) (fun _ _ _ h => h) (Or.inl ⟨by rfl, ?_⟩) ?_
        rotate_left
        · (intro w'; go_simp; first | done | with_reducible rfl)
        refine wpAny_take (i := 7) (v := ?_) rfl (by kernel_rfl) (by kernel_rfl) (by kernel_rfl) (fun _ _ _ h => h) (Or.inl ⟨by rfl, ?_⟩) ?_
        rotate_left
        · (intro w'; go_simp; first | done | with_reducible rfl)
        refine wpAny_of_D (S := fun w' => w' = (wo.alloc (.cells #[.bool false, .int .i64 yn] 70)).drew) (dep := 10) _ _ _ _ ?_
        refine wpAnyD_load (i := 1) (v := .pointer (some ⟨bc, 0, none⟩)) [10] rfl (by kernel_rfl) (by kernel_rfl) (by kernel_rfl) (by kernel_rfl) (by kernel_rfl) (by kernel_rfl) (by kernel_rfl) (fun _ _ _ h => h) (by rfl) ?_ rfl ?_
        · (intro w' hS; subst hS; go_simp)
        refine wpAnyD_load (i := 3) (v := .int .i64 yn) [9, 10] rfl (by kernel_rfl) (by kernel_rfl) (by kernel_rfl) (by kernel_rfl) (by kernel_rfl) (by kernel_rfl) (by kernel_rfl) (fun _ _ _ h => h) (by rfl) ?_ rfl ?_
        · (intro w' hS; subst hS; go_simp)
        refine wpAnyD_load (i := 8) (v := .int .i64 z) [9, 10] rfl (by kernel_rfl) (by kernel_rfl) (by kernel_rfl) (by kernel_rfl) (by kernel_rfl) (by kernel_rfl) (by kernel_rfl) (fun _ _ _ h => h) (by rfl) ?_ rfl ?_
        · (intro w' hS; subst hS; go_simp)
        refine wpAnyD_pure (i := 9) (v := ?_) [10] rfl (by kernel_rfl) (by kernel_rfl) (by kernel_rfl) (by kernel_rfl) (by kernel_rfl) (by kernel_rfl) (by kernel_rfl) (fun _ _ _ h => h) (by rfl) ?_ rfl ?_
        rotate_left
        · (intro w'; go_simp; first | done | with_reducible rfl)
        refine wpAnyD_each (rs := [10]) (by kernel_rfl) (by simp) ?_
        refine EachD.cons rfl (fun K hK => ?_) EachD.nil
        simp only [List.getElem_toArray, List.getElem_cons_succ, List.getElem_cons_zero]
        refine step_call rfl 24 Tryz.f24 Tryz.func24 (by kernel_rfl) (by kernel_rfl) [.tmp 24, .tmp 32] #[71, 78] (by rfl) [.pointer (some ⟨bc, 0, none⟩), .agg #[.int .i64 yn, .int .i64 a, .int .i64 z]] (by kernel_rfl) _ HCNT.out ?_
        rintro e5 w5 ⟨rfl, hct5, ha5⟩
        refine ⟨_, rfl, ?_⟩
        have hb4 : (wo.alloc (.cells #[.bool false, .int .i64 yn] 70)).drew.heap[b]? = some (.cells (L.map fun v : Nat => Value.int .i64 v).toArray 3 (0, 0)) := hb3
        have hb5 : w5.heap[b]? = some (.cells (L.map fun v : Nat => Value.int .i64 v).toArray 3 (0, 0)) := (ha5.block b (blk_lt hb4) (by rintro (e | e); exact map_ne H4.out.ct.done hb4 e; exact map_ne H4.out.ct.op hb4 e)).trans hb4
        have e10 : w5.cell? ⟨b, k, none⟩ = some (.int .i64 z) := blk_cell hb5 (by rw [List.getElem?_toArray, List.getElem?_map, hLz]; rfl)
        have h5 := H4.out.away hE hlo ha5 hct5 f2 (Nat.le_trans h3.room f3.len)
        have hsy5 : IsSl Elt.sym Fs w5 (.slice (some ⟨b5, o5, none⟩) r.r.length rc) r.r := ((hsy3.below (Below.refl _ _).drew).old.keep (fun j hj => ha5.block j hj.2 (by rintro (e | e); exact (hFs j hj.1).1 e; exact (hFs j hj.1).2.1 e)) ha5.size).weak fun j hj => hj.1
        have ha6 : Away W.heap.size (fun b => b = rd ∨ b = ro ∨ b = bs) W w5 := (ha3.trans (Away.ofBelow ((Below.refl _ _).drew.mono ha3.size))).trans (ha5.mono ha3.size fun j _ hj => by rcases hj with hj | hj; exact .inl hj; exact .inr (.inl hj))
        have H5 := Lib.hid h5
        clear h5 hb4 hct5 ha5
        try go_simp
        refine hK _ _ (fun e => Bool.noConfusion (show true = false from e)) ?_
        clear hK K
        refine wpAnyD_of _ _ _ _ (by kernel_rfl) ?_
        refine wpAny_ready (rs := [11]) (by kernel_rfl) (by simp) ?_
        refine AllReady.cons rfl (fun K hK => ?_) AllReady.nil
        simp only [List.getElem_toArray, List.getElem_cons_succ, List.getElem_cons_zero]
        refine step_call (a := ⟨_, []⟩) rfl 44 Tryz.f44 Tryz.func44 (by kernel_rfl) (by kernel_rfl) [.tmp 23, .tmp 33] #[3, 3] (by rfl) [.int .i64 pr, .int .i64 fr.1] (by kernel_rfl) _ (HTM.out _) ?_
        rintro e6 w6 ⟨rfl, rfl⟩
        refine ⟨_, rfl, ?_⟩
        try go_simp
        refine hK _ _ ?_
        clear hK K
        refine wpAny_take (i := 12) (v := ?_) rfl (by kernel_rfl) (by kernel_rfl) (by kernel_rfl) (fun _ _ _ h => h) (Or.inl ⟨by rfl, ?_⟩) ?_
        rotate_left
        · (intro w'; go_simp; first | done | with_reducible rfl)
        refine wpAny_done (by kernel_rfl) ?_ _
        go_wp2_with fail
        go_roundg (r.r.length - (k + 1))
        case measure => omega
        case rel => exact ⟨k + 1, z, _, fr.2, by omega, rfl, by go_num, rfl, rfl, hz, mulC_v HPR.out HF1.out, H5.out, hb5, hsy5, ha6, HP.out⟩
      · rw [if_pos rfl] at hp
        have HP := Lib.hid hp
        have HPR := Lib.hid hpr
        clear hp hpr h2 hb2 hsy2 ha2 hsk
        go_wp2_with fail
        go_roundg (r.r.length - (k + 1))
        case measure => omega
        case rel => exact ⟨k + 1, z, pr, st, by omega, rfl, by go_num, rfl, rfl, hz, HPR.out, h3, hb3, hsy3, ha3, HP.out⟩
    · obtain rfl : k = r.r.length := by omega
      rw [List.drop_length] at hp
      unfold prodM at hp
      subst hp
      have c4 := blk_cell h2.sum (i := 0) rfl
      have hpl := plus_any s.1 pr h2.num hpr wo
      have f4 : wo.frozen? ⟨bs, 0, none⟩ = false := blk_free h2.sum
      have HPL := Lib.hid hpl
      have H2 := Lib.hid h2
      have HPR := Lib.hid hpr
      clear hpl h2 hpr
      go_wp2_with fail
      refine HPL.out.mono ?_
      rintro e7 w7 ⟨rfl, rfl⟩
      go_wp2_with fail
      have hsz := ha2.size
      have hbs := blk_lt H2.out.sum
      have hne : ∀ {b2 : Nat} {cs : Array Value} {T : TypeId} {fr : Nat × Nat}, w7.heap[b2]? = some (.cells cs T fr) → b2 ≠ bs → (w7.setCell ⟨bs, 0, none⟩ (.int .i64 (addC s.1 pr))).heap[b2]? = some (.cells cs T fr) := fun h1 h2 => by rw [heap_set_ne h2]; exact h1
      refine bodyPost_end (v := .tuple #[]) (by kernel_rfl) rfl ⟨rfl, ?_, ?_⟩
      · rw [HWAY.out]
        have h2 := H2.out
        have hd : ∀ {b2 : Nat} {cs : Array Value} {T : TypeId} {fr : Nat × Nat}, w7.heap[b2]? = some (.cells cs T fr) → T ≠ 3 → b2 ≠ bs := fun h1 hT e => by
          rw [e, h2.sum] at h1
          injection h1 with h1
          injection h1 with _ h1
          exact hT h1.symm
        refine ⟨h2.ct.set (hd h2.ct.blk (by decide)).symm (map_ne h2.ct.done h2.sum) (map_ne h2.ct.op h2.sum), ?_, hne h2.part (hd h2.part (by decide)), hne h2.rule (hd h2.rule (by decide)), hne h2.ptr (hd h2.ptr (by decide)), hE w7 _ h2.env (by omega) (Away.setCell _ _ _ _ (.inr hlo)), addC_v h2.num HPR.out, h2.ok, h2.room⟩
        rw [heap_set h2.sum]; rfl
      · exact ha2.trans (Away.setCell _ _ _ _ (.inl (.inr (.inr rfl))))
end Go.Proofs.YtdbkbkopcnkgcaaGreat

open Go Go.RowKit
open Go.ChangeMaps (setBlock)
namespace Go.Proofs.YtdbkbkopcnkgcaaGreat

theorem CbAt.poke {Env : World → Prop} {g : Gram} {x : List Int} {lim lo : Nat} {W : World} {bc rd ro be bx rr bcx bs b i : Nat} {v : Value} {y0 : MPart} {r : Rule} {R : Option Addr} {rc : Nat} {s : Int × CM} (h : CbAt Env g x lim W bc rd ro be bx rr bcx bs y0 r R rc s)
    (hE : ∀ W w', Env W → lo ≤ W.heap.size → Away lo (fun b => b = rd ∨ b = ro) W w' → Env w') (hlo : lo ≤ bs) (h2 : lo ≤ b) (hn : b ≠ bc ∧ b ≠ rd ∧ b ≠ ro ∧ b ≠ bx ∧ b ≠ rr ∧ b ≠ bcx ∧ b ≠ bs) : CbAt Env g x lim (W.setCell ⟨b, i, none⟩ v) bc rd ro be bx rr bcx bs y0 r R rc s := by
  obtain ⟨n1, n2, n3, n4, n5, n6, n7⟩ := hn
  have hs := blk_lt h.sum
  exact ⟨h.ct.set n1 n2 n3, by rw [heap_set_ne n7.symm]; exact h.sum, by rw [heap_set_ne n4.symm]; exact h.part, by rw [heap_set_ne n5.symm]; exact h.rule, by rw [heap_set_ne n6.symm]; exact h.ptr, hE W _ h.env (by omega) (Away.setCell _ _ _ _ (.inr h2)), h.num, h.ok, h.room⟩

theorem sp_count {Env : World → Prop} {Fe : Nat → Prop} {g : Gram} {x : List Int} {M : List (List Nat)} {F : MPart → CM → Int × CM} {lim lo bc rd ro be bx rr bcx bs : Nat} {A : Option Addr} {n c : Nat} {B : Option Addr} {m d : Nat} {C : Option Addr} {p q : Nat} {y : MPart} {r : Rule} {R : Option Addr} {rc : Nat} {W : World} {s : Int × CM} (hC : CountH Env g x F lim bc rd ro be) (hF : GoodF g x F) (hv : Valid g) (hr : r ∈ g.rules) (hy : OkMP g x y) (hx : x.length ≤ 12)
    (hsh : MShape g x M) (hshort : Short x M) (hlow : MLow M) (hE : ∀ W w', Env W → lo ≤ W.heap.size → Away lo (fun b => b = rd ∨ b = ro) W w' → Env w') (hFe : ∀ b, Fe b → b < lo ∧ b ≠ rd ∧ b ≠ ro) (hlo : lo ≤ bs) (h : CbAt Env g x lim W bc rd ro be bx rr bcx bs y r R rc s) (hends : IsEnds Fe W be g x M A n c B m d C p q) (hsy : IsSl Elt.sym Fe W (.slice R r.r.length rc) r.r) :
    Calls Tryz.prog 42 #[.pointer (some ⟨be, 0, none⟩), .slice R r.r.length rc, .int .i64 y.i, .int .i64 y.j, .func (.func 43) #[] #[.pointer (some ⟨bx, 0, none⟩), .pointer (some ⟨rr, 0, none⟩), .pointer (some ⟨bcx, 0, none⟩), .pointer (some ⟨bs, 0, none⟩)]] W fun e w' => e = .returned (.tuple #[]) ∧ CbAt Env g x lim w' bc rd ro be bx rr bcx bs y r R rc ((splC x M y.j r.r y.i).foldl (wayM F r y.i) s) ∧ Away W.heap.size (fun b => b = rd ∨ b = ro ∨ b = bs) W w' := by
  have hok := hv.ok r hr
  have hml := hsh.len
  have k1 := blk_lt h.ct.blk
  have k2 := h.ct.done.lt
  have k3 := h.ct.op.lt
  have k4 := blk_lt h.part
  have k5 := blk_lt h.rule
  have k6 := blk_lt h.ptr
  have k7 := blk_lt h.sum
  have H : SpCall (fun s2 w2 => CbAt Env g x lim w2 bc rd ro be bx rr bcx bs y r R rc s2) (wayM F r y.i) (fun _ _ => True) Fe (fun b => b = rd ∨ b = ro ∨ b = bs) W 43 #[.pointer (some ⟨bx, 0, none⟩), .pointer (some ⟨rr, 0, none⟩), .pointer (some ⟨bcx, 0, none⟩), .pointer (some ⟨bs, 0, none⟩)] be g x M A n c B m d C p q R rc r.r y.i y.j := by
    refine ⟨fun args w => ?_, hx, fun z hz => ?_, hsh.row, hsh.small, hshort, hlow, hy.2.2.1, hy.2.2.2, hok.len, fun b hb => ?_, hends, hsy, fun s2 w w' h1 h2 => h1.below hE hlo h2, fun s2 w b i v h1 h2 => h2.poke hE hlo (by omega) (by omega), fun s2 w L b hL _ h1 h2 h3 h4 h5 => ?_⟩
    · have hfn := Tryz.func43
      have hnm : (Tryz.f43.name == "runtime.NumGoroutine") = false := by kernel_rfl
      have hbd : Tryz.f43.body.isNone = false := by kernel_rfl
      simp only [beq_eq_false_iff_ne, Option.isNone_eq_false_iff, Option.isSome_iff_ne_none] at hnm hbd
      simp [callFunc, hfn, hnm, hbd]
    · have := hok.syms z hz
      exact ⟨this.n0, fun ht => by have := this.nn ht; omega⟩
    · rcases hb with e | e | e <;> subst e
      · exact ⟨k2, fun hf => (hFe _ hf).2.1 rfl⟩
      · exact ⟨k3, fun hf => (hFe _ hf).2.2 rfl⟩
      · exact ⟨k7, fun hf => by have := (hFe _ hf).1; omega⟩
    · have hl := splL_le hL
      exact cb_any hC hF hv hr hy hE (fun b hb => ⟨(hFe b hb).2.1, (hFe b hb).2.2, by have := (hFe b hb).1; omega⟩) hlo s2 w L b hl.1 (fun z hz => by have := hl.2 z hz; have := hy.2.2.2; omega) h1 h3 h5
  exact splits_any W s H h (AllP.of fun _ _ _ => trivial)
end Go.Proofs.YtdbkbkopcnkgcaaGreat
