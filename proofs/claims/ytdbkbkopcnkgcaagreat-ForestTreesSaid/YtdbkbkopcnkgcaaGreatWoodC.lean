import Derived.Test.YtdbkbkopcnkgcaaGreatWoodA
import Derived.Test.YtdbkbkopcnkgcaaGreatForO
import Derived.Test.YtdbkbkopcnkgcaaGreatForG
import Derived.Test.YtdbkbkopcnkgcaaGreatOwn
open Go Go.RowKit
namespace Go.Proofs.YtdbkbkopcnkgcaaGreat

/-! ### forest.counter.count: the walk -/
def kidStep (F : Nat → CS → Option (Int × CS)) (q : Int × CS) (k : Int) : Option (Int × CS) := (F k.toNat q.2).map fun r => (mulC q.1 r.1, r.2)
def packStep (F : Nat → CS → Option (Int × CS)) (q : Int × CS) (p : PackD) : Option (Int × CS) := (p.kids.foldlM (kidStep F) (1, q.2)).map fun r => (addC q.1 r.1, r.2)
theorem cntF_succ {ns : List NodeD} {f n : Nat} {s : CS} {nd : NodeD} (hn : ns[n]? = some nd) : cntF ns (f + 1) n s = if nd.y.t = true then some (1, s) else if s.op.getD n false = true then some (-1, s) else if s.done.getD n 0 ≠ 0 then some (s.done.getD n 0, s) else (nd.packs.foldlM (packStep (cntF ns f)) (0, ⟨s.done, s.op.set n true⟩)).map fun r => (r.1, ⟨r.2.done.set n r.1, r.2.op.set n false⟩) := by
  rw [cntF, hn]
  rfl

/-- the counter in memory -/
structure CfAt (Fe : Nat → Prop) (bc bd bo : Nat) (N : Option Addr) (cn : Nat) (ns : List NodeD) (root : Int) (s : CS) (w : World) : Prop where
  fe : Fe bc
  apart : ∀ b, Fe b → b ≠ bd ∧ b ≠ bo
  ne : bd ≠ bo
  blk : w.heap[bc]? = some (.cells #[.slice N ns.length cn, .int .i64 root, .slice (some ⟨bd, 0, none⟩) ns.length ns.length, .slice (some ⟨bo, 0, none⟩) ns.length ns.length] 63 (0, 0))
  nodes : IsSl Elt.node Fe w (.slice N ns.length cn) ns
  arrd : w.heap[bd]? = some (.cells (s.done.map fun v : Int => Value.int .i64 v).toArray 3 (0, 0))
  arro : w.heap[bo]? = some (.cells (s.op.map fun v : Bool => Value.bool v).toArray 4 (0, 0))
  ok : CSOk ns s

section
variable {Fe : Nat → Prop} {bc bd bo : Nat} {N : Option Addr} {cn : Nat} {ns : List NodeD} {root : Int} {s : CS} {w w' : World}

theorem CfAt.below (h : CfAt Fe bc bd bo N cn ns root s w) (hb : Below w.heap.size w w') : CfAt Fe bc bd bo N cn ns root s w' :=
  ⟨h.fe, h.apart, h.ne, blk_below hb (blk_lt h.blk) h.blk, h.nodes.below hb, blk_below hb (blk_lt h.arrd) h.arrd, blk_below hb (blk_lt h.arro) h.arro, h.ok⟩
theorem CfAt.setO (h : CfAt Fe bc bd bo N cn ns root s w) (n : Nat) (b : Bool) : CfAt Fe bc bd bo N cn ns root ⟨s.done, s.op.set n b⟩ (w.setCell ⟨bo, n, none⟩ (.bool b)) :=
  ⟨h.fe, h.apart, h.ne, (heap_set_ne (h.apart _ h.fe).2 _ _).trans h.blk, (h.nodes.old.keep (fun k hk => heap_set_ne (h.apart k hk.1).2 _ _) (by rw [size_setCell]; exact Nat.le_refl _)).weak fun _ hk => hk.1, (heap_set_ne h.ne _ _).trans h.arrd, by rw [heap_set h.arro]; simp [List.map_set], ⟨h.ok.done, by simp [h.ok.op], h.ok.val⟩⟩
theorem CfAt.setD (h : CfAt Fe bc bd bo N cn ns root s w) (n : Nat) (v : Int) (hv : CntV v) : CfAt Fe bc bd bo N cn ns root ⟨s.done.set n v, s.op⟩ (w.setCell ⟨bd, n, none⟩ (.int .i64 v)) :=
  ⟨h.fe, h.apart, h.ne, (heap_set_ne (h.apart _ h.fe).1 _ _).trans h.blk, (h.nodes.old.keep (fun k hk => heap_set_ne (h.apart k hk.1).1 _ _) (by rw [size_setCell]; exact Nat.le_refl _)).weak fun _ hk => hk.1, by rw [heap_set h.arrd]; simp [List.map_set], (heap_set_ne (Ne.symm h.ne) _ _).trans h.arro, ⟨by simp [h.ok.done], h.ok.op, fun u hu => by
    rcases List.mem_or_eq_of_mem_set hu with hu | hu
    · exact h.ok.val u hu
    · rw [hu]; exact hv⟩⟩
theorem CfAt.opAt (h : CfAt Fe bc bd bo N cn ns root s w) {n : Nat} (hn : n < ns.length) : w.cell? ⟨bo, n, none⟩ = some (.bool (s.op.getD n false)) :=
  blk_cell h.arro (by
    have h1 : n < s.op.length := by rw [h.ok.op]; exact hn
    rw [List.getElem?_toArray, List.getElem?_map, List.getElem?_eq_getElem h1, List.getD_eq_getElem?_getD, List.getElem?_eq_getElem h1]
    rfl)
theorem CfAt.doneAt (h : CfAt Fe bc bd bo N cn ns root s w) {n : Nat} (hn : n < ns.length) : w.cell? ⟨bd, n, none⟩ = some (.int .i64 (s.done.getD n 0)) :=
  blk_cell h.arrd (by
    have h1 : n < s.done.length := by rw [h.ok.done]; exact hn
    rw [List.getElem?_toArray, List.getElem?_map, List.getElem?_eq_getElem h1, List.getD_eq_getElem?_getD, List.getElem?_eq_getElem h1]
    rfl)
end

theorem sl_apart {α : Type} {e : Elt α} {Fe : Nat → Prop} {bd bo : Nat} {w w' : World} {v : Value} {l : List α} (hap : ∀ b, Fe b → b ≠ bd ∧ b ≠ bo) (ha : Away w.heap.size (fun b => b = bd ∨ b = bo) w w') (h : IsSl e Fe w v l) : IsSl e Fe w' v l :=
  (h.old.keep (fun b hb => ha.block b hb.2 (by rintro (e | e); exact (hap b hb.1).1 e; exact (hap b hb.1).2 e)) ha.size).weak fun _ hb => hb.1

set_option maxRecDepth 100000 in
set_option maxHeartbeats 3200000 in
theorem fcount_any (Fe : Nat → Prop) (bc bd bo : Nat) (N : Option Addr) (cn : Nat) (ns : List NodeD) (root : Int) (hkids : ∀ nd ∈ ns, ∀ p ∈ nd.packs, ∀ k ∈ p.kids, 0 ≤ k) : ∀ (f n : Nat) (s : CS) (r : Int × CS) (w : World), cntF ns f n s = some r → CfAt Fe bc bd bo N cn ns root s w →
    Calls Tryz.prog 20 #[.pointer (some ⟨bc, 0, none⟩), .int .i64 n] w fun e w' => e = .returned (.int .i64 r.1) ∧ CfAt Fe bc bd bo N cn ns root r.2 w' ∧ CntV r.1 ∧ Away w.heap.size (fun b => b = bd ∨ b = bo) w w' := by
  intro f
  induction f with
  | zero => intro n s r w h; rw [cntF] at h; cases h
  | succ f ih =>
    intro n s r w hc hct
    have hlt : n < ns.length := by
      rcases Nat.lt_or_ge n ns.length with h | h
      · exact h
      · rw [cntF, List.getElem?_eq_none h] at hc; cases hc
    have hnd : ns[n]? = some ns[n] := List.getElem?_eq_getElem hlt
    rw [cntF_succ hnd] at hc
    have hkn := hkids ns[n] (List.getElem_mem hlt)
    obtain ⟨b, o, hA, hF, hbl, c0, c1, c2, c3, A', c', c4, hpk⟩ := hct.nodes.nodeAt n hlt
    have eO := hct.opAt hlt
    have eD := hct.doneAt hlt
    have k0 := blk_cell hct.blk (i := 0) rfl
    have k2 := blk_cell hct.blk (i := 2) rfl
    have k3 := blk_cell hct.blk (i := 3) rfl
    have hnz : (n : Int) < (ns.length : Int) := by omega
    have HLT := Lib.hid hlt
    clear hnd
    generalize ns[n] = nd at hc hkn c0 c1 c2 c3 c4 hpk
    clear hlt
    cases ht : nd.y.t
    case true =>
      rw [ht] at c0
      rw [if_pos ht] at hc
      injection hc with hc
      subst hc
      subst hA
      go_enter Tryz.func20, Tryz.ntmps20
      go_wp2_with fail
      go_ret
      exact ⟨rfl, hct, by unfold CntV maxCount; simp, Away.refl _ _ _⟩
    case false =>
      rw [ht] at c0
      rw [if_neg (by rw [ht]; decide)] at hc
      cases ho : s.op.getD n false
      case true =>
        rw [ho] at eO
        rw [if_pos ho] at hc
        injection hc with hc
        subst hc
        subst hA
        go_enter Tryz.func20, Tryz.ntmps20
        go_wp2_with fail
        go_ret
        exact ⟨rfl, hct, by unfold CntV maxCount; simp, Away.refl _ _ _⟩
      case false =>
        rw [ho] at eO
        rw [if_neg (by rw [ho]; decide)] at hc
        by_cases hd : s.done.getD n 0 ≠ 0
        · rw [if_pos hd] at hc
          injection hc with hc
          subst hc
          subst hA
          have hdz : (s.done.getD n 0 == 0) = false := by simpa using hd
          have hval : CntV (s.done.getD n 0) := by
            rw [List.getD_eq_getElem?_getD]
            cases h : s.done[n]? with
            | none => unfold CntV maxCount; simp
            | some v => exact hct.ok.val v (List.mem_of_getElem? h)
          clear hd
          generalize s.done.getD n 0 = dv at eD hdz hval
          go_enter Tryz.func20, Tryz.ntmps20
          go_wp2_with fail
          go_ret
          exact ⟨rfl, hct, hval, Away.refl _ _ _⟩
        · rw [if_neg hd] at hc
          have hd0 : s.done.getD n 0 = 0 := Classical.not_not.1 hd
          rw [hd0] at eD
          obtain ⟨rf, hfold, rfl⟩ := Option.map_eq_some_iff.1 hc
          clear hd hc hd0
          subst hA
          have hct1 := hct.setO n true
          have ha1 : Away w.heap.size (fun b => b = bd ∨ b = bo) w (w.setCell ⟨bo, n, none⟩ (.bool true)) := Away.setCell w bo n _ (.inl (.inr rfl))
          have hb1 : ∀ {j v}, w.cell? ⟨b, j, none⟩ = some v → (w.setCell ⟨bo, n, none⟩ (.bool true)).cell? ⟨b, j, none⟩ = some v := fun h => (World.cell?_of_block (heap_set_ne (hct.apart b hF).2 _ _)).trans h
          have hc1 : ∀ {j v}, w.cell? ⟨bc, j, none⟩ = some v → (w.setCell ⟨bo, n, none⟩ (.bool true)).cell? ⟨bc, j, none⟩ = some v := fun h => (World.cell?_of_block (heap_set_ne (hct.apart bc hct.fe).2 _ _)).trans h
          have m4 := hb1 c4
          have m0 := hc1 k0
          have hpk1 : IsSl Elt.pack Fe (w.setCell ⟨bo, n, none⟩ (.bool true)) (.slice A' nd.packs.length c') nd.packs := (hpk.old.keep (fun k hk => heap_set_ne (hct.apart k hk.1).2 _ _) (by rw [size_setCell]; exact Nat.le_refl _)).weak fun _ hk => hk.1
          have hap := hct.apart
          have hz0 : w.frozen? ⟨bo, n, none⟩ = false := blk_free hct.arro
          have hsz := size_setCell w ⟨bo, n, none⟩ (.bool true)
          have HFO := Lib.hid hfold
          have HC1 := Lib.hid hct1
          have HA1 := Lib.hid ha1
          have HPK := Lib.hid hpk1
          have HAP := Lib.hid hap
          have HKN := Lib.hid hkn
          have HIH := Lib.hid ih
          have hpl := hpk.len.2
          clear hfold hct1 ha1 hb1 hc1 hct hpk hpk1 ih hap hkn
          go_enter Tryz.func20, Tryz.ntmps20
          go_wp2_with fail
          clear hz0 eO eD k0 k2 k3 c0 c1 c2 c3 c4
          generalize w.setCell ⟨bo, n, none⟩ (.bool true) = W1 at HC1 HA1 HPK hsz m4 m0 ⊢
          go_loopg [5, 63] nd.packs.length (fun gk so i wr => ∃ (k : Nat) (q : Int × CS), k ≤ nd.packs.length ∧ gk = nd.packs.length - k ∧ so = .int .i64 q.1 ∧ i = .int .i64 k ∧ CfAt Fe bc bd bo (some ⟨b, o, none⟩) cn ns root q.2 wr ∧ CntV q.1 ∧ Away W1.heap.size (fun b => b = bd ∨ b = bo) W1 wr ∧ (nd.packs.drop k).foldlM (packStep (cntF ns f)) q = some rf)
          case atStart => exact ⟨0, _, Nat.zero_le _, rfl, rfl, rfl, HC1.out, by unfold CntV maxCount; simp, Away.refl _ _ _, HFO.out⟩
          case round =>
            obtain ⟨k, q, hk, rfl, rfl, rfl, hat, hnum, haw, hfo⟩ := hrel
            obtain ⟨qn, qs⟩ := q
            obtain ⟨wo, rfl⟩ : ∃ wo : World, wo = wr := ⟨_, rfl⟩
            simp only at hat hnum
            by_cases hlt : k < nd.packs.length
            · obtain ⟨t1, hst, hfo2⟩ := drop_foldlM hlt hfo
              obtain ⟨b5, o5, hA, hF5, hl5, p0, A2, c2, p1, hks⟩ := (sl_apart HAP.out haw HPK.out).packAt k hlt
              subst hA
              have hkp := HKN.out nd.packs[k] (List.getElem_mem hlt)
              have hkz : (k : Int) < (nd.packs.length : Int) := by omega
              generalize nd.packs[k] = p at hst p0 p1 hks hkp
              have hbB := below1 wo (.cells #[.int .i64 p.rule, .slice A2 p.kids.length c2] 116)
              have hrr := heap_alloc_new wo (.cells #[.int .i64 p.rule, .slice A2 p.kids.length c2] 116)
              have hat2 := hat.below hbB
              have haw2 := haw.trans (Away.ofBelow (F := fun b => b = bd ∨ b = bo) (hbB.mono haw.size))
              have hks2 := hks.below hbB
              have v1 := blk_cell hrr (i := 1) rfl
              have hkl := hks.len.2
              unfold packStep at hst
              obtain ⟨r3, hin, rfl⟩ := Option.map_eq_some_iff.1 hst
              simp only at hin hfo2
              have HAT := Lib.hid hat2
              have HAW := Lib.hid haw2
              have HKS := Lib.hid hks2
              have HIN := Lib.hid hin
              have HF2 := Lib.hid hfo2
              have HKP := Lib.hid hkp
              clear hat hat2 haw haw2 hks hks2 hin hst hfo hfo2 hkp hlt
              go_wp2_with fail
              generalize wo.alloc (.cells #[.int .i64 p.rule, .slice A2 p.kids.length c2] 116) = W2 at HAT HAW HKS hbB hrr v1 ⊢
              clear hbB hrr v1 p0 p1
              go_loopg [8, 70] p.kids.length (fun gk so i wr => ∃ (k2 : Nat) (q2 : Int × CS), k2 ≤ p.kids.length ∧ gk = p.kids.length - k2 ∧ so = .int .i64 q2.1 ∧ i = .int .i64 k2 ∧ CfAt Fe bc bd bo (some ⟨b, o, none⟩) cn ns root q2.2 wr ∧ CntV q2.1 ∧ Away W2.heap.size (fun b => b = bd ∨ b = bo) W2 wr ∧ (p.kids.drop k2).foldlM (kidStep (cntF ns f)) q2 = some r3)
              case atStart => exact ⟨0, _, Nat.zero_le _, rfl, rfl, rfl, HAT.out, by unfold CntV maxCount; simp, Away.refl _ _ _, HIN.out⟩
              case round =>
                obtain ⟨k2, q2, hk2, rfl, rfl, rfl, hat, hnum2, haw, hfo⟩ := hrel
                obtain ⟨qn2, qs2⟩ := q2
                obtain ⟨wp, rfl⟩ : ∃ wp : World, wp = wr := ⟨_, rfl⟩
                simp only at hat hnum2
                by_cases hlt : k2 < p.kids.length
                · obtain ⟨t1, hst, hfo2⟩ := drop_foldlM hlt hfo
                  obtain ⟨b6, o6, hA, _, _, y0⟩ := (sl_apart HAP.out haw HKS.out).oneAt k2 hlt
                  subst hA
                  have hk0 := HKP.out p.kids[k2] (List.getElem_mem hlt)
                  have hkz2 : (k2 : Int) < (p.kids.length : Int) := by omega
                  generalize p.kids[k2] = kk at hst y0 hk0
                  obtain ⟨m, rfl⟩ := Int.eq_ofNat_of_zero_le hk0
                  unfold kidStep at hst
                  obtain ⟨r5, h5, rfl⟩ := Option.map_eq_some_iff.1 hst
                  simp only [Int.toNat_natCast] at h5 hfo2
                  have hcall := HIH.out m qs2 r5 wp h5 hat
                  have HCALL := Lib.hid hcall
                  have HF3 := Lib.hid hfo2
                  clear hcall hfo hfo2 hst h5 hat hlt hk0
                  go_wp2_with fail
                  refine HCALL.out.mono ?_
                  rintro e7 w7 ⟨rfl, hat7, hn7, ha7⟩
                  obtain ⟨rn, rs⟩ := r5
                  simp only at hat7 hn7 HF3
                  have haw7 := haw.trans (ha7.mono haw.size fun _ _ h => h)
                  clear HCALL ha7
                  have hn7' := hn7
                  have hnum2' := hnum2
                  unfold CntV maxCount at hn7' hnum2'
                  by_cases h1 : rn = -1
                  · have h1' : (rn == -1) = true := by simp [h1]
                    have hm : mulC qn2 rn = -1 := by unfold mulC; rw [if_pos (.inl h1)]
                    have HM := Lib.hid hm
                    clear hm h1
                    go_wp2_with fail
                    go_roundg (p.kids.length - (k2 + 1))
                    case measure => omega
                    case rel => exact ⟨k2 + 1, _, by omega, rfl, by rw [HM.out], by go_num, hat7, mulC_v hnum2 hn7, haw7, HF3.out⟩
                  · have h1' : (rn == -1) = false := by simp [h1]
                    by_cases h2 : qn2 = -1
                    · have h2' : (qn2 == -1) = true := by simp [h2]
                      have hm : mulC qn2 rn = -1 := by unfold mulC; rw [if_pos (.inr h2)]
                      have HM := Lib.hid hm
                      clear hm h1 h2
                      go_wp2_with fail
                      go_roundg (p.kids.length - (k2 + 1))
                      case measure => omega
                      case rel => exact ⟨k2 + 1, _, by omega, rfl, by rw [HM.out], by go_num, hat7, mulC_v hnum2 hn7, haw7, HF3.out⟩
                    · have h2' : (qn2 == -1) = false := by simp [h2]
                      have hm : mulC qn2 rn = min (qn2 * rn) maxCount := by unfold mulC; rw [if_neg (by omega)]
                      have h3 : 0 ≤ qn2 * rn := Int.mul_nonneg (by omega) (by omega)
                      have h4 : qn2 * rn ≤ 1000000000 * 1000000000 := Int.mul_le_mul (by omega) (by omega) (by omega) (by omega)
                      have hw : IntKind.i64.wrap (qn2 * rn) = qn2 * rn := IntWalk.i64_in _ (by omega)
                      have HM := Lib.hid hm
                      clear hm h1 h2
                      go_wp2_with fail
                      all_goals
                        go_roundg (p.kids.length - (k2 + 1))
                        case measure => omega
                        case rel => exact ⟨k2 + 1, _, by omega, rfl, by rw [HM.out]; unfold maxCount; first | (congr 1; done) | (congr 1; omega), by go_num, hat7, mulC_v hnum2 hn7, haw7, HF3.out⟩
                · obtain rfl : k2 = p.kids.length := by omega
                  rw [List.drop_length] at hfo
                  simp only [List.foldlM_nil] at hfo
                  injection hfo with hfo
                  subst hfo
                  have haw7 := HAW.out.trans (haw.mono HAW.out.size fun _ _ h => h)
                  have hnum' := hnum
                  have hnum2' := hnum2
                  unfold CntV maxCount at hnum' hnum2'
                  simp only at HF2
                  clear haw HIN HKS HAT HAW
                  by_cases h1 : qn2 = -1
                  · have h1' : (qn2 == -1) = true := by simp [h1]
                    have hm : addC qn qn2 = -1 := by unfold addC; rw [if_pos (.inl h1)]
                    have HM := Lib.hid hm
                    clear hm h1
                    go_wp2_with fail
                    go_roundg (nd.packs.length - (k + 1))
                    case measure => omega
                    case rel => exact ⟨k + 1, _, by omega, rfl, by rw [HM.out], by go_num, hat, addC_v hnum hnum2, haw7, HF2.out⟩
                  · have h1' : (qn2 == -1) = false := by simp [h1]
                    by_cases h2 : qn = -1
                    · have h2' : (qn == -1) = true := by simp [h2]
                      have hm : addC qn qn2 = -1 := by unfold addC; rw [if_pos (.inr h2)]
                      have HM := Lib.hid hm
                      clear hm h1 h2
                      go_wp2_with fail
                      go_roundg (nd.packs.length - (k + 1))
                      case measure => omega
                      case rel => exact ⟨k + 1, _, by omega, rfl, by rw [HM.out], by go_num, hat, addC_v hnum hnum2, haw7, HF2.out⟩
                    · have h2' : (qn == -1) = false := by simp [h2]
                      have hm : addC qn qn2 = min (qn + qn2) maxCount := by unfold addC; rw [if_neg (by omega)]
                      have HM := Lib.hid hm
                      clear hm h1 h2
                      go_wp2_with fail
                      all_goals
                        go_roundg (nd.packs.length - (k + 1))
                        case measure => omega
                        case rel => exact ⟨k + 1, _, by omega, rfl, by rw [HM.out]; unfold maxCount; first | (congr 1; done) | (congr 1; omega), by go_num, hat, addC_v hnum hnum2, haw7, HF2.out⟩
            · obtain rfl : k = nd.packs.length := by omega
              rw [List.drop_length] at hfo
              simp only [List.foldlM_nil] at hfo
              injection hfo with hfo
              subst hfo
              have hn := HLT.out
              have hat8 := hat.setO n false
              have hat9 := hat8.setD n qn hnum
              have k2 := blk_cell hat.blk (i := 2) rfl
              have k3 := blk_cell hat.blk (i := 3) rfl
              have hop := hat.opAt hn
              have k28 := blk_cell hat8.blk (i := 2) rfl
              have hdn := hat8.doneAt hn
              have hz0 : wo.frozen? ⟨bo, n, none⟩ = false := blk_free hat.arro
              have hz1 : (wo.setCell ⟨bo, n, none⟩ (.bool false)).frozen? ⟨bd, n, none⟩ = false := blk_free hat8.arrd
              have ha9 : Away w.heap.size (fun b => b = bd ∨ b = bo) w ((wo.setCell ⟨bo, n, none⟩ (.bool false)).setCell ⟨bd, n, none⟩ (.int .i64 qn)) :=
                ((HA1.out.trans (haw.mono (by rw [hsz]; exact Nat.le_refl _) fun _ _ h => h)).trans (Away.setCell wo bo n _ (.inl (.inr rfl)))).trans (Away.setCell _ bd n _ (.inl (.inl rfl)))
              have HR := Lib.hid hat9
              have HNUM := Lib.hid hnum
              clear hat hat8 hat9 hnum HA1 HC1 HPK HFO HIH
              go_wp2_with fail
              go_ret
              exact ⟨rfl, HR.out, HNUM.out, ha9⟩
end Go.Proofs.YtdbkbkopcnkgcaaGreat
