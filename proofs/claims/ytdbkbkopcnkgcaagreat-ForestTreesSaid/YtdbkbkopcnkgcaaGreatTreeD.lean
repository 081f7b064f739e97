import Derived.Test.YtdbkbkopcnkgcaaGreatTreeC
import Derived.Test.YtdbkbkopcnkgcaaGreatWoodWd
open Go Go.RowKit
namespace Go.Proofs.YtdbkbkopcnkgcaaGreat

/-! ### rows that consist of one row of each of two lists -/
def catR (a b : Rk) : Rk := ⟨a.size + b.size, a.pre ++ b.pre, a.row ++ b.row⟩
def jRow (most i : Nat) (a : Rk) : Nat → List Rk → List Rk
  | _, [] => []
  | k, b :: m => if (i + 1) * (k + 1) > most then [] else (if a.size + b.size ≤ 5000 then [catR a b] else []) ++ jRow most i a (k + 1) m
def jAll (most : Nat) : Nat → List Rk → List Rk → List Rk
  | _, [], _ => []
  | i, a :: l, m => jRow most i a 0 m ++ jAll most (i + 1) l m
def joinP (most : Nat) (l m : List Rk) : List Rk := firstP most (jAll most 0 l m)
structure RkOk (a : Rk) : Prop where
  pre : (a.pre.length : Int) = a.size
  row : a.row.length ≤ a.pre.length
  hi : a.size ≤ 5000

theorem jRow_len {most i : Nat} {a : Rk} : ∀ {k : Nat} {m : List Rk}, (jRow most i a k m).length ≤ m.length
  | k, [] => by simp [jRow]
  | k, b :: m => by
    have := jRow_len (most := most) (i := i) (a := a) (k := k + 1) (m := m)
    unfold jRow
    split
    · simp
    · split
      · simp; omega
      · simp; omega

/-- rows that the call has made -/
structure OwnRk (w : World) (base : Nat) (F : Nat → Prop) (v : Value) (L : List (Rk × RH)) : Prop where
  own : w.ownsRow base 90 3 v L.length (L.flatMap encR)
  good : ∀ e ∈ L, GoodR (fun b => (F b ∨ base ≤ b) ∧ v.ownBlock ≠ some b) w e
theorem OwnRk.nil (w : World) (base : Nat) (F : Nat → Prop) : OwnRk w base F (.slice none 0 0) [] := ⟨World.ownsRow_nil _ _ _ _, by simp⟩
theorem own_belowV {w w' : World} {base size n : Nat} {e : TypeId} {v : Value} {xs : List Value} (ho : w.ownsRow base e size v n xs) (hb : Below w.heap.size w w') : w'.ownsRow base e size v n xs :=
  ho.kept (row := none) ⟨hb.os, hb.tape, hb.output, hb.size, fun k hk _ => hb.block k hk⟩ (by cases v.ownBlock <;> simp)
theorem OwnRk.below {w w' : World} {base : Nat} {F : Nat → Prop} {v : Value} {L : List (Rk × RH)} (h : OwnRk w base F v L) (hb : Below w.heap.size w w') : OwnRk w' base F v L :=
  ⟨own_belowV h.own hb, fun e he => (h.good e he).keep hb.size fun b h1 h2 => ⟨h1, hb.block b h2⟩⟩
theorem OwnRk.snoc {w w1 : World} {base : Nat} {F : Nat → Prop} {v v' : Value} {L : List (Rk × RH)} {e : Rk × RH} (h : OwnRk w base F v L) (he : GoodR (fun b => (F b ∨ base ≤ b) ∧ v.ownBlock ≠ some b) w e) (hg : w.grownBy w1 v.ownBlock) (hat : v'.ownBlock = v.ownBlock ∨ v'.ownBlock = some w.heap.size)
    (hown : w1.ownsRow base 90 3 v' (L.length + 1) (L.flatMap encR ++ encR e)) : OwnRk w1 base F v' (L ++ [e]) := by
  have hk : ∀ b, ((F b ∨ base ≤ b) ∧ v.ownBlock ≠ some b) → b < w.heap.size → ((F b ∨ base ≤ b) ∧ v'.ownBlock ≠ some b) ∧ w1.heap[b]? = w.heap[b]? := fun b hb hl => ⟨⟨hb.1, fun e => by
    rcases hat with h1 | h1
    · rw [h1] at e; exact hb.2 e
    · rw [h1] at e; injection e with e; omega⟩, hg.block b hl fun e => hb.2 e.symm⟩
  refine ⟨by rw [List.length_append, List.flatMap_append]; simpa using hown, fun a ha => ?_⟩
  rcases List.mem_append.1 ha with ha | ha
  · exact (h.good a ha).keep hg.size hk
  · simp only [List.mem_singleton] at ha
    rw [ha]; exact he.keep hg.size hk

theorem cell_lift {w w' : World} {b i : Nat} {v : Value} (hb : Below w.heap.size w w') (h : w.cell? ⟨b, i, none⟩ = some v) : w'.cell? ⟨b, i, none⟩ = some v := (hb.cell (p := ⟨b, i, none⟩) (cell_lt h)).trans h

set_option maxRecDepth 100000 in
set_option maxHeartbeats 6400000 in
theorem joined_any (F : Nat → Prop) (w : World) (bb most : Nat) (l m : List Rk) (A : Option Addr) (c : Nat) (B : Option Addr) (d : Nat) (hF : ∀ b, F b → b < w.heap.size) (hl : IsSl Elt.ranked F w (.slice A l.length c) l) (hm : IsSl Elt.ranked F w (.slice B m.length d) m) (hlo : ∀ a ∈ l, RkOk a) (hmo : ∀ a ∈ m, RkOk a) (hll : l.length ≤ 1000) (hml : m.length ≤ 1000)
    (hb : w.cell? ⟨bb, 1, none⟩ = some (.int .i64 most)) (hmost : most ≤ 1000) (hkey : KeyInj (jAll most 0 l m)) :
    Calls Tryz.prog 48 #[.pointer (some ⟨bb, 0, none⟩), .slice A l.length c, .slice B m.length d] w fun e w' => ∃ A' c', e = .returned (.slice A' (joinP most l m).length c') ∧ (joinP most l m).length ≤ c' ∧ IsSl Elt.ranked (fun b => F b ∨ w.heap.size ≤ b) w' (.slice A' (joinP most l m).length c') (joinP most l m) ∧ Below w.heap.size w w' := by
  obtain ⟨ir, hir, hT0, hT2, hT3⟩ := info_parts Tryz.infoTranked
  have HK := Lib.hid hkey
  have HLO := Lib.hid hlo
  have HMO := Lib.hid hmo
  generalize htot : jAll most 0 l m = tot at HK
  have htot' : [] ++ jAll most 0 (l.drop 0) m = tot := by rw [List.drop_zero]; exact htot
  have HJ := Lib.hid (show joinP most l m = firstP most tot by rw [← htot]; rfl)
  have HT := Lib.hid htot'
  have hbl := cell_lt hb
  clear hkey htot htot' hlo hmo
  obtain ⟨n, hn⟩ : ∃ n, n = l.length := ⟨_, rfl⟩
  obtain ⟨p, hp⟩ : ∃ p, p = m.length := ⟨_, rfl⟩
  rw [← hn] at hl hll ⊢
  rw [← hp] at hm hml ⊢
  have HN := Lib.hid hn
  have HP := Lib.hid hp
  clear hn hp
  go_enter Tryz.func48, Tryz.ntmps48
  go_wp2_with fail
  go_loopg [14, 7] n (fun gk iv ov wr => ∃ (i q : Nat) (A' : Option Addr) (c' : Nat) (L : List (Rk × RH)), i ≤ n ∧ gk = n - i ∧ iv = .int .i64 i ∧ ov = .slice A' q c' ∧ q = L.length ∧ q ≤ i * p ∧ L.map (·.1) ++ jAll most i (l.drop i) m = tot ∧ OwnRk wr w.heap.size F (.slice A' q c') L ∧ Below w.heap.size w wr)
  case atStart => exact ⟨0, 0, none, 0, [], by omega, by omega, rfl, rfl, rfl, by omega, HT.out, OwnRk.nil _ _ _, Below.refl _ _⟩
  case round =>
    obtain ⟨i, q, A', c', L, hi, rfl, rfl, rfl, hq, hqp, htot, hO, hB⟩ := hrel
    obtain ⟨wo, rfl⟩ : ∃ wo : World, wo = wr := ⟨_, rfl⟩
    have hsz := hB.size
    have HQ := Lib.hid hq
    clear hq
    by_cases hlt : i < n
    · have hil : i < l.length := by rw [← HN.out]; exact hlt
      obtain ⟨b1, o1, rfl, hF1, hb1, s0, P, cp, R, cr, s1, hcp, hpre, s2, hcr, hrow⟩ := hl.rankedAt i hil
      have hak := HLO.out l[i] (List.getElem_mem hil)
      rw [List.drop_eq_getElem_cons hil] at htot
      generalize l[i] = a at s0 s1 hcp hpre s2 hcr hrow hak htot
      obtain ⟨az, ap, ar⟩ := a
      have ha1 := hak.pre
      have ha2 := hak.row
      have ha3 := hak.hi
      simp only at s0 s1 hcp hpre s2 hcr hrow ha1 ha2 ha3
      obtain ⟨na, hna⟩ : ∃ na, na = ap.length := ⟨_, rfl⟩
      obtain ⟨nr, hnr⟩ : ∃ nr, nr = ar.length := ⟨_, rfl⟩
      rw [← hna] at s1 hcp hpre ha1 ha2
      rw [← hnr] at s2 hcr hrow ha2
      have t0 := cell_lift hB s0
      have t1 := cell_lift hB s1
      have t2 := cell_lift hB s2
      have hbx := below1 wo (.cells #[.int .i64 az, .slice P na cp, .slice R nr cr] 90)
      have g9 := heap_alloc_new wo (.cells #[.int .i64 az, .slice P na cp, .slice R nr cr] 90)
      have hO2 := hO.below hbx
      have hB2 := hB.trans (hbx.mono hsz)
      have hs2 := World.size_alloc wo (.cells #[.int .i64 az, .slice P na cp, .slice R nr cr] 90)
      have hown9 : (Value.slice A' q c').ownBlock ≠ some wo.heap.size := fun e => by have := (hO.own.lt _ e).2; omega
      have HNA := Lib.hid hna
      have HNR := Lib.hid hnr
      clear s0 s1 s2 hO hB hbx hna hnr hak
      unfold jAll at htot
      have HTOT := Lib.hid htot
      clear htot
      go_wp2_with fail
      generalize wo.alloc (.cells #[.int .i64 az, .slice P na cp, .slice R nr cr] 90) = w2 at g9 hO2 hB2 hs2 ⊢
      generalize wo.heap.size = b9 at g9 hsz hs2 hown9 ⊢
      clear t0 t1 t2
      go_loopg [21, 7] p (fun gk kv ov wr => ∃ (k q : Nat) (A' : Option Addr) (c' : Nat) (L : List (Rk × RH)), k ≤ p ∧ gk = p - k ∧ kv = .int .i64 k ∧ ov = .slice A' q c' ∧ q = L.length ∧ q ≤ i * p + k ∧ L.map (·.1) ++ (jRow most i ⟨az, ap, ar⟩ k (m.drop k) ++ jAll most (i + 1) (l.drop (i + 1)) m) = tot ∧ OwnRk wr w.heap.size F (.slice A' q c') L ∧ Below w.heap.size w wr ∧ wr.heap[b9]? = some (.cells #[.int .i64 az, .slice P na cp, .slice R nr cr] 90 (0, 0)) ∧ (Value.slice A' q c').ownBlock ≠ some b9)
      case atStart => exact ⟨0, q, A', c', L, by omega, by omega, rfl, rfl, HQ.out, by omega, by rw [List.drop_zero]; exact HTOT.out, hO2, hB2, g9, hown9⟩
      case round =>
        clear hO2 hB2 g9 HTOT HQ hqp hown9
        obtain ⟨k, q, A', c', L, hk, rfl, rfl, rfl, hq, hqp, htot, hO, hB, g9, hown9⟩ := hrel
        obtain ⟨wo, rfl⟩ : ∃ wo : World, wo = wr := ⟨_, rfl⟩
        have hsz := hB.size
        have HQ := Lib.hid hq
        clear hq
        by_cases hlt : k < p
        · have hkm : k < m.length := by rw [← HP.out]; exact hlt
          obtain ⟨b3, o3, rfl, hF3, hb3, s0, P3, cp3, R3, cr3, s1, hcp3, hpre3, s2, hcr3, hrow3⟩ := hm.rankedAt k hkm
          have hbk := HMO.out m[k] (List.getElem_mem hkm)
          rw [List.drop_eq_getElem_cons hkm] at htot
          generalize m[k] = bz at s0 s1 hcp3 hpre3 s2 hcr3 hrow3 hbk htot
          obtain ⟨bs, bp, br⟩ := bz
          have hz1 := hbk.pre
          have hz2 := hbk.row
          have hz3 := hbk.hi
          simp only at s0 s1 hcp3 hpre3 s2 hcr3 hrow3 hz1 hz2 hz3
          obtain ⟨nb, hnb⟩ : ∃ nb, nb = bp.length := ⟨_, rfl⟩
          obtain ⟨ns, hns⟩ : ∃ ns, ns = br.length := ⟨_, rfl⟩
          rw [← hnb] at s1 hcp3 hpre3 hz1 hz2
          rw [← hns] at s2 hcr3 hrow3 hz2
          have t0 := cell_lift hB s0
          have t1 := cell_lift hB s1
          have t2 := cell_lift hB s2
          have t3 := cell_lift hB hb
          have hbx := below1 wo (.cells #[.int .i64 bs, .slice P3 nb cp3, .slice R3 ns cr3] 90)
          have g11 := heap_alloc_new wo (.cells #[.int .i64 bs, .slice P3 nb cp3, .slice R3 ns cr3] 90)
          have hO2 := hO.below hbx
          have hB2 := hB.trans (hbx.mono hsz)
          have hg9 := blk_lt g9
          have g92 := blk_below hbx hg9 g9
          have hs2 := World.size_alloc wo (.cells #[.int .i64 bs, .slice P3 nb cp3, .slice R3 ns cr3] 90)
          have t4 := cell_lift hB2 hb
          have HNB := Lib.hid hnb
          have HNS := Lib.hid hns
          clear s0 s1 s2 hO hB hbx hnb hns hbk g9
          have c0 := blk_cell g92 (i := 0) rfl
          have c1 := blk_cell g92 (i := 1) rfl
          have c2 := blk_cell g92 (i := 2) rfl
          have d0 := blk_cell g11 (i := 0) rfl
          have d1 := blk_cell g11 (i := 1) rfl
          have d2 := blk_cell g11 (i := 2) rfl
          unfold jRow at htot
          have hmul : IntKind.i64.wrap ((i + 1 : Int) * (k + 1)) = (((i + 1) * (k + 1) : Nat) : Int) := by
            have h1 : (i + 1) * (k + 1) ≤ 1000 * 1000 := Nat.mul_le_mul (by omega) (by omega)
            rw [IntWalk.i64_in _ (by have : ((i + 1 : Int) * (k + 1)) = (((i + 1) * (k + 1) : Nat) : Int) := by push_cast; rfl
                                     rw [this]; omega)]
            push_cast; rfl
          generalize hmz : (i + 1) * (k + 1) = mz at hmul htot
          have HTOT := Lib.hid htot
          clear htot hmz
          by_cases hbig : mz > most
          · have hbz : (mz : Int) > (most : Int) := by omega
            go_wp2_with fail
            go_roundg (n - (i + 1))
            case measure => omega
            case rel => exact ⟨i + 1, q, A', c', L, by omega, rfl, by go_num, rfl, HQ.out, by rw [Nat.add_mul]; omega, by have := HTOT.out; rwa [if_pos hbig, List.nil_append] at this, hO2, hB2⟩
          · have hbz : ¬ ((mz : Int) > (most : Int)) := by omega
            have hsum : IntKind.i64.wrap (az + bs) = az + bs := IntWalk.i64_in _ (by omega)
            by_cases hfit : az + bs ≤ 5000
            · go_wp2_with fail
              generalize wo.alloc (.cells #[.int .i64 bs, .slice P3 nb cp3, .slice R3 ns cr3] 90) = W at g11 hO2 hB2 g92 hs2 t4 c0 c1 c2 d0 d1 d2 ⊢
              generalize wo.heap.size = b11 at g11 hsz hs2 hg9 d0 d1 d2 ⊢
              obtain ⟨nab, hnab⟩ : ∃ z, z = (ap ++ bp).length := ⟨_, rfl⟩
              obtain ⟨nrs, hnrs⟩ : ∃ z, z = (ar ++ br).length := ⟨_, rfl⟩
              have hnab2 : nab = na + nb := by rw [hnab, List.length_append, HNA.out, HNB.out]
              have hnrs2 : nrs = nr + ns := by rw [hnrs, List.length_append, HNR.out, HNS.out]
              have HCI : ∀ (W' : World) (q1 : Nat), Below W.heap.size W W' → W'.heap[q1]? = some (.cells #[.slice P na cp, .slice P3 nb cp3] 22 (0, 0)) → Calls Tryz.prog 64 #[.slice (some ⟨q1, 0, none⟩) 2 2] W' fun e w' => ∃ A' c', e = .returned (.slice A' nab c') ∧ (nab ≤ c' ∧ IsSl Elt.int (fun b => F b ∨ W.heap.size ≤ b) w' (.slice A' nab c') (ap ++ bp)) ∧ Below W'.heap.size W' w' := fun W' q1 hb' hq1 => by
                have hw' := hB2.trans (hb'.mono hB2.size)
                have h := concat_int F W' ap bp P cp P3 cp3 q1 (by rw [← HNA.out]; exact hpre.below hw') (by rw [← HNB.out]; exact hpre3.below hw') (by rw [← HNA.out, ← HNB.out]; exact hq1) (by rw [← HNA.out, ← HNB.out]; omega)
                rw [← hnab] at h
                refine h.mono ?_
                rintro e w' ⟨A', c', h1, h2, h3, h4⟩
                exact ⟨A', c', h1, ⟨h2, h3.weak fun b hb => hb.imp id fun h => Nat.le_trans hb'.size h⟩, h4⟩
              have HCT : ∀ (W' : World) (q1 : Nat), Below W.heap.size W W' → W'.heap[q1]? = some (.cells #[.slice R nr cr, .slice R3 ns cr3] 38 (0, 0)) → Calls Tryz.prog 65 #[.slice (some ⟨q1, 0, none⟩) 2 2] W' fun e w' => ∃ A' c', e = .returned (.slice A' nrs c') ∧ (nrs ≤ c' ∧ IsSl Elt.tree (fun b => F b ∨ W.heap.size ≤ b) w' (.slice A' nrs c') (ar ++ br)) ∧ Below W'.heap.size W' w' := fun W' q1 hb' hq1 => by
                have hw' := hB2.trans (hb'.mono hB2.size)
                have h := concat_tree F W' ar br R cr R3 cr3 q1 (by rw [← HNR.out]; exact hrow.below hw') (by rw [← HNS.out]; exact hrow3.below hw') (by rw [← HNR.out, ← HNS.out]; exact hq1) (by rw [← HNR.out, ← HNS.out]; omega)
                rw [← hnrs] at h
                refine h.mono ?_
                rintro e w' ⟨A', c', h1, h2, h3, h4⟩
                exact ⟨A', c', h1, ⟨h2, h3.weak fun b hb => hb.imp id fun h => Nat.le_trans hb'.size h⟩, h4⟩
              have HG : ∀ b, (F b ∨ W.heap.size ≤ b) → (F b ∨ w.heap.size ≤ b) ∧ (Value.slice A' q c').ownBlock ≠ some b := fun b hb => ⟨hb.imp id fun h => by have := hB2.size; omega, fun e => by
                have h1 := own_base' hO2.own _ e
                have h2 := (hO2.own.lt _ e).2
                rcases hb with hb | hb
                · have := hF b hb; omega
                · omega⟩
              clear hs2
              -- what the three ways of the region have in common
              have HEND : ∀ (W' : World) (A1 : Option Addr) (c1 : Nat) (A2 : Option Addr) (c2 : Nat) (v' : Value) (w7 : World), Below W.heap.size W W' → nab ≤ c1 → IsSl Elt.int (fun b => F b ∨ W.heap.size ≤ b) W' (.slice A1 nab c1) (ap ++ bp) → nrs ≤ c2 → IsSl Elt.tree (fun b => F b ∨ W.heap.size ≤ b) W' (.slice A2 nrs c2) (ar ++ br) →
                  w7.ownsRow w.heap.size 90 3 v' (L.length + 1) (L.flatMap encR ++ [.int .i64 (az + bs), .slice A1 nab c1, .slice A2 nrs c2]) → (W'.alloc (.cells #[.int .i64 (az + bs), .slice A1 nab c1, .slice A2 nrs c2] 90)).grownBy w7 (Value.slice A' q c').ownBlock → (v'.ownBlock = (Value.slice A' q c').ownBlock ∨ v'.ownBlock = some (W'.alloc (.cells #[.int .i64 (az + bs), .slice A1 nab c1, .slice A2 nrs c2] 90)).heap.size) →
                  OwnRk w7 w.heap.size F v' (L ++ [(catR ⟨az, ap, ar⟩ ⟨bs, bp, br⟩, ⟨A1, c1, A2, c2⟩)]) ∧ Below w.heap.size w w7 ∧ w7.heap[b9]? = some (.cells #[.int .i64 az, .slice P na cp, .slice R nr cr] 90 (0, 0)) ∧ v'.ownBlock ≠ some b9 := fun W' A1 c1 A2 c2 v' w7 hb' h1 h2 h3 h4 hown hg hat => by
                have hbz := hb'.trans ((below1 W' (.cells #[.int .i64 (az + bs), .slice A1 nab c1, .slice A2 nrs c2] 90)).mono hb'.size)
                have hbw := below1 W' (.cells #[.int .i64 (az + bs), .slice A1 nab c1, .slice A2 nrs c2] 90)
                have hge : GoodR (fun b => (F b ∨ w.heap.size ≤ b) ∧ (Value.slice A' q c').ownBlock ≠ some b) (W'.alloc (.cells #[.int .i64 (az + bs), .slice A1 nab c1, .slice A2 nrs c2] 90)) (catR ⟨az, ap, ar⟩ ⟨bs, bp, br⟩, ⟨A1, c1, A2, c2⟩) := by
                  refine ⟨by show (0 : Int) ≤ az + bs; omega, hfit, by show (ap ++ bp).length ≤ c1; omega, ?_, by show (ar ++ br).length ≤ c2; omega, ?_⟩
                  · show IsSl Elt.int _ _ (.slice A1 (ap ++ bp).length c1) (ap ++ bp)
                    rw [← hnab]; exact (h2.below hbw).weak HG
                  · show IsSl Elt.tree _ _ (.slice A2 (ar ++ br).length c2) (ar ++ br)
                    rw [← hnrs]; exact (h4.below hbw).weak HG
                have hl7 : b9 < W.heap.size := blk_lt g92
                refine ⟨(hO2.below hbz).snoc hge hg hat (by rw [show encR (catR ⟨az, ap, ar⟩ ⟨bs, bp, br⟩, ⟨A1, c1, A2, c2⟩) = [.int .i64 (az + bs), .slice A1 nab c1, .slice A2 nrs c2] by unfold encR catR; rw [hnab, hnrs]]; exact hown), ?_, ?_, ?_⟩
                · exact (hB2.trans (hbz.mono hB2.size)).grown hg (by have := hB2.size; have := hbz.size; omega) fun j hj => own_base' hO2.own j hj
                · refine (hg.block b9 (by have := hbz.size; omega) fun e => ?_).trans (blk_below hbz hl7 g92)
                  exact hown9 e.symm
                · intro e
                  rcases hat with h | h
                  · rw [h] at e; exact hown9 e
                  · rw [h] at e; injection e with e; have := hbz.size; omega
              have hq6 : L.length ≤ 1000000 := by
                have h1 := Nat.mul_le_mul (show i + 1 ≤ 1000 by omega) hml
                rw [Nat.add_mul] at h1
                have := HQ.out
                omega
              clear hnab hnrs hnab2 hnrs2
              refine wp_region_any (by kernel_rfl) ?_
              change wpAny _ _ _ _ _ _ _ (World.drew _)
              refine wpAny_take (i := 0) (v := ?_) rfl (by kernel_rfl) (by kernel_rfl) (by kernel_rfl) (fun _ _ _ h => h) (Or.inl ⟨by go_simp, ?_⟩) ?_
              rotate_left
              · (intro w'; go_simp; first | done | with_reducible rfl)
              refine wpAny_take (i := 1) (v := ?_) rfl (by kernel_rfl) (by kernel_rfl) (by kernel_rfl) (fun _ _ _ h => h) (Or.inl ⟨by go_simp, ?_⟩) ?_
              rotate_left
              · (intro w'; go_simp; first | done | with_reducible rfl)
              refine wpAny_take (i := 3) (v := ?_) rfl (by kernel_rfl) (by kernel_rfl) (by kernel_rfl) (fun _ _ _ h => h) (Or.inl ⟨by go_simp, ?_⟩) ?_
              rotate_left
              · (intro w'; go_simp; first | done | with_reducible rfl)
              refine wpAny_take (i := 6) (v := ?_) rfl (by kernel_rfl) (by kernel_rfl) (by kernel_rfl) (fun _ _ _ h => h) (Or.inl ⟨by go_simp, ?_⟩) ?_
              rotate_left
              · (intro w'; go_simp; first | done | with_reducible rfl)
              refine wpAny_take (i := 8) (v := ?_) rfl (by kernel_rfl) (by kernel_rfl) (by kernel_rfl) (fun _ _ _ h => h) (Or.inl ⟨by go_simp, ?_⟩) ?_
              rotate_left
              · (intro w'; go_simp; first | done | with_reducible rfl)
              refine wpAny_take (i := 12) (v := ?_) rfl (by kernel_rfl) (by kernel_rfl) (by kernel_rfl) (fun _ _ _ h => h) (Or.inl ⟨by go_simp, ?_⟩) ?_
              rotate_left
              · (intro w'; go_simp; first | done | with_reducible rfl)
              refine wpAny_take (i := 14) (v := ?_) rfl (by kernel_rfl) (by kernel_rfl) (by kernel_rfl) (fun _ _ _ h => h) (Or.inl ⟨by go_simp, ?_⟩) ?_
              rotate_left
              · (intro w'; go_simp; first | done | with_reducible rfl)
              refine wpAny_of_D (S := fun w' => Below W.heap.size W w') (dep := 20) _ _ _ _ ?_
              have hb0 : Below W.heap.size W W.drew := (Below.refl _ _).drew
              refine wpAnyD_load (i := 2) (v := .int .i64 az) [5, 18, 19, 20] rfl (by kernel_rfl) (by kernel_rfl) (by kernel_rfl) (by kernel_rfl) (by kernel_rfl) (by kernel_rfl) (by kernel_rfl) (fun _ _ _ h => h) (by go_simp) ?_ hb0 ?_
              · (intro w' hS; have y := cell_lift hS c0; go_simp)
              refine wpAnyD_load (i := 4) (v := .int .i64 bs) [5, 18, 19, 20] rfl (by kernel_rfl) (by kernel_rfl) (by kernel_rfl) (by kernel_rfl) (by kernel_rfl) (by kernel_rfl) (by kernel_rfl) (fun _ _ _ h => h) (by go_simp) ?_ hb0 ?_
              · (intro w' hS; have y := cell_lift hS d0; go_simp)
              refine wpAnyD_load (i := 7) (v := .slice P na cp) [10, 11, 18, 19, 20] rfl (by kernel_rfl) (by kernel_rfl) (by kernel_rfl) (by kernel_rfl) (by kernel_rfl) (by kernel_rfl) (by kernel_rfl) (fun _ _ _ h => h) (by go_simp) ?_ hb0 ?_
              · (intro w' hS; have y := cell_lift hS c1; go_simp)
              refine wpAnyD_load (i := 9) (v := .slice P3 nb cp3) [10, 11, 18, 19, 20] rfl (by kernel_rfl) (by kernel_rfl) (by kernel_rfl) (by kernel_rfl) (by kernel_rfl) (by kernel_rfl) (by kernel_rfl) (fun _ _ _ h => h) (by go_simp) ?_ hb0 ?_
              · (intro w' hS; have y := cell_lift hS d1; go_simp)
              refine wpAnyD_load (i := 13) (v := .slice R nr cr) [16, 17, 18, 19, 20] rfl (by kernel_rfl) (by kernel_rfl) (by kernel_rfl) (by kernel_rfl) (by kernel_rfl) (by kernel_rfl) (by kernel_rfl) (fun _ _ _ h => h) (by go_simp) ?_ hb0 ?_
              · (intro w' hS; have y := cell_lift hS c2; go_simp)
              refine wpAnyD_load (i := 15) (v := .slice R3 ns cr3) [16, 17, 18, 19, 20] rfl (by kernel_rfl) (by kernel_rfl) (by kernel_rfl) (by kernel_rfl) (by kernel_rfl) (by kernel_rfl) (by kernel_rfl) (fun _ _ _ h => h) (by go_simp) ?_ hb0 ?_
              · (intro w' hS; have y := cell_lift hS d2; go_simp)
              refine wpAnyD_pure (i := 5) (v := ?_) [18, 19, 20] rfl (by kernel_rfl) (by kernel_rfl) (by kernel_rfl) (by kernel_rfl) (by kernel_rfl) (by kernel_rfl) (by kernel_rfl) (fun _ _ _ h => h) (by go_simp) ?_ hb0 ?_
              rotate_left
              · (intro w'; go_simp; first | done | with_reducible rfl)
              refine wpAnyD_each (rs := [10, 16]) (by kernel_rfl) (by simp) ?_
              refine EachD.cons (i := 10) (o := _) rfl (fun K hK => ?_) ?_
              · go_simp
                refine hK _ _ (fun _ => (below1 W _).drew) ?_
                clear hK K
                have hba : Below W.heap.size W (W.alloc (.cells #[.slice P na cp, .slice P3 nb cp3] 22)).drew := (below1 W _).drew
                have gI : (W.alloc (.cells #[.slice P na cp, .slice P3 nb cp3] 22)).drew.heap[W.heap.size]? = some (.cells #[.slice P na cp, .slice P3 nb cp3] 22) := heap_alloc_new W _
                generalize (W.alloc (.cells #[.slice P na cp, .slice P3 nb cp3] 22)).drew = Wa at hba gI ⊢
                refine wpAnyD_each (rs := [11, 16]) (by kernel_rfl) (by simp) ?_
                refine EachD.cons (i := 11) (o := _) rfl (fun K hK => ?_) ?_
                · go_simp
                  refine (HCI Wa W.heap.size hba gI).mono ?_
                  rintro ew6 w6 ⟨A1, c1, rfl, ⟨hq1, hq2⟩, hxw6⟩
                  try go_simp
                  have hb6 := hba.trans (hxw6.mono hba.size)
                  refine hK _ _ (fun _ => hb6) ?_
                  clear hK K
                  refine wpAnyD_each (rs := [16]) (by kernel_rfl) (by simp) ?_
                  refine EachD.cons (i := 16) (o := _) rfl (fun K hK => ?_) EachD.nil
                  go_simp
                  replace hq2 := hq2.below (below1 w6 (.cells #[.slice R nr cr, .slice R3 ns cr3] 38))
                  refine hK _ _ (fun _ => hb6.trans ((below1 w6 _).mono hb6.size)) ?_
                  clear hK K
                  have hbb : Below W.heap.size W (w6.alloc (.cells #[.slice R nr cr, .slice R3 ns cr3] 38)) := hb6.trans ((below1 w6 _).mono hb6.size)
                  have gT : (w6.alloc (.cells #[.slice R nr cr, .slice R3 ns cr3] 38)).heap[w6.heap.size]? = some (.cells #[.slice R nr cr, .slice R3 ns cr3] 38) := heap_alloc_new w6 _
                  generalize w6.heap.size = pWb at gT ⊢
                  generalize w6.alloc (.cells #[.slice R nr cr, .slice R3 ns cr3] 38) = Wb at hbb gT hq2 ⊢
                  refine wpAnyD_each (rs := [17]) (by kernel_rfl) (by simp) ?_
                  refine EachD.cons (i := 17) (o := _) rfl (fun K hK => ?_) EachD.nil
                  go_simp
                  refine (HCT Wb pWb hbb gT).mono ?_
                  rintro e8 w8 ⟨A2, c2, rfl, ⟨hr1, hr2⟩, hx8⟩
                  try go_simp
                  have hb8 := hbb.trans (hx8.mono hbb.size)
                  replace hq2 := hq2.below hx8
                  refine hK _ _ (fun _ => hb8) ?_
                  clear hK K
                  refine wpAnyD_pure (i := 18) (v := ?_) [19, 20] rfl (by kernel_rfl) (by kernel_rfl) (by kernel_rfl) (by kernel_rfl) (by kernel_rfl) (by kernel_rfl) (by kernel_rfl) (fun _ _ _ h => h) (by go_simp) ?_ hb8 ?_
                  rotate_left
                  · (intro w'; go_simp; first | done | with_reducible rfl)
                  refine wpAnyD_each (rs := [19]) (by kernel_rfl) (by simp) ?_
                  refine EachD.cons (i := 19) (o := _) rfl (fun K hK => ?_) EachD.nil
                  go_simp
                  have hb9 : Below W.heap.size W (w8.alloc (.cells #[.int .i64 (az + bs), .slice A1 nab c1, .slice A2 nrs c2] 90)) := hb8.trans ((below1 w8 _).mono hb8.size)
                  refine hK _ _ (fun _ => hb9) ?_
                  clear hK K
                  refine wpAnyD_each (rs := [20]) (by kernel_rfl) (by simp) ?_
                  refine EachD.cons (i := 20) (o := _) rfl (fun K hK => ?_) EachD.nil
                  refine step_append_src _ rfl (.tmp 42) (.tmp 61) 86 rfl w.heap.size 90 ir (.agg #[.int .i64 0, .slice none 0 0, .slice none 0 0]) 3 56 Tryz.underlying86 hir hT0 hT2 hT3 rfl (by decide) (.slice A' q c') L.length (L.flatMap encR) (by rfl) (hO2.below hb9).own (some ⟨w8.heap.size, 0, none⟩) 1 1 [.int .i64 (az + bs), .slice A1 nab c1, .slice A2 nrs c2] (by rfl) rfl (fun h => by cases h) (fun a ha j u hj => by injection ha with ha; subst ha; exact cells_new _ _ _ _ _ hj) (by intro u hu; simp at hu; rcases hu with rfl | rfl | rfl <;> rfl) (L.length + 1) rfl (by unfold maxLen; omega) (by omega) (by have := hB2.size; have := hb9.size; omega) ?_
                  intro A7 c7 w7 hown7 hg7 hat7
                  have hend := HEND w8 A1 c1 A2 c2 _ w7 hb8 hq1 hq2 hr1 hr2 hown7 hg7 hat7
                  refine hK _ _ (fun e => Bool.noConfusion (show true = false from e)) ?_
                  clear hK K hown7 hg7 hat7
                  refine wpAnyD_of _ _ _ _ (by kernel_rfl) ?_
                  refine wpAny_take (i := 21) (v := ?_) rfl (by kernel_rfl) (by kernel_rfl) (by kernel_rfl) (fun _ _ _ h => h) (Or.inl ⟨by go_simp, ?_⟩) ?_
                  rotate_left
                  · (intro w'; go_simp; first | done | with_reducible rfl)
                  refine wpAny_done (by kernel_rfl) ?_ _
                  have HE := Lib.hid hend
                  clear hend HEND
                  go_wp2_with fail
                  go_roundg (p - (k + 1))
                  case measure => omega
                  case rel => exact ⟨k + 1, L.length + 1, A7, c7, _, by omega, rfl, by go_num, rfl, by simp, by have := HQ.out; omega, by have := HTOT.out; rw [if_neg hbig, if_pos hfit] at this; simpa using this, HE.out.1, HE.out.2.1, HE.out.2.2.1, HE.out.2.2.2⟩
                · refine EachD.cons (i := 16) (o := _) rfl (fun K hK => ?_) EachD.nil
                  go_simp
                  refine hK _ _ (fun _ => hba.trans ((below1 Wa _).mono hba.size)) ?_
                  clear hK K
                  have hbb : Below W.heap.size W (Wa.alloc (.cells #[.slice R nr cr, .slice R3 ns cr3] 38)) := hba.trans ((below1 Wa _).mono hba.size)
                  have gT : (Wa.alloc (.cells #[.slice R nr cr, .slice R3 ns cr3] 38)).heap[Wa.heap.size]? = some (.cells #[.slice R nr cr, .slice R3 ns cr3] 38) := heap_alloc_new Wa _
                  replace gI := blk_below (below1 Wa (.cells #[.slice R nr cr, .slice R3 ns cr3] 38)) (blk_lt gI) gI
                  generalize Wa.heap.size = pWb at gT ⊢
                  generalize Wa.alloc (.cells #[.slice R nr cr, .slice R3 ns cr3] 38) = Wb at hbb gT gI ⊢
                  refine wpAnyD_each (rs := [11]) (by kernel_rfl) (by simp) ?_
                  refine EachD.cons (i := 11) (o := _) rfl (fun K hK => ?_) EachD.nil
                  go_simp
                  refine (HCI Wb W.heap.size hbb gI).mono ?_
                  rintro ew6 w6 ⟨A1, c1, rfl, ⟨hq1, hq2⟩, hxw6⟩
                  try go_simp
                  have hb6 := hbb.trans (hxw6.mono hbb.size)
                  refine hK _ _ (fun _ => hb6) ?_
                  clear hK K
                  replace gT := blk_below hxw6 (blk_lt gT) gT
                  refine wpAnyD_each (rs := [17]) (by kernel_rfl) (by simp) ?_
                  refine EachD.cons (i := 17) (o := _) rfl (fun K hK => ?_) EachD.nil
                  go_simp
                  refine (HCT w6 pWb hb6 gT).mono ?_
                  rintro e8 w8 ⟨A2, c2, rfl, ⟨hr1, hr2⟩, hx8⟩
                  try go_simp
                  have hb8 := hb6.trans (hx8.mono hb6.size)
                  replace hq2 := hq2.below hx8
                  refine hK _ _ (fun _ => hb8) ?_
                  clear hK K
                  refine wpAnyD_pure (i := 18) (v := ?_) [19, 20] rfl (by kernel_rfl) (by kernel_rfl) (by kernel_rfl) (by kernel_rfl) (by kernel_rfl) (by kernel_rfl) (by kernel_rfl) (fun _ _ _ h => h) (by go_simp) ?_ hb8 ?_
                  rotate_left
                  · (intro w'; go_simp; first | done | with_reducible rfl)
                  refine wpAnyD_each (rs := [19]) (by kernel_rfl) (by simp) ?_
                  refine EachD.cons (i := 19) (o := _) rfl (fun K hK => ?_) EachD.nil
                  go_simp
                  have hb9 : Below W.heap.size W (w8.alloc (.cells #[.int .i64 (az + bs), .slice A1 nab c1, .slice A2 nrs c2] 90)) := hb8.trans ((below1 w8 _).mono hb8.size)
                  refine hK _ _ (fun _ => hb9) ?_
                  clear hK K
                  refine wpAnyD_each (rs := [20]) (by kernel_rfl) (by simp) ?_
                  refine EachD.cons (i := 20) (o := _) rfl (fun K hK => ?_) EachD.nil
                  refine step_append_src _ rfl (.tmp 42) (.tmp 61) 86 rfl w.heap.size 90 ir (.agg #[.int .i64 0, .slice none 0 0, .slice none 0 0]) 3 56 Tryz.underlying86 hir hT0 hT2 hT3 rfl (by decide) (.slice A' q c') L.length (L.flatMap encR) (by rfl) (hO2.below hb9).own (some ⟨w8.heap.size, 0, none⟩) 1 1 [.int .i64 (az + bs), .slice A1 nab c1, .slice A2 nrs c2] (by rfl) rfl (fun h => by cases h) (fun a ha j u hj => by injection ha with ha; subst ha; exact cells_new _ _ _ _ _ hj) (by intro u hu; simp at hu; rcases hu with rfl | rfl | rfl <;> rfl) (L.length + 1) rfl (by unfold maxLen; omega) (by omega) (by have := hB2.size; have := hb9.size; omega) ?_
                  intro A7 c7 w7 hown7 hg7 hat7
                  have hend := HEND w8 A1 c1 A2 c2 _ w7 hb8 hq1 hq2 hr1 hr2 hown7 hg7 hat7
                  refine hK _ _ (fun e => Bool.noConfusion (show true = false from e)) ?_
                  clear hK K hown7 hg7 hat7
                  refine wpAnyD_of _ _ _ _ (by kernel_rfl) ?_
                  refine wpAny_take (i := 21) (v := ?_) rfl (by kernel_rfl) (by kernel_rfl) (by kernel_rfl) (fun _ _ _ h => h) (Or.inl ⟨by go_simp, ?_⟩) ?_
                  rotate_left
                  · (intro w'; go_simp; first | done | with_reducible rfl)
                  refine wpAny_done (by kernel_rfl) ?_ _
                  have HE := Lib.hid hend
                  clear hend HEND
                  go_wp2_with fail
                  go_roundg (p - (k + 1))
                  case measure => omega
                  case rel => exact ⟨k + 1, L.length + 1, A7, c7, _, by omega, rfl, by go_num, rfl, by simp, by have := HQ.out; omega, by have := HTOT.out; rw [if_neg hbig, if_pos hfit] at this; simpa using this, HE.out.1, HE.out.2.1, HE.out.2.2.1, HE.out.2.2.2⟩
              · refine EachD.cons (i := 16) (o := _) rfl (fun K hK => ?_) EachD.nil
                go_simp
                refine hK _ _ (fun _ => (below1 W _).drew) ?_
                clear hK K
                have hba : Below W.heap.size W (W.alloc (.cells #[.slice R nr cr, .slice R3 ns cr3] 38)).drew := (below1 W _).drew
                have gT : (W.alloc (.cells #[.slice R nr cr, .slice R3 ns cr3] 38)).drew.heap[W.heap.size]? = some (.cells #[.slice R nr cr, .slice R3 ns cr3] 38) := heap_alloc_new W _
                generalize (W.alloc (.cells #[.slice R nr cr, .slice R3 ns cr3] 38)).drew = Wa at hba gT ⊢
                refine wpAnyD_each (rs := [10]) (by kernel_rfl) (by simp) ?_
                refine EachD.cons (i := 10) (o := _) rfl (fun K hK => ?_) EachD.nil
                go_simp
                refine hK _ _ (fun _ => hba.trans ((below1 Wa _).mono hba.size)) ?_
                clear hK K
                have hbb : Below W.heap.size W (Wa.alloc (.cells #[.slice P na cp, .slice P3 nb cp3] 22)) := hba.trans ((below1 Wa _).mono hba.size)
                have gI : (Wa.alloc (.cells #[.slice P na cp, .slice P3 nb cp3] 22)).heap[Wa.heap.size]? = some (.cells #[.slice P na cp, .slice P3 nb cp3] 22) := heap_alloc_new Wa _
                replace gT := blk_below (below1 Wa (.cells #[.slice P na cp, .slice P3 nb cp3] 22)) (blk_lt gT) gT
                generalize Wa.heap.size = pWb at gI ⊢
                generalize Wa.alloc (.cells #[.slice P na cp, .slice P3 nb cp3] 22) = Wb at hbb gI gT ⊢
                refine wpAnyD_each (rs := [11]) (by kernel_rfl) (by simp) ?_
                refine EachD.cons (i := 11) (o := _) rfl (fun K hK => ?_) EachD.nil
                go_simp
                refine (HCI Wb pWb hbb gI).mono ?_
                rintro ew6 w6 ⟨A1, c1, rfl, ⟨hq1, hq2⟩, hxw6⟩
                try go_simp
                have hb6 := hbb.trans (hxw6.mono hbb.size)
                refine hK _ _ (fun _ => hb6) ?_
                clear hK K
                replace gT := blk_below hxw6 (blk_lt gT) gT
                refine wpAnyD_each (rs := [17]) (by kernel_rfl) (by simp) ?_
                refine EachD.cons (i := 17) (o := _) rfl (fun K hK => ?_) EachD.nil
                go_simp
                refine (HCT w6 W.heap.size hb6 gT).mono ?_
                rintro e8 w8 ⟨A2, c2, rfl, ⟨hr1, hr2⟩, hx8⟩
                try go_simp
                have hb8 := hb6.trans (hx8.mono hb6.size)
                replace hq2 := hq2.below hx8
                refine hK _ _ (fun _ => hb8) ?_
                clear hK K
                refine wpAnyD_pure (i := 18) (v := ?_) [19, 20] rfl (by kernel_rfl) (by kernel_rfl) (by kernel_rfl) (by kernel_rfl) (by kernel_rfl) (by kernel_rfl) (by kernel_rfl) (fun _ _ _ h => h) (by go_simp) ?_ hb8 ?_
                rotate_left
                · (intro w'; go_simp; first | done | with_reducible rfl)
                refine wpAnyD_each (rs := [19]) (by kernel_rfl) (by simp) ?_
                refine EachD.cons (i := 19) (o := _) rfl (fun K hK => ?_) EachD.nil
                go_simp
                have hb9 : Below W.heap.size W (w8.alloc (.cells #[.int .i64 (az + bs), .slice A1 nab c1, .slice A2 nrs c2] 90)) := hb8.trans ((below1 w8 _).mono hb8.size)
                refine hK _ _ (fun _ => hb9) ?_
                clear hK K
                refine wpAnyD_each (rs := [20]) (by kernel_rfl) (by simp) ?_
                refine EachD.cons (i := 20) (o := _) rfl (fun K hK => ?_) EachD.nil
                refine step_append_src _ rfl (.tmp 42) (.tmp 61) 86 rfl w.heap.size 90 ir (.agg #[.int .i64 0, .slice none 0 0, .slice none 0 0]) 3 56 Tryz.underlying86 hir hT0 hT2 hT3 rfl (by decide) (.slice A' q c') L.length (L.flatMap encR) (by rfl) (hO2.below hb9).own (some ⟨w8.heap.size, 0, none⟩) 1 1 [.int .i64 (az + bs), .slice A1 nab c1, .slice A2 nrs c2] (by rfl) rfl (fun h => by cases h) (fun a ha j u hj => by injection ha with ha; subst ha; exact cells_new _ _ _ _ _ hj) (by intro u hu; simp at hu; rcases hu with rfl | rfl | rfl <;> rfl) (L.length + 1) rfl (by unfold maxLen; omega) (by omega) (by have := hB2.size; have := hb9.size; omega) ?_
                intro A7 c7 w7 hown7 hg7 hat7
                have hend := HEND w8 A1 c1 A2 c2 _ w7 hb8 hq1 hq2 hr1 hr2 hown7 hg7 hat7
                refine hK _ _ (fun e => Bool.noConfusion (show true = false from e)) ?_
                clear hK K hown7 hg7 hat7
                refine wpAnyD_of _ _ _ _ (by kernel_rfl) ?_
                refine wpAny_take (i := 21) (v := ?_) rfl (by kernel_rfl) (by kernel_rfl) (by kernel_rfl) (fun _ _ _ h => h) (Or.inl ⟨by go_simp, ?_⟩) ?_
                rotate_left
                · (intro w'; go_simp; first | done | with_reducible rfl)
                refine wpAny_done (by kernel_rfl) ?_ _
                have HE := Lib.hid hend
                clear hend HEND
                go_wp2_with fail
                go_roundg (p - (k + 1))
                case measure => omega
                case rel => exact ⟨k + 1, L.length + 1, A7, c7, _, by omega, rfl, by go_num, rfl, by simp, by have := HQ.out; omega, by have := HTOT.out; rw [if_neg hbig, if_pos hfit] at this; simpa using this, HE.out.1, HE.out.2.1, HE.out.2.2.1, HE.out.2.2.2⟩
            · go_wp2_with fail
              go_roundg (p - (k + 1))
              case measure => omega
              case rel => exact ⟨k + 1, q, A', c', L, by omega, rfl, by go_num, rfl, HQ.out, by omega, by have := HTOT.out; rwa [if_neg hbig, if_neg (show ¬ (az + bs ≤ 5000) from fun h => absurd h (by omega)), List.nil_append] at this, hO2, hB2, g92, hown9⟩
        · obtain rfl : k = p := by omega
          rw [show m.drop k = [] from List.drop_eq_nil_of_le (by rw [← HP.out]; omega)] at htot
          simp only [jRow, List.nil_append] at htot
          have HTOT := Lib.hid htot
          clear htot
          go_wp2_with fail
          go_roundg (n - (i + 1))
          case measure => omega
          case rel => exact ⟨i + 1, q, A', c', L, by omega, rfl, by go_num, rfl, HQ.out, by rw [Nat.add_mul]; omega, HTOT.out, hO, hB⟩
    · obtain rfl : i = n := by omega
      rw [show l.drop i = [] from List.drop_eq_nil_of_le (by rw [← HN.out]; omega)] at htot
      simp only [jAll, List.append_nil] at htot
      have hq6 : q ≤ 1000000 := by
        have h1 : i * p ≤ 1000 * 1000 := Nat.mul_le_mul hll hml
        omega
      have hm1 := cell_lift hB hb
      have hqL := HQ.out
      have hfi := first_any wo w.heap.size bb most (.slice A' q c') _ (fun b hb => hb.2) L hO.good (by rw [htot]; exact HK.out) (by omega) hO.own hbl hm1 hmost
      rw [htot] at hfi
      have HFI := Lib.hid hfi
      have HB := Lib.hid hB
      have HOB := Lib.hid (fun j => own_base' hO.own j)
      clear hfi htot hO hqL hq6 hB
      go_wp2_with fail
      refine HFI.out.mono ?_
      rintro e8 w8 ⟨A8, n8, c8, rfl, hn8, hc8, hs8, ha8⟩
      rw [← HJ.out] at hn8 hs8
      have hfin : IsSl Elt.ranked (fun b => F b ∨ w.heap.size ≤ b) w8 (.slice A8 (joinP most l m).length c8) (joinP most l m) := by
        rw [← hn8]
        refine hs8.weak fun b hb => ?_
        rcases hb with hb | hb
        · exact .inr (HOB.out b hb)
        · exact hb.1.1
      have hbel : Below w.heap.size w w8 := ((Away.ofBelow (F := fun _ => False) HB.out).trans (ha8.mono HB.out.size fun j hj h => by have := HOB.out j h; omega)).below fun _ _ h => h
      have hc9 : (joinP most l m).length ≤ c8 := by rw [← hn8]; exact hc8
      have HF := Lib.hid hfin
      have HN8 := Lib.hid hn8
      clear hs8 hn8 hfin
      go_wp2_with fail
      go_ret
      exact ⟨A8, c8, congrArg (fun n => Ending.returned (Value.slice A8 n c8)) HN8.out, hc9, HF.out, hbel⟩
end Go.Proofs.YtdbkbkopcnkgcaaGreat
