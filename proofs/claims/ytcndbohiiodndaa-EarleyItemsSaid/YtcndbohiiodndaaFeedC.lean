import Derived.Test.YtcndbohiiodndaaFeedB
open Go Go.RowKit
open Go.ChangeMaps (setBlock)
namespace Go.Proofs.Ytcndbohiiodndaa

theorem nodup_lt : ∀ (n : Nat) (l : List Nat), l.Nodup → (∀ a ∈ l, a < n) → l.length ≤ n
  | 0, l, _, h => by
    cases l with
    | nil => simp
    | cons a l => exact absurd (h a (List.mem_cons_self ..)) (by omega)
  | n + 1, l, hd, h => by
    have h1 := nodup_lt n (l.erase n) (hd.erase n) (fun a ha => by
      have h2 := h a (List.mem_of_mem_erase ha)
      have h3 : a ≠ n := fun e => by subst e; exact (List.Nodup.not_mem_erase hd) ha
      omega)
    by_cases hm : n ∈ l
    · rw [List.length_erase_of_mem hm] at h1; omega
    · rw [List.erase_of_not_mem hm] at h1; omega

theorem items_bound {g : Gram} {m : Nat} {l : List Item} (hd : l.Nodup) (h : ∀ x ∈ l, OkItem g m x) (h32 : g.rules.length ≤ 32) (h4 : ∀ r ∈ g.rules, r.r.length ≤ 4) (hm : m ≤ 12) : l.length ≤ 2080 := by
  have h1 := nodup_lt 2080 (l.map fun x => (x.1 * 5 + x.2.1) * 13 + x.2.2) ?_ ?_
  · simpa using h1
  · rw [List.Nodup, List.pairwise_map]
    refine List.Pairwise.imp_of_mem ?_ hd
    intro a b ha hb hne he
    obtain ⟨r, hr, h2, h3⟩ := h a ha
    obtain ⟨r', hr', h2', h3'⟩ := h b hb
    have h5 := h4 r (List.mem_of_getElem? hr)
    have h5' := h4 r' (List.mem_of_getElem? hr')
    apply hne
    obtain ⟨a1, a2, a3⟩ := a
    obtain ⟨b1, b2, b3⟩ := b
    simp only at *
    have e3 : a3 = b3 := by omega
    have e2 : a2 = b2 := by omega
    have e1 : a1 = b1 := by omega
    rw [e1, e2, e3]
  · intro a ha
    obtain ⟨x, hx, rfl⟩ := List.mem_map.1 ha
    obtain ⟨r, hr, h2, h3⟩ := h x hx
    have h5 := h4 r (List.mem_of_getElem? hr)
    have h6 := (List.getElem?_eq_some_iff.1 hr).1
    omega

theorem Iter.own {κ ν : Type} {enc : κ → Value} {vn : ν → Value} {w w1 : World} {it r : Nat} {l : List (κ × ν)} {l0 done : List κ} {base size n : Nat} {e : TypeId} {v : Value} {xs : List Value} (h : Iter enc vn w it r l l0 done) (ho : w.ownsRow base e size v n xs) (hg : w.grownBy w1 v.ownBlock) : Iter enc vn w1 it r l l0 done := by
  refine h.same (hg.block _ h.lt.1 fun e => ?_) (hg.block _ h.lt.2 fun e => ?_)
  · obtain ⟨cs, T, fr, hb⟩ := own_block ho _ e.symm
    obtain ⟨es, clock, since, seen, last, h3, _⟩ := h
    rw [h3] at hb; cases hb
  · obtain ⟨cs, T, fr, hb⟩ := own_block ho _ e.symm
    obtain ⟨es, clock, since, seen, last, _, _, h3, _⟩ := h
    rw [h3] at hb; cases hb

section
variable {D : Nat → Prop} {bf lim : Nat} {g : Gram} {gd : List Bool} {x : List Int} {S : Nat → Item → Prop} {A : Option Addr} {cr : Nat} {B : Option Addr} {cg : Nat} {C : Option Addr} {cw : Nat} {E : Option Addr} {cs : Nat} {rs : List Nat}

set_option maxRecDepth 100000 in
set_option maxHeartbeats 1600000 in
theorem follow_compl (y : Item) (k : Nat) (w : World) (h : FeedAt D w bf lim g gd x S A cr B cg C cw E cs rs) (r : Rule) (hr : g.rules[y.1]? = some r) (hd : y.2.1 = r.r.length) (hy3 : y.2.2 ≤ x.length) (h32 : g.rules.length ≤ 32) (h4 : ∀ r ∈ g.rules, r.r.length ≤ 4) (hx : x.length ≤ 12) :
    Calls Try.prog 108 #[.pointer (some ⟨bf, 0, none⟩), itemV y, .int .i64 k] w fun e w' => ∃ (v : Value) (l : List Item), e = .returned v ∧ NewItems w w' v l ∧ ∀ z, z ∈ l ↔ Fol g gd S k y z := by
  obtain ⟨y1, y2, y3⟩ := y
  obtain ⟨hy1, hr2⟩ := List.getElem?_eq_some_iff.1 hr
  clear hr
  simp only at hy1 hr2 hd hy3
  subst hd
  have hc3 := blk_cell h.blk (i := 3) rfl
  have hc6 := blk_cell h.blk (i := 6) rfl
  have hbl := blk_lt h.blk
  have hk3 : y3 < rs.length := by have := h.len; omega
  obtain ⟨b, o, rfl, hF, hl, hc1, A', c', hc2, hsy⟩ := h.rules.ruleAt y1 hy1
  rw [hr2] at hc1 hc2 hsy
  obtain ⟨eb, rfl, hebl, hec⟩ := h.setAt y3 hk3
  obtain ⟨⟨lm, hmap, htrue, hmem⟩, hD, hlimr⟩ := h.maps y3 hk3
  have hmlt := hmap.lt
  obtain ⟨i0, hi, hz0, hz1, hz2⟩ := info_parts Try.infoItem
  unfold itemV
  go_enter Try.func108, Try.ntmps108
  go_wp2_with fail
  go_region
  have hW : Below w.heap.size w (((w.alloc (.cells #[.int .i64 y1, .int .i64 r.r.length, .int .i64 y3] 114)).alloc (.cells #[.int .i64 r.l, .slice A' r.r.length c'] 60)).drew) := (((Below.refl _ _).alloc (Nat.le_refl _) _).alloc (by simp) _).drew
  have hWs : (((w.alloc (.cells #[.int .i64 y1, .int .i64 r.r.length, .int .i64 y3] 114)).alloc (.cells #[.int .i64 r.l, .slice A' r.r.length c'] 60)).drew).heap.size = w.heap.size + 2 := by simp
  have hW0 : (((w.alloc (.cells #[.int .i64 y1, .int .i64 r.r.length, .int .i64 y3] 114)).alloc (.cells #[.int .i64 r.l, .slice A' r.r.length c'] 60)).drew).heap[w.heap.size]? = some (.cells #[.int .i64 y1, .int .i64 r.r.length, .int .i64 y3] 114) := by
    rw [drew_heap, Below.heap_alloc _ _ _ (by simp), heap_alloc_new]
  have hW1 : (((w.alloc (.cells #[.int .i64 y1, .int .i64 r.r.length, .int .i64 y3] 114)).alloc (.cells #[.int .i64 r.l, .slice A' r.r.length c'] 60)).drew).heap[w.heap.size + 1]? = some (.cells #[.int .i64 r.l, .slice A' r.r.length c'] 60) := by
    rw [drew_heap, show w.heap.size + 1 = (w.alloc (.cells #[.int .i64 y1, .int .i64 r.r.length, .int .i64 y3] 114)).heap.size by simp, heap_alloc_new]
  generalize (((w.alloc (.cells #[.int .i64 y1, .int .i64 r.r.length, .int .i64 y3] 114)).alloc (.cells #[.int .i64 r.l, .slice A' r.r.length c'] 60)).drew) = W0 at hW hWs hW0 hW1 ⊢
  have e01 := blk_cell hW0 (i := 1) rfl
  have e02 := blk_cell hW0 (i := 2) rfl
  have e11 := blk_cell hW1 (i := 1) rfl
  have hc6w := (hW.cell (p := ⟨bf, 6, none⟩) hbl).trans hc6
  have hecw := (hW.cell (p := ⟨eb, y3, none⟩) hebl).trans hec
  have HWS := Lib.hid hWs
  clear hWs
  have hy3z : (y3 : Int) < (rs.length : Int) := by omega
  go_wp2_with fail
  obtain ⟨o2, hrun0, hit⟩ := run_rangeM (P := Try.prog) (w := W0.drew) Try.underlying112 (hmap.same (w' := W0.drew) (hW.block _ hmlt))
  have hrun : (Instr.range 112 (.map (some rs[y3]))).run Try.prog W0.drew = .ok (.pointer (some ⟨W0.heap.size, 0, none⟩)) (W0.alloc o2).drew := hrun0
  go_region
  clear hrun hrun0
  go_wp2_with fail
  have hits := hit.lt.2
  have hbit : Below (w.heap.size + 2) W0 ((W0.alloc o2).drew) := ((Below.refl _ _).alloc (Nat.le_of_eq HWS.out.symm) _).drew
  have hitw : Iter itemV Value.bool ((W0.alloc o2).drew) W0.heap.size rs[y3] lm (lm.map (·.1)) [] := hit.same rfl rfl
  clear hit hits
  go_loopg [7] 2080 (fun gk v wr => ∃ (done l : List Item), gk = 2080 - done.length ∧ l.length ≤ done.length ∧ wr.ownsRow (w.heap.size + 2) 114 3 v l.length (itemCells l) ∧ Below (w.heap.size + 2) W0 wr ∧ Iter itemV Value.bool wr W0.heap.size rs[y3] lm (lm.map (·.1)) done ∧
    ∀ z, z ∈ l ↔ ∃ m e h r', (m, e, h) ∈ done ∧ g.rules[m]? = some r' ∧ r'.r[e]? = some ⟨false, r.l⟩ ∧ z = (m, e + 1, h))
  case atStart => exact ⟨[], [], rfl, by simp, World.ownsRow_nil _ _ _ _, hbit, hitw, fun z => by simp⟩
  case round =>
    clear hbit hitw
    obtain ⟨done, l, rfl, hld, hown, hb, hit, hz⟩ := hrel
    have hbw : Below w.heap.size w wr := hW.trans (hb.mono (by omega))
    have hbs : w.heap.size + 2 ≤ wr.heap.size := by have := hb.size; have := HWS.out; omega
    rcases hit.next (P := Try.prog) itemV_inj 0 with ⟨nn, hdone, hnx⟩ | ⟨nn, z, zv, o3, hzk, hzd, hzm, hnx, hit2, hent⟩
    · go_wp2
      go_ret
      refine ⟨_, l, rfl, ⟨hown.mono_base (by omega), below_drewN hbw _⟩, fun z => ?_⟩
      rw [hz]
      constructor
      · rintro ⟨m, e, h', r', h1, h2, h3, h4⟩
        have hk' : (m, e, h') ∈ lm.map (·.1) := by
          obtain ⟨es, clock, since, seen, last, _, _, _, _, _, _, _, _, hsub⟩ := hit
          exact hsub _ h1
        exact ⟨r, by rw [List.getElem?_eq_getElem hy1, hr2], .inl ⟨rfl, m, e, h', r', (hmem _).1 hk', h2, h3, h4⟩⟩
      · rintro ⟨r2, h1, h2⟩
        rw [List.getElem?_eq_getElem hy1, hr2] at h1
        injection h1 with h1
        subst h1
        rcases h2 with ⟨_, m, e, h', r', h3, h4, h5, h6⟩ | ⟨n2, h2, _⟩
        · exact ⟨m, e, h', r', hdone _ ((hmem _).2 h3), h4, h5, h6⟩
        · rw [List.getElem?_eq_none (by simp)] at h2; cases h2
    · obtain ⟨m, e, h'⟩ := z
      have hok := h.ok y3 _ hy3 ((hmem _).1 hzk)
      obtain ⟨r', hm, he4, hh'⟩ := hok
      simp only at hm he4 hh'
      obtain ⟨hm1, hm2⟩ := List.getElem?_eq_some_iff.1 hm
      have hnd : done.length + 1 ≤ 2080 := by
        have h1 := items_bound (g := g) (m := y3) (l := (m, e, h') :: done) ?_ ?_ h32 h4 (by omega)
        · simpa using h1
        · obtain ⟨es, clock, since, seen, last, _, _, _, _, _, _, _, hnd, hsub⟩ := hit2
          exact hnd
        · intro y hy
          obtain ⟨es, clock, since, seen, last, _, _, _, _, _, _, _, hnd, hsub⟩ := hit2
          exact h.ok y3 _ hy3 ((hmem _).1 (hsub y hy))
      have hownW : (setBlock (wr.drewN nn) W0.heap.size o3).ownsRow (w.heap.size + 2) 114 3 u7 l.length (itemCells l) := World.ownsRow.kept (w := wr.drewN nn) hown (row := some W0.heap.size) (grown_setBlock (wr.drewN nn) _ _) (by
        rcases hown.2 with ⟨rfl, _⟩ | ⟨g', cap, cur, rfl, _, hgg, _⟩
        · exact .inl rfl
        · refine .inr fun e => ?_
          have e2 : g' = W0.heap.size := by simpa [Value.ownBlock] using e
          obtain ⟨es, clock, since, seen, last, _, _, h3, _⟩ := hit
          rw [e2, h3] at hgg; cases hgg)
      have hbW : Below (w.heap.size + 2) W0 (setBlock (wr.drewN nn) W0.heap.size o3) := below_setBlock (below_drewN hb _) (Nat.le_of_eq HWS.out.symm) _
      have hsW : (setBlock (wr.drewN nn) W0.heap.size o3).heap.size = wr.heap.size := setBlock_size _ _ _
      generalize setBlock (wr.drewN nn) W0.heap.size o3 = W1 at hnx hit2 hent hownW hbW hsW
      clear hown hb hit hbw
      have hbw : Below w.heap.size w W1 := hW.trans (hbW.mono (by omega))
      have hbs1 : w.heap.size + 2 ≤ W1.heap.size := by omega
      have HS1 := Lib.hid hsW
      clear hsW
      obtain ⟨b5, o5, he5, hF5, hl5, hc11, A5, c5, hc12, hsy5⟩ := (h.rules.below hbw).ruleAt m hm1
      injection he5 with he5
      injection he5 with he5 he6
      subst he5
      subst he6
      rw [hm2] at hc11 hc12 hsy5
      have hc3r := (hbw.cell (p := ⟨bf, 3, none⟩) hbl).trans hc3
      have hd2 := blk_below hbW (by omega) hW1
      have e21 := blk_cell hd2 (i := 0) rfl
      have hs1 : w.heap.size + 1 < W1.heap.size := by omega
      have hbf : bf < W1.heap.size := by omega
      have hmz : (m : Int) < (g.rules.length : Int) := by omega
      unfold itemV at hnx hent
      clear e01 e02 e11 hc6w hecw hy3z
      by_cases hee : e < r'.r.length
      · obtain ⟨b6, o6, rfl, hF6, hl6, hc13, hc14⟩ := hsy5.symAt e hee
        have hez : (e : Int) < (r'.r.length : Int) := by omega
        have hrl : r'.r.length ≤ 4 := h4 r' (List.mem_of_getElem? hm)
        have hskip : (¬ r'.r[e]? = some ⟨false, r.l⟩) → ∀ z, z ∈ l ↔ ∃ m_1 e_1 h_1 r_1, (m_1, e_1, h_1) ∈ (m, e, h') :: done ∧ g.rules[m_1]? = some r_1 ∧ r_1.r[e_1]? = some ⟨false, r.l⟩ ∧ z = (m_1, e_1 + 1, h_1) := fun hno z => by
          rw [hz]
          constructor
          · rintro ⟨m1, e1, h1, r1, k1, k2⟩; exact ⟨m1, e1, h1, r1, List.mem_cons_of_mem _ k1, k2⟩
          · rintro ⟨m1, e1, h1, r1, k1, k2, k3, k4⟩
            rcases List.mem_cons.1 k1 with k1 | k1
            · simp only [Prod.mk.injEq] at k1
              obtain ⟨rfl, rfl, rfl⟩ := k1
              rw [hm] at k2; injection k2 with k2; subst k2
              exact absurd k3 hno
            · exact ⟨m1, e1, h1, r1, k1, k2, k3, k4⟩
        have hsome := List.getElem?_eq_getElem hee
        have HSM := Lib.hid hsome
        clear hsome
        generalize hye : r'.r[e] = ye at hc13 hc14 HSM
        clear hye
        obtain ⟨yt, yn⟩ := ye
        cases yt
        · by_cases hyn : yn = r.l
          · have hyn' : (yn == r.l) = true := by simp [hyn]
            have HYN := Lib.hid hyn
            clear hyn
            go_wp2_with fail
            go_quiet (fail)
            go_wp2_with fail
            go_quiet (fail)
            have he4b : e ≤ 4 := by omega
            go_wp2_with (first | (at_builtin; refine wpList_append_own _ rfl (.tmp 67) (.tmp 76) 191 rfl (w.heap.size + 2) 114 i0 (.agg #[.int .i64 0, .int .i64 0, .int .i64 0]) 3 24 Try.underlying191 hi hz0 hz1 hz2 rfl (by decide) _ l.length (itemCells l) rfl ?ho ⟨W1.heap.size + 1, 0, none⟩ 1 1 [.int .i64 m, .int .i64 (e + 1), .int .i64 h'] rfl rfl ?c1 ?c2 ?c3 ?c4 ?c5 ?_))
            case ho => exact (hownW.alloc _).alloc _
            case c1 =>
              intro j u hj
              exact cells_new' (by simp) _ _ _ _ hj
            case c2 => intro u hu; simp at hu; rcases hu with rfl | rfl | rfl <;> rfl
            case c3 => unfold maxLen; omega
            case c4 => omega
            case c5 => simp; omega
            intro v' w1 hown' hgrow _
            go_wp2
            have hbA : Below (w.heap.size + 2) W0 _ := ((below_drewN (hbW.alloc hbs1 _) _).alloc (show w.heap.size + 2 ≤ _ by simp; omega) _).grown hgrow (show w.heap.size + 2 ≤ _ by simp; omega) (fun j hj => own_base' hownW j hj)
            have hit3 := (hit2.below ((below_drewN ((Below.refl _ _).alloc (Nat.le_refl _) _) _).alloc (by simp) _)).own ((hownW.alloc _).alloc _) hgrow
            go_roundg (2080 - (done.length + 1))
            case measure => omega
            case rel => exact ⟨(m, e, h') :: done, l ++ [(m, e + 1, h')], by simp, by simp; omega, by rw [← itemCells_snoc]; simpa [Int.natCast_add] using hown', hbA, hit3, fun z => by
              rw [List.mem_append, hz]
              constructor
              · rintro (⟨m1, e1, h1, r1, k1, k2⟩ | h1)
                · exact ⟨m1, e1, h1, r1, List.mem_cons_of_mem _ k1, k2⟩
                · simp only [List.mem_singleton] at h1
                  exact ⟨m, e, h', r', List.mem_cons_self .., hm, by rw [HSM.out, HYN.out], h1⟩
              · rintro ⟨m1, e1, h1, r1, k1, k2, k3, k4⟩
                rcases List.mem_cons.1 k1 with k1 | k1
                · simp only [Prod.mk.injEq] at k1
                  obtain ⟨rfl, rfl, rfl⟩ := k1
                  exact .inr (by simp [k4])
                · exact .inl ⟨m1, e1, h1, r1, k1, k2, k3, k4⟩⟩
          · have hyn' : (yn == r.l) = false := by simp [hyn]
            have hno := hskip (by rw [HSM.out]; simpa using hyn)
            go_wp2_with fail
            go_quiet (fail)
            go_wp2_with fail
            go_quiet (fail)
            go_wp2
            go_roundg (2080 - (done.length + 1))
            case measure => omega
            case rel => exact ⟨(m, e, h') :: done, l, by simp, by simp; omega, hownW.alloc _, below_drewN (below_drewN (hbW.alloc hbs1 _) _) _, hit2.below (below_drewN (below_drewN ((Below.refl _ _).alloc (Nat.le_refl _) _) _) _), hno⟩
        · have hno := hskip (by rw [HSM.out]; simp)
          go_wp2_with fail
          go_quiet (fail)
          go_wp2_with fail
          go_quiet (fail)
          go_wp2
          go_roundg (2080 - (done.length + 1))
          case measure => omega
          case rel => exact ⟨(m, e, h') :: done, l, by simp, by simp; omega, hownW.alloc _, below_drewN (below_drewN (hbW.alloc hbs1 _) _) _, hit2.below (below_drewN (below_drewN ((Below.refl _ _).alloc (Nat.le_refl _) _) _) _), hno⟩
      · have hed : decide ((e : Int) < (r'.r.length : Int)) = false := by simp; omega
        go_wp2_with fail
        go_quiet (fail)
        go_wp2_with fail
        go_quiet (fail)
        go_wp2
        go_roundg (2080 - (done.length + 1))
        case measure => omega
        case rel => exact ⟨(m, e, h') :: done, l, by simp, by simp; omega, hownW.alloc _, below_drewN (below_drewN (hbW.alloc hbs1 _) _) _, hit2.below (below_drewN (below_drewN ((Below.refl _ _).alloc (Nat.le_refl _) _) _) _), fun z => by
          rw [hz]
          constructor
          · rintro ⟨m1, e1, h1, r1, k1, k2⟩; exact ⟨m1, e1, h1, r1, List.mem_cons_of_mem _ k1, k2⟩
          · rintro ⟨m1, e1, h1, r1, k1, k2, k3, k4⟩
            rcases List.mem_cons.1 k1 with k1 | k1
            · simp only [Prod.mk.injEq] at k1
              obtain ⟨rfl, rfl, rfl⟩ := k1
              rw [hm] at k2; injection k2 with k2; subst k2
              exact absurd (List.getElem?_eq_some_iff.1 k3).1 hee
            · exact ⟨m1, e1, h1, r1, k1, k2, k3, k4⟩⟩
end
end Go.Proofs.Ytcndbohiiodndaa
