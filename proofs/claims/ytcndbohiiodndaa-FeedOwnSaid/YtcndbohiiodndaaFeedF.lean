import Derived.Test.YtcndbohiiodndaaFeedE
open Go Go.RowKit
open Go.ChangeMaps (setBlock)
namespace Go.Proofs.Ytcndbohiiodndaa

section
variable {D : Nat → Prop} {bf lim : Nat} {g : Gram} {gd : List Bool} {x : List Int} {S : Nat → Item → Prop} {A : Option Addr} {cr : Nat} {B : Option Addr} {cg : Nat} {C : Option Addr} {cw : Nat} {E : Option Addr} {cs : Nat} {rs : List Nat}

theorem CInv.bound {w wr : World} {k r : Nat} {l : List (Item × Bool)} (h : CInv D w wr bf lim g gd x S A cr B cg C cw E cs rs k r l) (hkx : k ≤ x.length) (h32 : g.rules.length ≤ 32) (h4 : ∀ r ∈ g.rules, r.r.length ≤ 4) (hx : x.length ≤ 12) : l.length ≤ 2080 := by
  have h1 := items_bound (g := g) (m := k) (l := l.map (·.1)) ?_ ?_ h32 h4 (by omega)
  · simpa using h1
  · obtain ⟨es, c, _, he⟩ := h.map; exact he.dist
  · intro y hy; exact h.feed.ok k y hkx (by rw [updS_same]; exact hy)

theorem own_item {w : World} {base : Nat} {v : Value} {ys : List Item} (h : w.ownsRow base 114 3 v ys.length (itemCells ys)) (e : Nat) (he : e < ys.length) :
    ∃ b c, v = .slice (some ⟨b, 0, none⟩) ys.length c ∧ b < w.heap.size ∧ w.cell? ⟨b, e * 3, none⟩ = some (.int .i64 ys[e].1) ∧ w.cell? ⟨b, e * 3 + 1, none⟩ = some (.int .i64 ys[e].2.1) ∧ w.cell? ⟨b, e * 3 + 2, none⟩ = some (.int .i64 ys[e].2.2) := by
  obtain ⟨b, cap, rfl, hb1, hb2⟩ := h.form (by omega)
  obtain ⟨h1, h2, h3⟩ := itemCells_get ys e he
  have k1 := h.cells (g := b) rfl _ _ h1
  have k2 := h.cells (g := b) rfl _ _ h2
  have k3 := h.cells (g := b) rfl _ _ h3
  rw [add_lit0] at k1 k2 k3
  exact ⟨b, cap, rfl, cell_lt k1, k1, k2, k3⟩

/-- a pass over the set -/
def CPass (g : Gram) (gd : List Bool) (S : Nat → Item → Prop) (k : Nat) (m : Value) (l1 l : List (Item × Bool)) (done : List Item) : Prop :=
  (m = .bool true ∧ l1.length < l.length) ∨ (m = .bool false ∧ l = l1 ∧ ∀ z ∈ done, ∀ y, Fol g gd (updS S k (fun z => z ∈ l1.map (·.1))) k z y → y ∈ l1.map (·.1))

set_option maxRecDepth 100000 in
set_option maxHeartbeats 1600000 in
theorem complete_any (k : Nat) (w : World) (h : FeedAt D w bf lim g gd x S A cr B cg C cw E cs rs) (hk : k < rs.length) (h32 : g.rules.length ≤ 32) (h4 : ∀ r ∈ g.rules, r.r.length ≤ 4) (hx : x.length ≤ 12) :
    Calls Try.prog 68 #[.pointer (some ⟨bf, 0, none⟩), .int .i64 k] w fun e w' => e = .returned (.tuple #[]) ∧ w.grownBy w' (some rs[k]) ∧ FeedAt D w' bf lim g gd x (updS S k (Clo g gd S k (S k))) A cr B cg C cw E cs rs := by
  have hc6 := blk_cell h.blk (i := 6) rfl
  have hbl := blk_lt h.blk
  have hkx : k ≤ x.length := by have := h.len; omega
  obtain ⟨eb, rfl, hebl, hec⟩ := h.setAt k hk
  obtain ⟨⟨l0, hmap0, htrue0, hmem0⟩, hD, hlimr⟩ := h.maps k hk
  have hkz : (k : Int) < (rs.length : Int) := by omega
  have hI0 : CInv D w w bf lim g gd x S A cr B cg C cw (some ⟨eb, 0, none⟩) cs rs k rs[k] l0 := by
    refine ⟨h.turn (b := rs[k]) ⟨rfl, rfl, rfl, Nat.le_refl _, fun _ _ _ => rfl⟩ hlimr ?_ (fun j hj => ?_) (fun j z hj hz => ?_), hmap0, htrue0, ⟨rfl, rfl, rfl, Nat.le_refl _, fun _ _ _ => rfl⟩, fun z hz => (hmem0 z).2 hz, fun z hz => Clo.base z ((hmem0 z).1 hz), h.le⟩
    · obtain ⟨es, c, h1, _⟩ := hmap0
      rw [h1]; intro cs T fr e; cases e
    · by_cases e : j = k
      · subst e; rw [updS_same]; exact ⟨_, hmap0, htrue0, fun z => Iff.rfl⟩
      · rw [updS_other _ _ _ e]; exact (h.maps j hj).1
    · by_cases e : j = k
      · subst e; rw [updS_same] at hz; exact h.ok j z hj ((hmem0 z).1 hz)
      · rw [updS_other _ _ _ e] at hz; exact h.ok j z hj hz
  go_enter Try.func68, Try.ntmps68
  go_wp2_with fail
  clear hmap0 htrue0 hmem0
  go_loopg [5] (2081 - l0.length) (fun gk m wr => ∃ l, CInv D w wr bf lim g gd x S A cr B cg C cw (some ⟨eb, 0, none⟩) cs rs k rs[k] l ∧ ((m = .bool true ∧ gk = 2081 - l.length) ∨ (m = .bool false ∧ gk = 0 ∧ ∀ z y, z ∈ l.map (·.1) → Fol g gd (updS S k (fun z => z ∈ l.map (·.1))) k z y → y ∈ l.map (·.1))))
  case atStart =>
    exact ⟨l0, hI0, .inl ⟨rfl, rfl⟩⟩
  case round =>
    clear hI0
    obtain ⟨l1, hI, hm | hm⟩ := hrel
    · obtain ⟨rfl, rfl⟩ := hm
      have hbnd : l1.length ≤ 2080 := by
        have h1 := items_bound (g := g) (m := k) (l := l1.map (·.1)) ?_ ?_ h32 h4 (by omega)
        · simpa using h1
        · obtain ⟨es, c, _, he⟩ := hI.map; exact he.dist
        · intro y hy; exact hI.feed.ok k y hkx (by rw [updS_same]; exact hy)
      obtain ⟨wo, rfl⟩ : ∃ wo : World, wo = wr := ⟨_, rfl⟩
      obtain ⟨o2, hrun0, hit⟩ := run_rangeM (P := Try.prog) (w := wo) Try.underlying112 hI.map
      have hrun : (Instr.range 112 (.map (some rs[k]))).run Try.prog wo = .ok (.pointer (some ⟨wo.heap.size, 0, none⟩)) (wo.alloc o2) := hrun0
      go_wp2_with fail
      have hI1 := hI.keep (wr' := wo.alloc o2) ((Below.refl _ _).alloc (Nat.le_refl _) _)
      have hszo : w.heap.size ≤ wo.heap.size := hI.grown.size
      have hwo1 : wo.heap.size < (wo.alloc o2).heap.size := by rw [World.size_alloc]; omega
      clear hrun hrun0
      go_loopg [5] 2080 (fun gk m wr => ∃ l done, CInv D w wr bf lim g gd x S A cr B cg C cw (some ⟨eb, 0, none⟩) cs rs k rs[k] l ∧ Iter itemV Value.bool wr wo.heap.size rs[k] l (l1.map (·.1)) done ∧ gk = 2080 - done.length ∧ wo.heap.size < wr.heap.size ∧ CPass g gd S k m l1 l done)
      case atStart => exact ⟨l1, [], hI1, hit, rfl, hwo1, .inr ⟨rfl, rfl, fun z hz => by cases hz⟩⟩
      case round =>
        clear hI hI1 hit hwo1
        obtain ⟨l, done, hI, hit, rfl, hwo, hP⟩ := hrel
        have hbl2 := hI.bound hkx h32 h4 hx
        rcases hit.next (P := Try.prog) itemV_inj 0 with ⟨nn, hdone, hnx⟩ | ⟨nn, z, zv, o3, hzk, hzd, hzm, hnx, hit2, hent⟩
        · rcases hP with ⟨rfl, hP⟩ | ⟨rfl, rfl, hP⟩
          · go_wp2
            go_roundg (2081 - l.length)
            case measure => omega
            case rel => exact ⟨l, hI.keep (below_drewN (Below.refl _ _) _), .inl ⟨rfl, rfl⟩⟩
          · go_wp2
            go_roundg 0
            case measure => omega
            case rel => exact ⟨l, hI.keep (below_drewN (Below.refl _ _) _), .inr ⟨rfl, rfl, fun z y hz => hP z (hdone z hz) y⟩⟩
        · have hI2 : CInv D w (setBlock (wr.drewN nn) wo.heap.size o3) bf lim g gd x S A cr B cg C cw (some ⟨eb, 0, none⟩) cs rs k rs[k] l := by
            obtain ⟨es, clock, since, seen, last, _, _, h3, _⟩ := hit
            exact (hI.keep (wr' := wr.drewN nn) (below_drewN (Below.refl _ _) _)).iter (o := .mapIter (some rs[k]) since seen last) hszo h3 (by intro cs T fr e; cases e) (by intro es c e; cases e)
          have hsW : (setBlock (wr.drewN nn) wo.heap.size o3).heap.size = wr.heap.size := setBlock_size _ _ _
          have hdn : done.length + 1 ≤ 2080 := by
            have h1 := items_bound (g := g) (m := k) (l := z :: done) ?_ ?_ h32 h4 (by omega)
            · simpa using h1
            · obtain ⟨es, clock, since, seen, last, _, _, _, _, _, _, _, hnd, hsub⟩ := hit2
              exact hnd
            · intro y hy
              obtain ⟨es, clock, since, seen, last, _, _, _, _, _, _, _, hnd, hsub⟩ := hit2
              exact hI2.feed.ok k y hkx (by rw [updS_same]; exact hsub y hy)
          generalize setBlock (wr.drewN nn) wo.heap.size o3 = W1 at hnx hit2 hent hI2 hsW
          clear hI hit
          obtain ⟨m, e, h'⟩ := z
          have hok : OkItem g k (m, e, h') := hI2.feed.ok k _ hkx (by rw [updS_same]; exact hzk)
          have HWO := Lib.hid hwo
          have HS1 := Lib.hid hsW
          clear hsW hwo
          unfold itemV at hnx hent
          have hI3 := hI2.keep (wr' := W1.alloc (.cells #[.int .i64 m, .int .i64 e, .int .i64 h'] 114)) ((Below.refl _ _).alloc (Nat.le_refl _) _)
          have hit3 := hit2.below (w' := W1.alloc (.cells #[.int .i64 m, .int .i64 e, .int .i64 h'] 114)) ((Below.refl _ _).alloc (Nat.le_refl _) _)
          go_wp2_with fail
          refine (follow_any (m, e, h') k _ hI3.feed hok hkx h32 h4 hx).mono ?_
          rintro e2 w2 ⟨v, ys, rfl, ⟨hown, hb2⟩, hys⟩
          have hmx := own_max hown
          obtain ⟨va, vc, rfl⟩ := own_form hown
          have hI4 := hI3.keep hb2
          have hit4 := hit3.below hb2
          have hw2 : wo.heap.size < w2.heap.size := by have := hb2.size; have := HS1.out; have := HWO.out; rw [World.size_alloc] at *; omega
          generalize hbase : (W1.alloc (.cells #[.int .i64 m, .int .i64 e, .int .i64 h'] 114)).heap.size = base at hown
          have hclo : ∀ y ∈ ys, Clo g gd S k (S k) y ∧ OkItem g k y := fun y hy => by
            have h5 := (hys y).1 hy
            exact ⟨fol_clo hI2.clo hzk h5, fol_ok (fun j z hj hz => hI2.feed.ok j z (by omega) hz) hok h5⟩
          have hP0 : (u5 = .bool true ∧ l1.length < l.length) ∨ (u5 = .bool false ∧ l = l1 ∧ (∀ z ∈ done, ∀ y, Fol g gd (updS S k (fun z => z ∈ l1.map (·.1))) k z y → y ∈ l1.map (·.1)) ∧ ∀ y, y ∈ ys ↔ Fol g gd (updS S k (fun z => z ∈ l1.map (·.1))) k (m, e, h') y) := by
            rcases hP with hP | ⟨h1, rfl, h2⟩
            · exact .inl hP
            · exact .inr ⟨h1, rfl, h2, hys⟩
          clear hys hbase hb2 hI2 hI3 hit2 hit3 hP hnx hent
          go_wp2
          go_loopg [5, 28] ys.length (fun gk m2 i wr => ∃ (q : Nat) (l' : List (Item × Bool)), q ≤ ys.length ∧ gk = ys.length - q ∧ i = .int .i64 q ∧ CInv D w wr bf lim g gd x S A cr B cg C cw (some ⟨eb, 0, none⟩) cs rs k rs[k] l' ∧ Iter itemV Value.bool wr wo.heap.size rs[k] l' (l1.map (·.1)) ((m, e, h') :: done) ∧
            wr.ownsRow base 114 3 (.slice va ys.length vc) ys.length (itemCells ys) ∧ wo.heap.size < wr.heap.size ∧ ((m2 = .bool true ∧ l1.length < l'.length) ∨ (m2 = .bool false ∧ l' = l1 ∧ (∀ z ∈ done, ∀ y, Fol g gd (updS S k (fun z => z ∈ l1.map (·.1))) k z y → y ∈ l1.map (·.1)) ∧ (∀ y, y ∈ ys ↔ Fol g gd (updS S k (fun z => z ∈ l1.map (·.1))) k (m, e, h') y) ∧ ∀ j (hj : j < ys.length), j < q → ys[j] ∈ l1.map (·.1))))
          case atStart =>
            refine ⟨0, l, by omega, by omega, rfl, hI4, hit4, hown, hw2, ?_⟩
            rcases hP0 with hP | ⟨h1, h2, h3, h4⟩
            · exact .inl hP
            · exact .inr ⟨h1, h2, h3, h4, fun j _ hj => by omega⟩
          case round =>
            clear hI4 hit4 hown hw2 hP0
            obtain ⟨q, l', hq, rfl, rfl, hI, hit, hown, hwr, hP⟩ := hrel
            by_cases hlt : q < ys.length
            · obtain ⟨b5, c5, he5, hl5, k1, k2, k3⟩ := own_item hown q hlt
              injection he5 with he5 he6 he7
              subst he5
              subst he7
              obtain ⟨hc1, hc2⟩ := hclo ys[q] (by simp)
              generalize hyq : ys[q] = y at k1 k2 k3 hc1 hc2
              have HYQ := Lib.hid hyq
              clear hyq
              obtain ⟨y1, y2, y3⟩ := y
              have hI5 := hI.keep (wr' := wr.alloc (.cells #[.int .i64 y1, .int .i64 y2, .int .i64 y3] 114)) ((Below.refl _ _).alloc (Nat.le_refl _) _)
              have hit5 := hit.below (w' := wr.alloc (.cells #[.int .i64 y1, .int .i64 y2, .int .i64 y3] 114)) ((Below.refl _ _).alloc (Nat.le_refl _) _)
              have hlook0 := run_look (P := Try.prog) Try.itemKey Try.underlying112 Try.zeroBool hI5.map (y1, y2, y3)
              rw [key_bool _ hI5.tru] at hlook0
              have hqz : (q : Int) < (ys.length : Int) := by omega
              have hown5 := hown.alloc (.cells #[.int .i64 y1, .int .i64 y2, .int .i64 y3] 114)
              by_cases hin : (y1, y2, y3) ∈ l'.map (·.1)
              · rw [if_pos hin] at hlook0
                have hlook : (Instr.lookup 112 (.map (some rs[k])) (.agg #[.int .i64 y1, .int .i64 y2, .int .i64 y3]) false).run Try.prog (wr.alloc (.cells #[.int .i64 y1, .int .i64 y2, .int .i64 y3] 114)) = .ok (.bool true) (wr.alloc (.cells #[.int .i64 y1, .int .i64 y2, .int .i64 y3] 114)) := hlook0
                clear hlook0
                go_wp2_with fail
                go_roundg (ys.length - (q + 1))
                case measure => omega
                case rel =>
                  refine ⟨q + 1, l', by omega, rfl, by go_num, hI5, hit5, hown5, by rw [World.size_alloc]; omega, ?_⟩
                  rcases hP with hP | ⟨h1, h2, h3, h4, h5⟩
                  · exact .inl hP
                  · refine .inr ⟨h1, h2, h3, h4, fun j hj hjq => ?_⟩
                    rcases Nat.lt_or_ge j q with h6 | h6
                    · exact h5 j hj h6
                    · obtain rfl : j = q := by omega
                      rw [HYQ.out, ← h2]; exact hin
              · rw [if_neg hin] at hlook0
                have hlook : (Instr.lookup 112 (.map (some rs[k])) (.agg #[.int .i64 y1, .int .i64 y2, .int .i64 y3]) false).run Try.prog (wr.alloc (.cells #[.int .i64 y1, .int .i64 y2, .int .i64 y3] 114)) = .ok (.bool false) (wr.alloc (.cells #[.int .i64 y1, .int .i64 y2, .int .i64 y3] 114)) := hlook0
                obtain ⟨o6, hput0, hit6⟩ := hit5.put (P := Try.prog) Try.itemKey Try.underlying112 (y1, y2, y3) true hin itemV_inj
                have hput : (Instr.mapUpdate 112 (.map (some rs[k])) (.agg #[.int .i64 y1, .int .i64 y2, .int .i64 y3]) (.bool true)).run Try.prog (wr.alloc (.cells #[.int .i64 y1, .int .i64 y2, .int .i64 y3] 114)) = .ok () (setBlock (wr.alloc (.cells #[.int .i64 y1, .int .i64 y2, .int .i64 y3] 114)) rs[k] o6) := hput0
                clear hlook0 hput0
                go_wp2_with fail
                go_roundg (ys.length - (q + 1))
                case measure => omega
                case rel =>
                  refine ⟨q + 1, l' ++ [((y1, y2, y3), true)], by omega, rfl, by go_num, hI5.put hk hit6.isMap hc2 hc1, hit6, own_kept hown5 (grown_setBlock _ _ _) ?_, by rw [setBlock_size, World.size_alloc]; omega, .inl ⟨rfl, ?_⟩⟩
                  · obtain ⟨es, c, h1, _⟩ := hI5.map
                    rw [h1]; intro cs T fr e; cases e
                  · rw [List.length_append]
                    rcases hP with ⟨_, h1⟩ | ⟨_, h2, _⟩
                    · omega
                    · subst h2; simp
            · obtain rfl : q = ys.length := by omega
              go_wp2
              go_roundg (2080 - (done.length + 1))
              case measure => omega
              case rel =>
                refine ⟨l', (m, e, h') :: done, hI, hit, rfl, hwr, ?_⟩
                rcases hP with hP | ⟨h1, h2, h3, h4, h5⟩
                · exact .inl hP
                · refine .inr ⟨h1, h2, fun z hz y hy => ?_⟩
                  rcases List.mem_cons.1 hz with rfl | hz
                  · obtain ⟨j, hj, rfl⟩ := List.getElem_of_mem ((h4 y).2 hy)
                    exact h5 j hj hj
                  · exact h3 z hz y hy
    · obtain ⟨rfl, rfl, hcl⟩ := hm
      go_wp2
      refine bodyPost_end (v := .tuple #[]) (by kernel_rfl) rfl ?_
      refine ⟨rfl, hI.grown, ?_⟩
      have hS : (updS S k (Clo g gd S k (S k))) = updS S k (fun z => z ∈ l1.map (·.1)) := by
        funext j
        by_cases e : j = k
        · subst e
          rw [updS_same, updS_same]
          funext z
          exact propext ⟨fun h => clo_of_closed hI.base (fun a b ha hab => hcl a b ha hab) z h, hI.clo z⟩
        · rw [updS_other _ _ _ e, updS_other _ _ _ e]
      rw [hS]; exact hI.feed
end
end Go.Proofs.Ytcndbohiiodndaa
