import Derived.Test.YtcndbohiiodndaaFeeds
open Go Go.RowKit
namespace Go.Proofs.Ytcndbohiiodndaa

set_option maxRecDepth 100000 in
set_option maxHeartbeats 1600000 in
theorem feedWords_any (F F2 : Nat → Prop) (l l2 : List Int) (A : Option Addr) (n c : Nat) (A2 : Option Addr) (n2 c2 : Nat) (w : World) (hl : IsSl Elt.int F w (.slice A n c) l) (hl2 : IsSl Elt.int F2 w (.slice A2 n2 c2) l2) (hnc : n ≤ c) :
    Calls Try.prog 3 #[.slice A n c, .slice A2 n2 c2] w fun e w' => e = .returned (.bool true) ∧ Below w.heap.size w w' := by
  go_enter Try.func3, Try.ntmps3
  go_wp2_with fail
  refine (made_any F F2 l l2 A n c A2 n2 c2 9 w hl hl2 hnc (by decide)).mono ?_
  rintro e1 w1 ⟨g, A', c', x, C, cx, rfl, hM⟩
  have hv := hM.small.valid
  have hx9 := hM.most
  have hcx := hM.capx
  have hbA : Below w1.heap.size w1 (w1.alloc (.cells #[.int .i64 g.terms, .int .i64 g.nons, .int .i64 g.start, .slice A' g.rules.length c'] 25)) := (Below.refl _ _).alloc (Nat.le_refl _) _
  have hgb := heap_alloc_new w1 (.cells #[.int .i64 g.terms, .int .i64 g.nons, .int .i64 g.start, .slice A' g.rules.length c'] 25)
  have hrA := hM.rules.below hbA
  have hxA := hM.word.below hbA
  have hb1 : Below w.heap.size w (w1.alloc (.cells #[.int .i64 g.terms, .int .i64 g.nons, .int .i64 g.start, .slice A' g.rules.length c'] 25)) := hM.below.trans (hbA.mono hM.below.size)
  have hsA : (w1.alloc (.cells #[.int .i64 g.terms, .int .i64 g.nons, .int .i64 g.start, .slice A' g.rules.length c'] 25)).heap.size = w1.heap.size + 1 := World.size_alloc _ _
  unfold gramV
  go_wp2_with fail
  refine (new_feed _ g A' _ c' _ hrA hv hM.cap).mono ?_
  rintro e2 w2 ⟨bf, lim, gd, rfl, hb2, hbf, hlim, hf2⟩
  go_wp2_with fail
  refine (feeds_any w2).mono ?_
  rintro e3 w3 ⟨rfl, hb3⟩
  have hf3 := hf2.below hb3
  generalize hWA : (w1.alloc (.cells #[.int .i64 g.terms, .int .i64 g.nons, .int .i64 g.start, .slice A' g.rules.length c'] 25)) = WA at hgb hrA hxA hb1 hsA hb2 hbf hlim hb3
  have hb3' : Below WA.heap.size WA w3 := hb2.trans (hb3.mono hb2.size)
  have hgb3 := blk_below hb3' (by omega) hgb
  have hk0 := blk_cell hgb3 (i := 0) rfl
  have hk1 := blk_cell hgb3 (i := 1) rfl
  have hk2 := blk_cell hgb3 (i := 2) rfl
  have hk3 := blk_cell hgb3 (i := 3) rfl
  go_wp2_with fail
  have hok : OkWord g x := hM.terms
  refine (accepts_any _ g A' _ c' x C _ cx w3 (hrA.below hb3') hv hM.cap (hxA.below hb3') hok (by omega)).mono ?_
  rintro e4 w4 ⟨whole, rfl, hwh, hb4⟩
  have hf4 := hf3.below hb4
  have hb4' := hb3'.trans (hb4.mono hb3'.size)
  have hgd := hf4.1
  have HW := Lib.hid hwh
  clear hwh hf2 hf3 hb2 hb3 hb4 hgb3 hk0 hk1 hk2 hk3 hl hl2
  go_wp2_with fail
  go_loopg [45] (x.length + 1) (fun gk i wr => ∃ (q : Nat) (D : Nat → Prop), q ≤ x.length + 1 ∧ gk = x.length + 1 - q ∧ i = .int .i64 q ∧ Below WA.heap.size WA wr ∧ (q ≤ x.length → IsFeed D wr bf lim g gd (x.take q)))
  case atStart => exact ⟨0, _, by omega, by omega, rfl, hb4', fun _ => hf4⟩
  case round =>
    clear hf4 hb4'
    obtain ⟨q, D, hq, rfl, rfl, hb, hfq⟩ := hrel
    by_cases hlt : q < x.length + 1
    · have hf := hfq (by omega)
      clear hfq
      have hqz : decide ((q : Int) < (x.length : Int) + 1) = true := by simp; omega
      have hgbr := blk_below hb (by omega) hgb
      have hk0 := blk_cell hgbr (i := 0) rfl
      have hk1 := blk_cell hgbr (i := 1) rfl
      have hk2 := blk_cell hgbr (i := 2) rfl
      have hk3 := blk_cell hgbr (i := 3) rfl
      have hql : (x.take q).length = q := by rw [List.length_take]; omega
      have hbd : Below wr.heap.size wr wr.drew := (Below.refl _ _).drew
      have hrd := (hrA.below hb).below hbd
      have hxd : IsSl Elt.int (fun b => w.heap.size ≤ b) wr.drew (.slice C (x.take q).length cx) (x.take q) := by
        rw [hql]; exact take_sl ((hxA.below hb).below hbd) q (by omega)
      rw [hql] at hxd
      have hokq : OkWord g (x.take q) := fun t ht => hok t (List.mem_of_mem_take ht)
      have hqx : q ≤ cx := by omega
      have hqx2 : q ≤ x.length := by omega
      have hacc := accepts_any _ g A' _ c' (x.take q) C q cx wr.drew hrd hv hM.cap hxd hokq (by omega)
      unfold gramV at hacc
      go_wp2_with fail
      go_region_law (first | (refine step_call rfl 20 Try.f20 Try.func20 (by kernel_rfl) (by kernel_rfl) [_, _] _ rfl [.agg #[.int .i64 g.terms, .int .i64 g.nons, .int .i64 g.start, .slice A' g.rules.length c'], .slice C q cx] rfl _ hacc ?_; rintro e5 w5 ⟨ok, rfl, hokw, hb5⟩; refine ⟨_, rfl, ?_⟩))
      go_wp2_with fail
      have hb5' : Below WA.heap.size WA w5 := hb.trans ((hbd.trans hb5).mono hb.size)
      have hf5 := (hf.below hbd).below hb5
      refine (next_feed w5 hf5 hv (by rw [hql]; omega)).mono ?_
      rintro e6 w6 ⟨bo, o, rfl, ho, hb6, hbo, hko⟩
      have hf6 := hf5.below hb6
      have hb6' := hb5'.trans (hb6.mono hb5'.size)
      have t1 := hv.t1
      have t8 := hv.t8
      have hol := ho.len
      have hTl : g.terms.toNat < o.length := by omega
      have hgd6 := hf6.1
      have hoT : o[g.terms.toNat] = ok := by
        have h1 := ho.fin.trans (nextE_iff hgd6)
        rw [List.getElem?_eq_getElem hTl] at h1
        have h2 := h1.trans hokw.symm
        cases hx1 : o[g.terms.toNat] <;> cases ok <;> simp [hx1] at h2 ⊢
      have hcT : w6.cell? ⟨bo, g.terms.toNat, none⟩ = some (.bool ok) := blk_cell hko (by simp [hTl, hoT])
      have hlb : ((o.length : Int) == g.terms + 1) = true := by simp [hol]
      have hTz : g.terms < (o.length : Int) := by omega
      have hT0 : 0 ≤ g.terms := by omega
      have hgb6 := blk_below hb6' (by omega) hgb
      have hk0 := blk_cell hgb6 (i := 0) rfl
      have hbol := blk_lt hko
      have HOL := Lib.hid hol
      clear hol hoT hf hf5 hb5 hb6 hbd hrd hxd hacc hb5' hb
      by_cases hqe : q < x.length
      · have hqez : (q : Int) < (x.length : Int) := by omega
        obtain ⟨b, o', rfl, _, hbx, hcx2⟩ := (hxA.below hb6').oneAt q hqe
        have htk := hok x[q] (by simp)
        have hxq := List.getElem?_eq_getElem hqe
        have htake : x.take (q + 1) = x.take q ++ [x[q]] := by rw [List.take_add_one, hxq]; rfl
        have hwn : whole = true → NextT g (EI g gd (x.take q) (x.take q).length) x[q] := fun hwt => by
          obtain ⟨m, e, h', r, k1, k2⟩ := nextT_whole hgd6 (HW.out.1 hwt) hxq
          rw [hql]
          exact ⟨m, e, h', r, ei_prefix (n := q) (fun j hj => by rw [List.getElem?_take, if_pos hj]) k1 (Nat.le_refl _), k2⟩
        generalize x[q] = t at hcx2 htk hxq htake hwn
        obtain ⟨tk, rfl⟩ : ∃ k : Nat, t = (k : Int) := ⟨t.toNat, by omega⟩
        have htl : tk < o.length := by have := HOL.out; omega
        have htz : (tk : Int) < (o.length : Int) := by omega
        have hterm := ho.term tk htk.2
        rw [List.getElem?_eq_getElem htl] at hterm
        have hct : w6.cell? ⟨bo, tk, none⟩ = some (.bool o[tk]) := blk_cell hko (by simp [htl])
        have HT := Lib.hid hterm
        have HWN := Lib.hid hwn
        have HTK := Lib.hid htake
        clear hterm hwn htake hxq
        generalize o[tk] = is at hct HT
        go_wp2_with fail
        refine (put_feed tk w6 hf6 hv (by rw [hql]; omega) htk.2).mono ?_
        rintro e7 w7 (⟨hno, rfl, hb7⟩ | ⟨hyes, rfl, hst, hf7⟩)
        · have his : is = false := by
            cases is
            · rfl
            · exact absurd (HT.out.1 rfl) hno
          have hwf : whole = false := by
            cases whole
            · rfl
            · exact absurd (HWN.out rfl) hno
          subst his
          subst hwf
          go_wp2_with fail
          go_ret
          exact ⟨rfl, hb1.trans ((hb6'.trans (hb7.mono hb6'.size)).mono hb1.size)⟩
        · have his : is = true := by
            have := HT.out.2 hyes
            simpa using this
          subst his
          have hb7' : Below WA.heap.size WA w7 := hb6'.trans ((Away.mono hst hb6'.size (fun j _ h => h)).below (fun j hj h => by rcases h with h | ⟨h, _⟩ <;> omega))
          cases whole
          all_goals
            go_wp2_with fail
            go_roundg (x.length + 1 - (q + 1))
            case measure => omega
            case rel => exact ⟨q + 1, (fun b => D b ∨ w6.heap.size ≤ b), by omega, rfl, by go_num, hb7', fun _ => by rw [HTK.out]; exact hf7⟩
      · obtain rfl : q = x.length := by omega
        have hqez : decide ((x.length : Int) < (x.length : Int)) = false := by simp
        go_wp2_with fail
        go_roundg (x.length + 1 - (x.length + 1))
        case measure => omega
        case rel => exact ⟨x.length + 1, D, by omega, rfl, by go_num, hb6', fun h => by omega⟩
    · obtain rfl : q = x.length + 1 := by omega
      have hqz : decide (((x.length + 1 : Nat) : Int) < (x.length : Int) + 1) = false := by simp
      go_wp2_with fail
      go_ret
      exact ⟨rfl, hb1.trans (hb.mono hb1.size)⟩
end Go.Proofs.Ytcndbohiiodndaa
