import Derived.Test.YtdbkbkopcnkgcaaOwn
import Derived.Test.YtdbkbkopcnkgcaaGramC
import Derived.BigQuiet
import Derived.WalkSpells
open Go Go.RowKit
namespace Go.Proofs.Ytdbkbkopcnkgcaa

theorem tmod_emod (x n : Int) : x.tmod n % n = x % n := by
  have h := Int.tmod_add_mul_tdiv x n
  have e : x.tmod n = x + n * (-(x.tdiv n)) := by rw [Int.mul_neg]; omega
  rw [e, Int.add_mul_emod_self_left]
theorem tmod_ge (x n : Int) (hn : 0 < n) : -n < x.tmod n := by
  have h := Int.tmod_lt_of_pos (-x) hn
  rw [Int.neg_tmod] at h
  omega

theorem below_int (x n : Int) (w : World) (hn : 0 < n ∧ n ≤ 9223372036854775807) :
    Calls Try.prog 30 #[.int .i64 x, .int .i64 n] w fun e w' => e = .returned (.int .i64 (x % n)) ∧ w' = w := by
  have h1 := Int.tmod_lt_of_pos x hn.1
  have h2 := tmod_ge x n hn.1
  have h3 := tmod_emod x n
  by_cases hneg : x.tmod n < 0
  · have hng : decide (x.tmod n < 0) = true := by simpa using hneg
    have heq : x % n = x.tmod n + n := by
      rw [← h3, ← Int.add_emod_right, Int.emod_eq_of_lt (by omega) (by omega)]
    rw [heq]
    clear heq h3
    go_enter Try.func30, Try.ntmps30
    go_wp2_with fail
    go_ret
    exact ⟨rfl, rfl⟩
  · have hng : decide (x.tmod n < 0) = false := by simpa using hneg
    have heq : x % n = x.tmod n := by
      rw [← h3, Int.emod_eq_of_lt (by omega) (by omega)]
    rw [heq]
    clear heq h3
    go_enter Try.func30, Try.ntmps30
    go_wp2_with fail
    go_ret
    exact ⟨rfl, rfl⟩

/-- numbers one by one, then zeros -/
structure Stream (F : Nat → Prop) (w : World) (sb : Nat) (l : List Int) : Prop where
  sl : ∃ A c, w.heap[sb]? = some (.cells #[.slice A l.length c] 150 (0, 0)) ∧ l.length ≤ c ∧ IsSl Elt.int F w (.slice A l.length c) l
  ne : ¬ F sb

theorem Stream.len {F : Nat → Prop} {w : World} {sb : Nat} {l : List Int} (h : Stream F w sb l) : l.length ≤ 9223372036854775807 := by
  obtain ⟨A, c, _, _, h1⟩ := h.sl
  exact h1.len.2
theorem Stream.lt {F : Nat → Prop} {w : World} {sb : Nat} {l : List Int} (h : Stream F w sb l) : sb < w.heap.size := by
  obtain ⟨A, c, h1, _, _⟩ := h.sl
  exact blk_lt h1

theorem grown_setCell (w : World) (b i : Nat) (v : Value) : w.grownBy (w.setCell ⟨b, i, none⟩ v) (some b) :=
  ⟨rfl, rfl, rfl, by rw [size_setCell]; exact Nat.le_refl _, fun k _ hk => heap_set_ne (fun e => hk (by rw [e])) _ _⟩
theorem tail_sl {F : Nat → Prop} {w : World} {b o n c c' : Nat} {x : Int} {l : List Int} (h : IsSl Elt.int F w (.slice (some ⟨b, o, none⟩) n c) (x :: l)) : IsSl Elt.int F w (.slice (some ⟨b, o + 1, none⟩) l.length c') l := by
  obtain ⟨A, c2, he, hl, h⟩ := h
  injection he with he1 he2 he3
  subst he1
  refine ⟨_, _, rfl, by simp at hl; omega, fun k hk => ?_⟩
  obtain ⟨b', o', h1, h2, h3, h4⟩ := h (k + 1) (by simpa using hk)
  injection h1 with h1
  injection h1 with h5 h6
  subst h5
  subst h6
  refine ⟨b, o + 1, rfl, h2, h3, ?_⟩
  rw [show o + 1 + k * Elt.int.sz = o + (k + 1) * Elt.int.sz by show o + 1 + k * 1 = o + (k + 1) * 1; omega]
  simpa using h4

set_option maxRecDepth 100000 in
theorem next_int (F : Nat → Prop) (sb : Nat) (l : List Int) (n : Int) (w : World) (hs : Stream F w sb l) (hn : 0 < n ∧ n ≤ 9223372036854775807) :
    Calls Try.prog 87 #[.pointer (some ⟨sb, 0, none⟩), .int .i64 n] w fun e w' => ∃ v : Int, e = .returned (.int .i64 v) ∧ 0 ≤ v ∧ v < n ∧ w.grownBy w' (some sb) ∧ ∃ l', Stream F w' sb l' := by
  have hl := hs.len
  obtain ⟨⟨A, c, hblk, hcap, hsl⟩, hne⟩ := hs
  have hc := blk_cell hblk (i := 0) rfl
  have hf : w.frozen? ⟨sb, 0, none⟩ = false := blk_free hblk
  cases l with
  | nil =>
    simp only [List.length_nil] at hc
    go_enter Try.func87, Try.ntmps87
    go_wp2_with fail
    go_ret
    exact ⟨0, rfl, by omega, hn.1, ⟨rfl, rfl, rfl, Nat.le_refl _, fun _ _ _ => rfl⟩, [], ⟨A, c, hblk, hcap, hsl⟩, hne⟩
  | cons x l =>
    obtain ⟨b, o, rfl, hF, hbl, hx⟩ := IsSl.oneAt hsl 0 (by simp)
    simp only [Nat.add_zero, List.getElem_cons_zero] at hx
    have hl0 : ((l.length : Int) + 1 == 0) = false := by rw [beq_eq_false_iff_ne]; omega
    have hcap2 : l.length + 1 ≤ c := hcap
    have hl1 : l.length + 1 ≤ 9223372036854775807 := hl
    by_cases hc1 : c = 1
    · subst hc1
      obtain rfl : l = [] := List.eq_nil_of_length_eq_zero (by omega)
      go_enter Try.func87, Try.ntmps87
      go_wp2_with fail
      refine (below_int x n _ hn).mono ?_
      rintro e1 w1 ⟨rfl, rfl⟩
      go_wp2
      go_ret
      exact ⟨x % n, rfl, Int.emod_nonneg _ (by omega), Int.emod_lt_of_pos _ hn.1, grown_setCell _ _ _ _, [], ⟨_, _, (heap_set hblk _ _).trans rfl, Nat.le_refl _, _, _, rfl, by simp, fun k hk => absurd hk (by simp)⟩, hne⟩
    · go_enter Try.func87, Try.ntmps87
      go_wp2_with fail
      refine (below_int x n _ hn).mono ?_
      rintro e1 w1 ⟨rfl, rfl⟩
      go_wp2
      go_ret
      exact ⟨x % n, rfl, Int.emod_nonneg _ (by omega), Int.emod_lt_of_pos _ hn.1, grown_setCell _ _ _ _, l, ⟨_, _, (heap_set hblk _ _).trans rfl, by omega, (tail_sl hsl).keep (fun k hk => heap_set_ne (fun e => hne (by rw [← e]; exact hk)) _ _) (by rw [size_setCell]; exact Nat.le_refl _)⟩, hne⟩

def eqUpTo (a b : List Sym) (n : Nat) : Bool := decide (a.take n = b.take n)
theorem eqUpTo_step {a b : List Sym} {n : Nat} (ha : n < a.length) (hb : n < b.length) : eqUpTo a b (n + 1) = (eqUpTo a b n && decide (a[n] = b[n])) := by
  unfold eqUpTo
  rw [List.take_add_one, List.take_add_one, List.getElem?_eq_getElem ha, List.getElem?_eq_getElem hb, Option.toList_some, Option.toList_some]
  have hl : (a.take n).length = (b.take n).length := by rw [List.length_take, List.length_take]; omega
  have h : (a.take n ++ [a[n]] = b.take n ++ [b[n]]) ↔ (a.take n = b.take n ∧ a[n] = b[n]) :=
    ⟨fun h => by obtain ⟨h1, h2⟩ := List.append_inj h hl; exact ⟨h1, by simpa using h2⟩, fun ⟨h1, h2⟩ => by rw [h1, h2]⟩
  rw [decide_eq_decide.2 h, Bool.decide_and]

set_option maxRecDepth 100000 in
set_option maxHeartbeats 1600000 in
theorem has_any (F : Nat → Prop) (xs : List Rule) (r : Rule) (A : Option Addr) (n c : Nat) (A2 : Option Addr) (n2 c2 : Nat) (w : World) (hx : IsSl Elt.rule F w (.slice A n c) xs) (hr : IsSl Elt.sym F w (.slice A2 n2 c2) r.r) (h32 : xs.length ≤ 32) (h4 : r.r.length ≤ 4) :
    Calls Try.prog 88 #[.slice A n c, .agg #[.int .i64 r.l, .slice A2 n2 c2]] w fun e w' => e = .returned (.bool (decide (r ∈ xs))) ∧ Below w.heap.size w w' := by
  obtain ⟨rfl, hn⟩ := hx.len
  obtain ⟨rfl, hn2⟩ := hr.len
  have hb0 : Below w.heap.size w (w.alloc (.cells #[.int .i64 r.l, .slice A2 r.r.length c2] 47)) := (Below.refl _ _).alloc (Nat.le_refl _) _
  have hk0 := heap_alloc_new w (.cells #[.int .i64 r.l, .slice A2 r.r.length c2] 47)
  go_enter Try.func88, Try.ntmps88
  go_wp2_with fail
  go_loopg [11] xs.length (fun gk i wr => ∃ q : Nat, q ≤ xs.length ∧ gk = xs.length - q ∧ i = .int .i64 q ∧ Below w.heap.size w wr ∧ wr.heap[w.heap.size]? = some (.cells #[.int .i64 r.l, .slice A2 r.r.length c2] 47 (0, 0)) ∧ r ∉ xs.take q)
  case atStart => exact ⟨0, by omega, by omega, rfl, hb0, hk0, by simp⟩
  case round =>
    clear hb0 hk0
    obtain ⟨q, hq, rfl, rfl, hb, hk, hno⟩ := hrel
    obtain ⟨wo, rfl⟩ : ∃ wo : World, wo = wr := ⟨_, rfl⟩
    by_cases hlt : q < xs.length
    · obtain ⟨b, o, rfl, hF, hl, hc1, A', c', hc2, hsy⟩ := (hx.below hb).ruleAt q hlt
      have hkl := blk_lt hk
      have hk1 := blk_cell hk (i := 0) rfl
      have hk2 := blk_cell hk (i := 1) rfl
      have hqz : (q : Int) < (xs.length : Int) := by omega
      have htake : xs.take (q + 1) = xs.take q ++ [xs[q]] := by rw [List.take_add_one, List.getElem?_eq_getElem hlt]; rfl
      have HT := Lib.hid htake
      have hmem : xs[q] ∈ xs := by simp
      have HM := Lib.hid hmem
      clear htake hmem
      generalize xs[q] = y at hc1 hc2 hsy HT HM
      have hnext : y ≠ r → r ∉ xs.take (q + 1) := fun hne => by
        rw [HT.out, List.mem_append]
        rintro (h | h)
        · exact hno h
        · simp only [List.mem_singleton] at h; exact hne h.symm
      have hb1 : Below w.heap.size w (wo.alloc (.cells #[.int .i64 y.l, .slice A' y.r.length c'] 47)) := hb.alloc hb.size _
      have hbw : Below wo.heap.size wo (wo.alloc (.cells #[.int .i64 y.l, .slice A' y.r.length c'] 47)) := (Below.refl _ _).alloc (Nat.le_refl _) _
      have hk3 := blk_below hbw hkl hk
      have hy3 := heap_alloc_new wo (.cells #[.int .i64 y.l, .slice A' y.r.length c'] 47)
      by_cases hll : y.l = r.l
      · obtain ⟨yl, yr⟩ := y
        simp only at hll hc1 hc2 hsy hb1 hbw hk3 hy3
        subst hll
        by_cases hln : yr.length = r.r.length
        · rw [hln] at hc2 hsy hb1 hbw hk3 hy3
          have HLN := Lib.hid hln
          clear hln
          go_wp2_with fail
          go_loopg [7, 32] r.r.length (fun gk ok i wr => ∃ e : Nat, e ≤ r.r.length ∧ gk = r.r.length - e ∧ i = .int .i64 e ∧ ok = .bool (eqUpTo yr r.r e) ∧ Below w.heap.size w wr ∧ Below (wo.heap.size + 1) (wo.alloc (.cells #[.int .i64 r.l, .slice A' r.r.length c'] 47)) wr)
          case atStart => exact ⟨0, by omega, by omega, rfl, rfl, hb1, Below.refl _ _⟩
          case round =>
            clear hb1
            obtain ⟨e, he, rfl, rfl, rfl, hb2, hb3⟩ := hrel
            have hwo := hb3.size
            rw [World.size_alloc] at hwo
            have hk4 := blk_below hb3 (by omega) hk3
            have hy4 := blk_below hb3 (by omega) hy3
            have hk41 := blk_cell hk4 (i := 1) rfl
            have hy41 := blk_cell hy4 (i := 1) rfl
            by_cases hlt2 : e < r.r.length
            · obtain ⟨b3, o3, rfl, hF3, hl3, hc3, hc4⟩ := (hsy.below (hbw.trans (hb3.mono (by omega)))).symAt e (by have := HLN.out; omega)
              obtain ⟨b4, o4, rfl, hF4, hl4, hc5, hc6⟩ := (hr.below hb2).symAt e hlt2
              have hez2 : (e : Int) < (r.r.length : Int) := by omega
              have hst := eqUpTo_step (show e < yr.length by have := HLN.out; omega) hlt2
              have HS := Lib.hid hst
              clear hst
              generalize yr[e]'(by have := HLN.out; omega) = ys at hc3 hc4 HS
              generalize r.r[e] = rsy at hc5 hc6 HS
              generalize eqUpTo yr r.r e = ok at HS
              obtain ⟨yt, yn⟩ := ys
              obtain ⟨rt, rn⟩ := rsy
              cases ok with
              | false =>
                go_wp2_with fail
                go_quiet (fail)
                go_wp2_with fail
                go_roundg (r.r.length - (e + 1))
                case measure => omega
                case rel => exact ⟨e + 1, by omega, rfl, by go_num, by rw [HS.out]; simp, below_drewN hb2 _, below_drewN hb3 _⟩
              | true =>
                have hres : decide ((⟨yt, yn⟩ : Sym) = ⟨rt, rn⟩) = ((yt == rt) && (yn == rn)) := by
                  by_cases h1 : yn = rn <;> cases yt <;> cases rt <;> simp [h1]
                rw [hres] at HS
                clear hres
                cases hnn : (yn == rn) <;> cases yt <;> cases rt <;> rw [hnn] at HS
                all_goals
                  go_wp2_with fail
                  go_quiet (fail)
                  go_wp2_with fail
                  go_roundg (r.r.length - (e + 1))
                  case measure => omega
                  case rel => exact ⟨e + 1, by omega, rfl, by go_num, by rw [HS.out]; rfl, below_drewN hb2 _, below_drewN hb3 _⟩
            · obtain rfl : e = r.r.length := by omega
              have hfull : eqUpTo yr r.r r.r.length = decide ((⟨r.l, yr⟩ : Rule) = r) := by
                have h2 := HLN.out
                obtain ⟨rl, rr⟩ := r
                simp only at h2
                simp only [eqUpTo, List.take_length, Rule.mk.injEq, true_and]
                rw [← h2, List.take_length]
              rw [hfull]
              by_cases hyr : (⟨r.l, yr⟩ : Rule) = r
              · have hd : decide ((⟨r.l, yr⟩ : Rule) = r) = true := by simp [hyr]
                have hin : decide (r ∈ xs) = true := by have h5 := HM.out; rw [hyr] at h5; simpa using h5
                rw [hd]
                have HIN := Lib.hid hin
                clear hfull hyr hd hin
                go_wp2
                go_ret
                exact ⟨ret_bool HIN.out.symm, hb2⟩
              · have hd : decide ((⟨r.l, yr⟩ : Rule) = r) = false := by simp [hyr]
                have hno2 := hnext hyr
                rw [hd]
                clear hfull hyr hd hnext
                go_wp2
                go_roundg (xs.length - (q + 1))
                case measure => omega
                case rel => exact ⟨q + 1, by omega, rfl, by go_num, hb2, hk4, hno2⟩
        · have hlnb : ((yr.length : Int) == (r.r.length : Int)) = false := by rw [beq_eq_false_iff_ne]; omega
          have hno2 := hnext (fun h => hln (by rw [← h]))
          clear hnext hln
          go_wp2_with fail
          go_roundg (xs.length - (q + 1))
          case measure => omega
          case rel => exact ⟨q + 1, by omega, rfl, by go_num, hb1, hk3, hno2⟩
      · have hlb : (y.l == r.l) = false := by simp [hll]
        have hno2 := hnext (fun h => hll (by rw [h]))
        clear hnext hll
        go_wp2_with fail
        go_roundg (xs.length - (q + 1))
        case measure => omega
        case rel => exact ⟨q + 1, by omega, rfl, by go_num, hb1, hk3, hno2⟩
    · obtain rfl : q = xs.length := by omega
      rw [List.take_length] at hno
      have hd : decide (r ∈ xs) = false := by simpa using hno
      have HIN := Lib.hid hd
      clear hd
      go_wp2
      go_ret
      exact ⟨ret_bool HIN.out.symm, hb⟩
end Go.Proofs.Ytdbkbkopcnkgcaa
