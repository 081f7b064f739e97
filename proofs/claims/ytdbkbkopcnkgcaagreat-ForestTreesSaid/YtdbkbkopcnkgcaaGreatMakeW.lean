import Derived.Test.YtdbkbkopcnkgcaaGreatOwn
import Derived.Test.YtdbkbkopcnkgcaaGreatGramC
import Derived.BigQuiet
import Derived.WalkSpells
import Derived.Laws.Rows
open Go Go.RowKit
namespace Go.Proofs.YtdbkbkopcnkgcaaGreat

theorem tmod_emod (x n : Int) : x.tmod n % n = x % n := by
  have h := Int.tmod_add_mul_tdiv x n
  have e : x.tmod n = x + n * (-(x.tdiv n)) := by rw [Int.mul_neg]; omega
  rw [e, Int.add_mul_emod_self_left]
theorem tmod_ge (x n : Int) (hn : 0 < n) : -n < x.tmod n := by
  have h := Int.tmod_lt_of_pos (-x) hn
  rw [Int.neg_tmod] at h
  omega

theorem below_int (x n : Int) (w : World) (hn : 0 < n ∧ n ≤ 9223372036854775807) :
    Calls Tryz.prog 5 #[.int .i64 x, .int .i64 n] w fun e w' => e = .returned (.int .i64 (x % n)) ∧ w' = w := by
  have h1 := Int.tmod_lt_of_pos x hn.1
  have h2 := tmod_ge x n hn.1
  have h3 := tmod_emod x n
  by_cases hneg : x.tmod n < 0
  · have hng : decide (x.tmod n < 0) = true := by simpa using hneg
    have heq : x % n = x.tmod n + n := by
      rw [← h3, ← Int.add_emod_right, Int.emod_eq_of_lt (by omega) (by omega)]
    rw [heq]
    clear heq h3
    go_enter Tryz.func5, Tryz.ntmps5
    go_wp2_with fail
    go_ret
    exact ⟨rfl, rfl⟩
  · have hng : decide (x.tmod n < 0) = false := by simpa using hneg
    have heq : x % n = x.tmod n := by
      rw [← h3, Int.emod_eq_of_lt (by omega) (by omega)]
    rw [heq]
    clear heq h3
    go_enter Tryz.func5, Tryz.ntmps5
    go_wp2_with fail
    go_ret
    exact ⟨rfl, rfl⟩

/-- numbers one by one, then zeros -/
structure Stream (F : Nat → Prop) (w : World) (sb : Nat) (l : List Int) : Prop where
  sl : ∃ A c, w.heap[sb]? = some (.cells #[.slice A l.length c] 96 (0, 0)) ∧ l.length ≤ c ∧ IsSl Elt.int F w (.slice A l.length c) l
  ne : ¬ F sb

theorem Stream.len {F : Nat → Prop} {w : World} {sb : Nat} {l : List Int} (h : Stream F w sb l) : l.length ≤ 9223372036854775807 := by
  obtain ⟨A, c, _, _, h1⟩ := h.sl
  exact h1.len.2
theorem Stream.lt {F : Nat → Prop} {w : World} {sb : Nat} {l : List Int} (h : Stream F w sb l) : sb < w.heap.size := by
  obtain ⟨A, c, h1, _, _⟩ := h.sl
  exact blk_lt h1

theorem grown_setCell (w : World) (b i : Nat) (v : Value) : w.grownBy (w.setCell ⟨b, i, none⟩ v) (some b) :=
  ⟨rfl, rfl, rfl, by rw [size_setCell]; exact Nat.le_refl _, fun k _ hk => heap_set_ne (fun e => hk (by rw [e])) _ _⟩
theorem tail_sl {F : Nat → Prop} {w : World} {b o n c c' : Nat} {x : Int} {l : List Int} (h : IsSl Elt.int F w (.slice (some ⟨b, o, none⟩) n c) (x :: l)) : IsSl Elt.int F w (.slice (some ⟨b, o + 1, none⟩) l.length c') l := by
  obtain ⟨A, c2, he, hl, h⟩ := h
  injection he with he1 he2 he3
  subst he1
  refine ⟨_, _, rfl, by simp at hl; omega, fun k hk => ?_⟩
  obtain ⟨b', o', h1, h2, h3, h4⟩ := h (k + 1) (by simpa using hk)
  injection h1 with h1
  injection h1 with h5 h6
  subst h5
  subst h6
  refine ⟨b, o + 1, rfl, h2, h3, ?_⟩
  rw [show o + 1 + k * Elt.int.sz = o + (k + 1) * Elt.int.sz by show o + 1 + k * 1 = o + (k + 1) * 1; omega]
  simpa using h4

set_option maxRecDepth 100000 in
theorem next_int (F : Nat → Prop) (sb : Nat) (l : List Int) (n : Int) (w : World) (hs : Stream F w sb l) (hn : 0 < n ∧ n ≤ 9223372036854775807) :
    Calls Tryz.prog 32 #[.pointer (some ⟨sb, 0, none⟩), .int .i64 n] w fun e w' => ∃ v : Int, e = .returned (.int .i64 v) ∧ 0 ≤ v ∧ v < n ∧ w.grownBy w' (some sb) ∧ ∃ l', Stream F w' sb l' := by
  have hl := hs.len
  obtain ⟨⟨A, c, hblk, hcap, hsl⟩, hne⟩ := hs
  have hc := blk_cell hblk (i := 0) rfl
  have hf : w.frozen? ⟨sb, 0, none⟩ = false := blk_free hblk
  cases l with
  | nil =>
    simp only [List.length_nil] at hc
    go_enter Tryz.func32, Tryz.ntmps32
    go_wp2_with fail
    go_ret
    exact ⟨0, rfl, by omega, hn.1, ⟨rfl, rfl, rfl, Nat.le_refl _, fun _ _ _ => rfl⟩, [], ⟨A, c, hblk, hcap, hsl⟩, hne⟩
  | cons x l =>
    obtain ⟨b, o, rfl, hF, hbl, hx⟩ := IsSl.oneAt hsl 0 (by simp)
    simp only [Nat.add_zero, List.getElem_cons_zero] at hx
    have hl0 : ((l.length : Int) + 1 == 0) = false := by rw [beq_eq_false_iff_ne]; omega
    have hcap2 : l.length + 1 ≤ c := hcap
    have hl1 : l.length + 1 ≤ 9223372036854775807 := hl
    by_cases hc1 : c = 1
    · subst hc1
      obtain rfl : l = [] := List.eq_nil_of_length_eq_zero (by omega)
      go_enter Tryz.func32, Tryz.ntmps32
      go_wp2_with fail
      refine (below_int x n _ hn).mono ?_
      rintro e1 w1 ⟨rfl, rfl⟩
      go_wp2
      go_ret
      exact ⟨x % n, rfl, Int.emod_nonneg _ (by omega), Int.emod_lt_of_pos _ hn.1, grown_setCell _ _ _ _, [], ⟨_, _, (heap_set hblk _ _).trans rfl, Nat.le_refl _, _, _, rfl, by simp, fun k hk => absurd hk (by simp)⟩, hne⟩
    · go_enter Tryz.func32, Tryz.ntmps32
      go_wp2_with fail
      refine (below_int x n _ hn).mono ?_
      rintro e1 w1 ⟨rfl, rfl⟩
      go_wp2
      go_ret
      exact ⟨x % n, rfl, Int.emod_nonneg _ (by omega), Int.emod_lt_of_pos _ hn.1, grown_setCell _ _ _ _, l, ⟨_, _, (heap_set hblk _ _).trans rfl, by omega, (tail_sl hsl).keep (fun k hk => heap_set_ne (fun e => hne (by rw [← e]; exact hk)) _ _) (by rw [size_setCell]; exact Nat.le_refl _)⟩, hne⟩

def eqUpTo (a b : List Sym) (n : Nat) : Bool := decide (a.take n = b.take n)
theorem eqUpTo_step {a b : List Sym} {n : Nat} (ha : n < a.length) (hb : n < b.length) : eqUpTo a b (n + 1) = (eqUpTo a b n && decide (a[n] = b[n])) := by
  unfold eqUpTo
  rw [List.take_add_one, List.take_add_one, List.getElem?_eq_getElem ha, List.getElem?_eq_getElem hb, Option.toList_some, Option.toList_some]
  have hl : (a.take n).length = (b.take n).length := by rw [List.length_take, List.length_take]; omega
  have h : (a.take n ++ [a[n]] = b.take n ++ [b[n]]) ↔ (a.take n = b.take n ∧ a[n] = b[n]) :=
    ⟨fun h => by obtain ⟨h1, h2⟩ := List.append_inj h hl; exact ⟨h1, by simpa using h2⟩, fun ⟨h1, h2⟩ => by rw [h1, h2]⟩
  rw [decide_eq_decide.2 h, Bool.decide_and]

set_option maxRecDepth 100000 in
set_option maxHeartbeats 1600000 in
theorem has_any (F : Nat → Prop) (xs : List Rule) (r : Rule) (A : Option Addr) (n c : Nat) (A2 : Option Addr) (n2 c2 : Nat) (w : World) (hx : IsSl Elt.rule F w (.slice A n c) xs) (hr : IsSl Elt.sym F w (.slice A2 n2 c2) r.r) (h32 : xs.length ≤ 32) (h4 : r.r.length ≤ 4) :
    Calls Tryz.prog 33 #[.slice A n c, .agg #[.int .i64 r.l, .slice A2 n2 c2]] w fun e w' => e = .returned (.bool (decide (r ∈ xs))) ∧ Below w.heap.size w w' := by
  obtain ⟨rfl, hn⟩ := hx.len
  obtain ⟨rfl, hn2⟩ := hr.len
  have hb0 : Below w.heap.size w (w.alloc (.cells #[.int .i64 r.l, .slice A2 r.r.length c2] 99)) := (Below.refl _ _).alloc (Nat.le_refl _) _
  have hk0 := heap_alloc_new w (.cells #[.int .i64 r.l, .slice A2 r.r.length c2] 99)
  go_enter Tryz.func33, Tryz.ntmps33
  go_wp2_with fail
  go_loopg [11] xs.length (fun gk i wr => ∃ q : Nat, q ≤ xs.length ∧ gk = xs.length - q ∧ i = .int .i64 q ∧ Below w.heap.size w wr ∧ wr.heap[w.heap.size]? = some (.cells #[.int .i64 r.l, .slice A2 r.r.length c2] 99 (0, 0)) ∧ r ∉ xs.take q)
  case atStart => exact ⟨0, by omega, by omega, rfl, hb0, hk0, by simp⟩
  case round =>
    clear hb0 hk0
    obtain ⟨q, hq, rfl, rfl, hb, hk, hno⟩ := hrel
    obtain ⟨wo, rfl⟩ : ∃ wo : World, wo = wr := ⟨_, rfl⟩
    by_cases hlt : q < xs.length
    · obtain ⟨b, o, rfl, hF, hl, hc1, A', c', hc2, hsy⟩ := (hx.below hb).ruleAt q hlt
      have hkl := blk_lt hk
      have hk1 := blk_cell hk (i := 0) rfl
      have hk2 := blk_cell hk (i := 1) rfl
      have hqz : (q : Int) < (xs.length : Int) := by omega
      have htake : xs.take (q + 1) = xs.take q ++ [xs[q]] := by rw [List.take_add_one, List.getElem?_eq_getElem hlt]; rfl
      have HT := Lib.hid htake
      have hmem : xs[q] ∈ xs := by simp
      have HM := Lib.hid hmem
      clear htake hmem
      generalize xs[q] = y at hc1 hc2 hsy HT HM
      have hnext : y ≠ r → r ∉ xs.take (q + 1) := fun hne => by
        rw [HT.out, List.mem_append]
        rintro (h | h)
        · exact hno h
        · simp only [List.mem_singleton] at h; exact hne h.symm
      have hb1 : Below w.heap.size w (wo.alloc (.cells #[.int .i64 y.l, .slice A' y.r.length c'] 99)) := hb.alloc hb.size _
      have hbw : Below wo.heap.size wo (wo.alloc (.cells #[.int .i64 y.l, .slice A' y.r.length c'] 99)) := (Below.refl _ _).alloc (Nat.le_refl _) _
      have hk3 := blk_below hbw hkl hk
      have hy3 := heap_alloc_new wo (.cells #[.int .i64 y.l, .slice A' y.r.length c'] 99)
      by_cases hll : y.l = r.l
      · obtain ⟨yl, yr⟩ := y
        simp only at hll hc1 hc2 hsy hb1 hbw hk3 hy3
        subst hll
        by_cases hln : yr.length = r.r.length
        · rw [hln] at hc2 hsy hb1 hbw hk3 hy3
          have HLN := Lib.hid hln
          clear hln
          go_wp2_with fail
          go_loopg [7, 32] r.r.length (fun gk ok i wr => ∃ e : Nat, e ≤ r.r.length ∧ gk = r.r.length - e ∧ i = .int .i64 e ∧ ok = .bool (eqUpTo yr r.r e) ∧ Below w.heap.size w wr ∧ Below (wo.heap.size + 1) (wo.alloc (.cells #[.int .i64 r.l, .slice A' r.r.length c'] 99)) wr)
          case atStart => exact ⟨0, by omega, by omega, rfl, rfl, hb1, Below.refl _ _⟩
          case round =>
            clear hb1
            obtain ⟨e, he, rfl, rfl, rfl, hb2, hb3⟩ := hrel
            have hwo := hb3.size
            rw [World.size_alloc] at hwo
            have hk4 := blk_below hb3 (by omega) hk3
            have hy4 := blk_below hb3 (by omega) hy3
            have hk41 := blk_cell hk4 (i := 1) rfl
            have hy41 := blk_cell hy4 (i := 1) rfl
            by_cases hlt2 : e < r.r.length
            · obtain ⟨b3, o3, rfl, hF3, hl3, hc3, hc4⟩ := (hsy.below (hbw.trans (hb3.mono (by omega)))).symAt e (by have := HLN.out; omega)
              obtain ⟨b4, o4, rfl, hF4, hl4, hc5, hc6⟩ := (hr.below hb2).symAt e hlt2
              have hez2 : (e : Int) < (r.r.length : Int) := by omega
              have hst := eqUpTo_step (show e < yr.length by have := HLN.out; omega) hlt2
              have HS := Lib.hid hst
              clear hst
              generalize yr[e]'(by have := HLN.out; omega) = ys at hc3 hc4 HS
              generalize r.r[e] = rsy at hc5 hc6 HS
              generalize eqUpTo yr r.r e = ok at HS
              obtain ⟨yt, yn⟩ := ys
              obtain ⟨rt, rn⟩ := rsy
              cases ok with
              | false =>
                go_wp2_with fail
                go_quiet (fail)
                go_wp2_with fail
                go_roundg (r.r.length - (e + 1))
                case measure => omega
                case rel => exact ⟨e + 1, by omega, rfl, by go_num, by rw [HS.out]; simp, below_drewN hb2 _, below_drewN hb3 _⟩
              | true =>
                have hres : decide ((⟨yt, yn⟩ : Sym) = ⟨rt, rn⟩) = ((yt == rt) && (yn == rn)) := by
                  by_cases h1 : yn = rn <;> cases yt <;> cases rt <;> simp [h1]
                rw [hres] at HS
                clear hres
                cases hnn : (yn == rn) <;> cases yt <;> cases rt <;> rw [hnn] at HS
                all_goals
                  go_wp2_with fail
                  go_quiet (fail)
                  go_wp2_with fail
                  go_roundg (r.r.length - (e + 1))
                  case measure => omega
                  case rel => exact ⟨e + 1, by omega, rfl, by go_num, by rw [HS.out]; rfl, below_drewN hb2 _, below_drewN hb3 _⟩
            · obtain rfl : e = r.r.length := by omega
              have hfull : eqUpTo yr r.r r.r.length = decide ((⟨r.l, yr⟩ : Rule) = r) := by
                have h2 := HLN.out
                obtain ⟨rl, rr⟩ := r
                simp only at h2
                simp only [eqUpTo, List.take_length, Rule.mk.injEq, true_and]
                rw [← h2, List.take_length]
              rw [hfull]
              by_cases hyr : (⟨r.l, yr⟩ : Rule) = r
              · have hd : decide ((⟨r.l, yr⟩ : Rule) = r) = true := by simp [hyr]
                have hin : decide (r ∈ xs) = true := by have h5 := HM.out; rw [hyr] at h5; simpa using h5
                rw [hd]
                have HIN := Lib.hid hin
                clear hfull hyr hd hin
                go_wp2
                go_ret
                exact ⟨ret_bool HIN.out.symm, hb2⟩
              · have hd : decide ((⟨r.l, yr⟩ : Rule) = r) = false := by simp [hyr]
                have hno2 := hnext hyr
                rw [hd]
                clear hfull hyr hd hnext
                go_wp2
                go_roundg (xs.length - (q + 1))
                case measure => omega
                case rel => exact ⟨q + 1, by omega, rfl, by go_num, hb2, hk4, hno2⟩
        · have hlnb : ((yr.length : Int) == (r.r.length : Int)) = false := by rw [beq_eq_false_iff_ne]; omega
          have hno2 := hnext (fun h => hln (by rw [← h]))
          clear hnext hln
          go_wp2_with fail
          go_roundg (xs.length - (q + 1))
          case measure => omega
          case rel => exact ⟨q + 1, by omega, rfl, by go_num, hb1, hk3, hno2⟩
      · have hlb : (y.l == r.l) = false := by simp [hll]
        have hno2 := hnext (fun h => hll (by rw [h]))
        clear hnext hll
        go_wp2_with fail
        go_roundg (xs.length - (q + 1))
        case measure => omega
        case rel => exact ⟨q + 1, by omega, rfl, by go_num, hb1, hk3, hno2⟩
    · obtain rfl : q = xs.length := by omega
      rw [List.take_length] at hno
      have hd : decide (r ∈ xs) = false := by simpa using hno
      have HIN := Lib.hid hd
      clear hd
      go_wp2
      go_ret
      exact ⟨ret_bool HIN.out.symm, hb⟩
end Go.Proofs.YtdbkbkopcnkgcaaGreat

open Go Go.RowKit
namespace Go.Proofs.YtdbkbkopcnkgcaaGreat

theorem Tryz.infoSym : (Tryz.prog.info? 70).map (fun i => (i.zero, i.size, i.bytes)) = some (some (.agg #[.bool false, .int .i64 0]), 2, 16) := by kernel_rfl
theorem Tryz.infoRule : (Tryz.prog.info? 99).map (fun i => (i.zero, i.size, i.bytes)) = some (some (.agg #[.int .i64 0, .slice none 0 0]), 2, 32) := by kernel_rfl

/-- a grammar as the makers of grammars make them -/
structure Small (g : Gram) : Prop where
  valid : Valid g
  t3 : g.terms ≤ 3
  n4 : g.nons ≤ 4
  r1 : 1 ≤ g.rules.length
  r8 : g.rules.length ≤ 8
  l3 : ∀ r ∈ g.rules, r.r.length ≤ 3

theorem Stream.below {F : Nat → Prop} {w w' : World} {sb : Nat} {l : List Int} (h : Stream F w sb l) (hb : Below w.heap.size w w') : Stream F w' sb l := by
  obtain ⟨⟨A, c, h1, h2, h3⟩, hne⟩ := h
  exact ⟨⟨A, c, blk_below hb (blk_lt h1) h1, h2, h3.below hb⟩, hne⟩

/-- a grammar that is being made -/
structure GInv (F : Nat → Prop) (w wr : World) (gb : Nat) (T N s : Int) (vr : Value) (rules : List Rule) (xs : List Value) : Prop where
  below : Below w.heap.size w wr
  res : wr.heap[w.heap.size]? = some (.cells #[.int .i64 0, .int .i64 0, .int .i64 0, .slice none 0 0] 25 (0, 0))
  gram : wr.heap[gb]? = some (.cells #[.int .i64 T, .int .i64 N, .int .i64 s, vr] 25 (0, 0))
  own : OwnRules wr (gb + 1) vr rules xs
  stream : ∃ l, Stream F wr (w.heap.size + 1) l
  lt : w.heap.size + 1 < gb

theorem own_away {w wr : World} {base size n sb m : Nat} {e : TypeId} {v : Value} {xs : List Value} (h : w.ownsRow base e size v n xs) (hA : Away m (fun b => b = sb) w wr) (hb : sb < base) (hm : w.heap.size ≤ m) : wr.ownsRow base e size v n xs := by
  refine h.kept (row := some sb) ⟨hA.os, hA.tape, hA.output, hA.size, fun k hk hne => hA.block k (by omega) (fun e => hne (by rw [e]))⟩ ?_
  cases hv : v.ownBlock with
  | none => exact .inl rfl
  | some k =>
    refine .inr fun e => ?_
    injection e with e
    have := own_base' h k hv
    omega
theorem OwnRules.away {w wr : World} {base sb m : Nat} {v : Value} {l : List Rule} {xs : List Value} (h : OwnRules w base v l xs) (hA : Away m (fun b => b = sb) w wr) (hb : sb < base) (hm : w.heap.size ≤ m) : OwnRules wr base v l xs :=
  ⟨own_away h.own hA hb hm, fun k hk => by
    obtain ⟨h1, A, c, h2, h3⟩ := h.at_ k hk
    exact ⟨h1, A, c, h2, own_away h3 hA hb hm⟩⟩

theorem GInv.away {F : Nat → Prop} {w wi wr : World} {gb : Nat} {T N s : Int} {vr : Value} {rules : List Rule} {xs : List Value} (h : GInv F w wi gb T N s vr rules xs) (hA : Away wi.heap.size (fun b => b = w.heap.size + 1) wi wr) (hs : ∃ l, Stream F wr (w.heap.size + 1) l) : GInv F w wr gb T N s vr rules xs := by
  have hlt := h.lt
  have hl := blk_lt h.gram
  exact ⟨⟨hA.os.trans h.below.os, hA.tape.trans h.below.tape, hA.output.trans h.below.output, Nat.le_trans h.below.size hA.size, fun k hk => (hA.block k (by omega) (by omega)).trans (h.below.block k hk)⟩,
    (hA.block _ (by omega) (by omega)).trans h.res, (hA.block _ hl (by omega)).trans h.gram, h.own.away hA (by omega) (Nat.le_refl _), hs, hlt⟩
theorem GInv.keep {F : Nat → Prop} {w wi wr : World} {gb : Nat} {T N s : Int} {vr : Value} {rules : List Rule} {xs : List Value} (h : GInv F w wi gb T N s vr rules xs) (hb : Below wi.heap.size wi wr) : GInv F w wr gb T N s vr rules xs := by
  obtain ⟨l, hl⟩ := h.stream
  exact h.away (Away.ofBelow hb) ⟨l, hl.below hb⟩
theorem GInv.next {F : Nat → Prop} {w wi wr : World} {gb : Nat} {T N s : Int} {vr : Value} {rules : List Rule} {xs : List Value} {l : List Int} (h : GInv F w wi gb T N s vr rules xs) (hg : wi.grownBy wr (some (w.heap.size + 1))) (hs : Stream F wr (w.heap.size + 1) l) : GInv F w wr gb T N s vr rules xs :=
  h.away (Away.grown hg (Nat.le_refl _) (fun k hk => by injection hk with hk; exact .inl hk.symm)) ⟨l, hs⟩

theorem results_cell {fn : Func} {t : Tmp} {T : TypeId} {tmps : Array Value} {P : Program} {w : World} {b : Addr} {v : Value} (h : fn.results = #[.cell t T]) (hp : tmps.getD t undef = .pointer (some b)) (hl : (loadVar T b).run P w = .ok v w) : (results fn tmps).run P w = .ok v w := by
  rw [Array.getD_eq_getD_getElem?] at hp
  simp [results, h, hp, asAddr, hl]

theorem rb8 {w5 w7 w8 : World} {sb : Nat} {o : Obj} (hsb : sb < w5.heap.size) (hrb7 : w7.heap[w5.heap.size]? = some o) (hg8 : w7.drew.grownBy w8 (some sb)) : w8.heap[w5.heap.size]? = some o :=
  (hg8.block _ (blk_lt hrb7) (by simp; omega)).trans hrb7
theorem vs8 {w5 w7 w8 : World} {sb e cv : Nat} {Av : Option Addr} {xs : List Value} (hsb : sb < w5.heap.size) (hvs7 : w7.ownsRow (w5.heap.size + 1) 70 2 (.slice Av e cv) e xs) (hg8 : w7.drew.grownBy w8 (some sb)) : w8.ownsRow (w5.heap.size + 1) 70 2 (.slice Av e cv) e xs :=
  own_away (w := w7.drew) (hvs7.drew) (Away.grown (F := fun b => b = sb) hg8 (Nat.le_refl _) (fun k hk => by injection hk with hk; exact .inl hk.symm)) (by omega) (Nat.le_refl _)
theorem rb9 {w5 w7 w8 w9 : World} {sb e cv : Nat} {Av : Option Addr} {xs : List Value} {o c : Obj} (hsb : sb < w5.heap.size) (hrb7 : w7.heap[w5.heap.size]? = some o) (hvs7 : w7.ownsRow (w5.heap.size + 1) 70 2 (.slice Av e cv) e xs) (hg8 : w7.drew.grownBy w8 (some sb)) (hg9 : (w8.alloc c).grownBy w9 (Value.slice Av e cv).ownBlock) : w9.heap[w5.heap.size]? = some o := by
  have h8 := rb8 hsb hrb7 hg8
  refine (hg9.block _ (by rw [World.size_alloc]; have := blk_lt h8; omega) fun e => ?_).trans ((Below.heap_alloc _ _ _ (blk_lt h8)).trans h8)
  have := own_base' hvs7 _ e.symm
  omega
theorem gram_step {F : Nat → Prop} {w5 w7 w8 w9 : World} {sb e cv co : Nat} {Av Ao : Option Addr} {lf : Int} {syms : List Sym} {y : Sym} {l12 : List Int} (hsb : sb < w5.heap.size) (hA7 : Away w5.heap.size (fun b => b = sb) w5 w7)
    (hrb7 : w7.heap[w5.heap.size]? = some (.cells #[.int .i64 lf, .slice Av e cv] 99 (0, 0))) (hvs7 : w7.ownsRow (w5.heap.size + 1) 70 2 (.slice Av e cv) e (symCells syms)) (hg8 : w7.drew.grownBy w8 (some sb)) (hS12 : Stream F w8 sb l12) (hF : ∀ b, F b → b < w5.heap.size)
    (hg9 : (w8.alloc (.cells #[.bool y.t, .int .i64 y.n] 70)).grownBy w9 (Value.slice Av e cv).ownBlock) (hown9 : w9.ownsRow (w5.heap.size + 1) 70 2 (.slice Ao (e + 1) co) (e + 1) (symCells syms ++ [.bool y.t, .int .i64 y.n])) :
    Away w5.heap.size (fun b => b = sb) w5 (w9.setCell ⟨w5.heap.size, 1, none⟩ (.slice Ao (e + 1) co)) ∧ Stream F (w9.setCell ⟨w5.heap.size, 1, none⟩ (.slice Ao (e + 1) co)) sb l12 ∧
    (w9.setCell ⟨w5.heap.size, 1, none⟩ (.slice Ao (e + 1) co)).heap[w5.heap.size]? = some (.cells #[.int .i64 lf, .slice Ao (e + 1) co] 99 (0, 0)) ∧
    (w9.setCell ⟨w5.heap.size, 1, none⟩ (.slice Ao (e + 1) co)).ownsRow (w5.heap.size + 1) 70 2 (.slice Ao (e + 1) co) (e + 1) (symCells (syms ++ [y])) := by
  have h7 := hA7.size
  have h8 := hg8.size
  have h8' : w7.heap.size ≤ w8.heap.size := h8
  have hrow : ∀ k, (Value.slice Av e cv).ownBlock = some k → w5.heap.size ≤ k := fun k hk => by have := own_base' hvs7 _ hk; omega
  have hB8 : Below w5.heap.size w8 (w9.setCell ⟨w5.heap.size, 1, none⟩ (.slice Ao (e + 1) co)) := (((Below.refl _ _).alloc (by omega) _).grown hg9 (by rw [World.size_alloc]; omega) hrow).setCell (Nat.le_refl _) _
  refine ⟨((hA7.trans (Away.ofBelow ((Below.refl _ _).drew))).trans (Away.grown hg8 h7 (fun k hk => by injection hk with hk; exact .inl hk.symm))).trans (Away.ofBelow hB8), ?_, (heap_set (rb9 hsb hrb7 hvs7 hg8 hg9) _ _).trans rfl, ?_⟩
  · obtain ⟨⟨A1, c1, k1, k2, k3⟩, k4⟩ := hS12
    exact ⟨⟨A1, c1, (hB8.block _ hsb).trans k1, k2, k3.keep (fun j hj => hB8.block _ (hF j hj)) hB8.size⟩, k4⟩
  · rw [symCells_snoc]
    exact own_setCell hown9 (Nat.lt_succ_self _) _

theorem GInv.snoc {F : Nat → Prop} {w w9 w10 : World} {gb : Nat} {T N s : Int} {Ar Av Ao : Option Addr} {cr cv co m : Nat} {rules : List Rule} {xs : List Value} {r : Rule} (h : GInv F w w9 gb T N s (.slice Ar rules.length cr) rules xs) (hF : ∀ b, F b → b < w.heap.size) (hm : r.r.length = m)
    (hvs : w9.ownsRow (gb + 1) 70 2 (.slice Av m cv) m (symCells r.r)) (hg : (w9.alloc (.cells #[.int .i64 r.l, .slice Av m cv] 99)).grownBy w10 (Value.slice Ar rules.length cr).ownBlock)
    (hown : w10.ownsRow (gb + 1) 99 2 (.slice Ao (rules.length + 1) co) (rules.length + 1) (xs ++ [.int .i64 r.l, .slice Av m cv])) :
    GInv F w (w10.setCell ⟨gb, 3, none⟩ (.slice Ao (rules.length + 1) co)) gb T N s (.slice Ao (rules.length + 1) co) (rules ++ [r]) (xs ++ [.int .i64 r.l, .slice Av m cv]) := by
  subst hm
  have hlt := h.lt
  have hgl := blk_lt h.gram
  have hrow : ∀ k, (Value.slice Ar rules.length cr).ownBlock = some k → gb + 1 ≤ k := fun k hk => own_base' h.own.own _ hk
  have hk : ∀ j, j < w9.heap.size → j < gb + 1 → w10.heap[j]? = w9.heap[j]? := fun j hj hj2 => (hg.block j (by rw [World.size_alloc]; omega) (fun e => by have := hrow j e.symm; omega)).trans (Below.heap_alloc _ _ _ hj)
  obtain ⟨l, ⟨A1, c1, k1, k2, k3⟩, k4⟩ := h.stream
  have hs1 := hg.size
  rw [World.size_alloc] at hs1
  have hbs := h.below.size
  refine ⟨((h.below.alloc h.below.size _).grown hg (by rw [World.size_alloc]; omega) (fun k hk => by have := hrow k hk; omega)).setCell (p := ⟨gb, 3, none⟩) (show w.heap.size ≤ gb by omega) _, ?_, ?_, ?_, ⟨l, ⟨A1, c1, ?_, k2, ?_⟩, k4⟩, hlt⟩
  · rw [heap_set_ne (by omega), hk _ (by omega) (by omega)]; exact h.res
  · rw [heap_set ((hk _ hgl (by omega)).trans h.gram)]; rfl
  · exact OwnRules.setCell (OwnRules.snoc (h.own.alloc _) (hvs.alloc _) hg hown) (Nat.lt_succ_self _)
  · rw [heap_set_ne (by omega), hk _ (by omega) (by omega)]; exact k1
  · exact k3.keep (fun j hj => by have := hF j hj; rw [heap_set_ne (by omega), hk _ (by omega) (by omega)]) (by rw [size_setCell]; omega)

theorem ok_more {T N s : Int} {rules rules' : List Rule} {r : Rule} (h : OkRule ⟨T, N, s, rules⟩ r) : OkRule ⟨T, N, s, rules'⟩ r := ⟨h.l0, h.l1, h.len, fun y hy => ⟨(h.syms y hy).n0, (h.syms y hy).nt, (h.syms y hy).nn⟩⟩

set_option maxRecDepth 100000 in
set_option maxHeartbeats 1600000 in
theorem grammar_any (F : Nat → Prop) (l : List Int) (A : Option Addr) (n c : Nat) (w : World) (hl : IsSl Elt.int F w (.slice A n c) l) (hnc : n ≤ c) :
    Calls Tryz.prog 14 #[.slice A n c] w fun e w' => ∃ (g : Gram) (A' : Option Addr) (c' : Nat), e = .returned (gramV g (.slice A' g.rules.length c')) ∧ Small g ∧ Below w.heap.size w w' ∧ g.rules.length ≤ c' ∧ IsSl Elt.rule (fun b => w.heap.size ≤ b) w' (.slice A' g.rules.length c') g.rules ∧ (∃ base xs, w.heap.size < base ∧ OwnRules w' base (.slice A' g.rules.length c') g.rules xs) := by
  obtain ⟨rfl, hn⟩ := hl.len
  have hS0 : Stream (fun b => F b ∧ b < w.heap.size) ((w.alloc (.cells #[.int .i64 0, .int .i64 0, .int .i64 0, .slice none 0 0] 25)).alloc (.cells #[.slice A l.length c] 96)) (w.heap.size + 1) l := by
    refine ⟨⟨A, c, ?_, hnc, (hl.old).keep (fun j hj => ?_) (by simp; omega)⟩, by rintro ⟨_, h⟩; omega⟩
    · rw [show w.heap.size + 1 = (w.alloc (.cells #[.int .i64 0, .int .i64 0, .int .i64 0, .slice none 0 0] 25)).heap.size by simp, heap_alloc_new]
    · rw [Below.heap_alloc _ _ _ (by rw [World.size_alloc]; omega), Below.heap_alloc _ _ _ hj.2]
  go_enter Tryz.func14, Tryz.ntmps14
  go_wp2_with fail
  refine (next_int _ _ _ 3 _ hS0 (by omega)).mono ?_
  rintro e1 w1 ⟨t, rfl, ht0, ht3, hg1, l1, hS1⟩
  go_wp2_with fail
  refine (next_int _ _ _ 4 _ hS1 (by omega)).mono ?_
  rintro e2 w2 ⟨nn, rfl, hn0, hn4, hg2, l2, hS2⟩
  go_wp2_with fail
  have hW0r : ((w.alloc (.cells #[.int .i64 0, .int .i64 0, .int .i64 0, .slice none 0 0] 25)).alloc (.cells #[.slice A l.length c] 96)).heap[w.heap.size]? = some (.cells #[.int .i64 0, .int .i64 0, .int .i64 0, .slice none 0 0] 25 (0, 0)) := by
    rw [Below.heap_alloc _ _ _ (by simp), heap_alloc_new]
  have hb0 : Below w.heap.size w ((w.alloc (.cells #[.int .i64 0, .int .i64 0, .int .i64 0, .slice none 0 0] 25)).alloc (.cells #[.slice A l.length c] 96)) := ((Below.refl _ _).alloc (Nat.le_refl _) _).alloc (by simp) _
  have hs0 : ((w.alloc (.cells #[.int .i64 0, .int .i64 0, .int .i64 0, .slice none 0 0] 25)).alloc (.cells #[.slice A l.length c] 96)).heap.size = w.heap.size + 2 := by simp
  generalize ((w.alloc (.cells #[.int .i64 0, .int .i64 0, .int .i64 0, .slice none 0 0] 25)).alloc (.cells #[.slice A l.length c] 96)) = W0 at hS0 hg1 hW0r hb0 hs0
  have hs1 := hg1.size
  have hs2 := hg2.size
  have hr2 : w2.heap[w.heap.size]? = some (.cells #[.int .i64 0, .int .i64 0, .int .i64 0, .slice none 0 0] 25 (0, 0)) :=
    (hg2.block _ (by omega) (by simp)).trans ((hg1.block _ (by omega) (by simp)).trans hW0r)
  have hb2 : Below w.heap.size w w2 := (hb0.grown hg1 (by omega) (by intro k hk; injection hk; omega)).grown hg2 (by omega) (by intro k hk; injection hk; omega)
  have hS3 := hS2.below (w' := w2.alloc (.cells #[.int .i64 (1 + t), .int .i64 (1 + nn), .int .i64 0, .slice none 0 0] 25)) ((Below.refl _ _).alloc (Nat.le_refl _) _)
  have hI0 : GInv (fun b => F b ∧ b < w.heap.size) w (w2.alloc (.cells #[.int .i64 (1 + t), .int .i64 (1 + nn), .int .i64 0, .slice none 0 0] 25)) w2.heap.size (1 + t) (1 + nn) 0 (.slice none 0 0) [] [] :=
    ⟨hb2.alloc hb2.size _, (Below.heap_alloc _ _ _ (by omega)).trans hr2, heap_alloc_new w2 _, OwnRules.nil _ _, ⟨l2, hS3⟩, by omega⟩
  refine (next_int _ _ _ (1 + nn) _ hS3 (by omega)).mono ?_
  rintro e3 w3 ⟨st, rfl, hs0', hs1', hg3, l3, hS4⟩
  have hI1 := hI0.next hg3 hS4
  have hgc2 := blk_cell hI1.gram (i := 2) rfl
  have hgf2 : w3.frozen? ⟨w2.heap.size, 2, none⟩ = false := blk_free hI1.gram
  have hI2 : GInv (fun b => F b ∧ b < w.heap.size) w (w3.setCell ⟨w2.heap.size, 2, none⟩ (.int .i64 st)) w2.heap.size (1 + t) (1 + nn) st (.slice none 0 0) [] [] := by
    have hlt := hI1.lt
    exact ⟨hI1.below.setCell (p := ⟨w2.heap.size, 2, none⟩) (show w.heap.size ≤ w2.heap.size by omega) _, (heap_set_ne (by omega) _ _).trans hI1.res, (heap_set hI1.gram _ _).trans rfl, OwnRules.nil _ _, ⟨l3, by
      obtain ⟨⟨A1, c1, k1, k2, k3⟩, k4⟩ := hS4
      exact ⟨⟨A1, c1, (heap_set_ne (by omega) _ _).trans k1, k2, k3.keep (fun j hj => heap_set_ne (by have := hj.2; omega) _ _) (by rw [size_setCell]; exact Nat.le_refl _)⟩, k4⟩⟩, hlt⟩
  go_wp2_with fail
  obtain ⟨l4, hS5⟩ := hI2.stream
  refine (next_int _ _ _ 8 _ hS5 (by omega)).mono ?_
  rintro e4 w4 ⟨cnt, rfl, hc0, hc8, hg4, l5, hS6⟩
  have hI3 := hI2.next hg4 hS6
  obtain ⟨k, hk⟩ : ∃ k : Nat, cnt = k := ⟨cnt.toNat, by omega⟩
  subst hk
  have hgbs : w.heap.size + 1 < w2.heap.size := hI3.lt
  clear hI0 hI1 hI2 hgc2 hgf2 hS0 hS1 hS2 hS3 hS4 hS5 hS6 hg1 hg2 hg3 hg4 hW0r hb0 hs0 hs1 hs2 hr2 hb2
  generalize w2.heap.size = gb at hI3 hgbs ⊢
  obtain ⟨T, hT⟩ : ∃ T : Int, T = 1 + t := ⟨_, rfl⟩
  obtain ⟨N, hN⟩ : ∃ N : Int, N = 1 + nn := ⟨_, rfl⟩
  rw [← hT, ← hN] at hI3
  rw [← hN] at hs1'
  have hT3 : 1 ≤ T ∧ T ≤ 3 := by omega
  have hN4 : 1 ≤ N ∧ N ≤ 4 := by omega
  rw [← hT, ← hN]
  clear hT hN hnc hl
  obtain ⟨is, his, hs0, hs2, hs3⟩ := info_parts Tryz.infoSym
  obtain ⟨ir, hir, hr0', hr2', hr3'⟩ := info_parts Tryz.infoRule
  go_wp2_with fail
  go_loopg [24] (k + 1) (fun gk i wr => ∃ (q : Nat) (vr : Value) (rules : List Rule) (xs : List Value), q ≤ k + 1 ∧ gk = k + 1 - q ∧ i = .int .i64 q ∧ GInv (fun b => F b ∧ b < w.heap.size) w wr gb T N st vr rules xs ∧ rules.length ≤ q ∧ (1 ≤ q → 1 ≤ rules.length) ∧ rules.Nodup ∧ ∀ r ∈ rules, OkRule ⟨T, N, st, rules⟩ r ∧ r.r.length ≤ 3)
  case atStart => exact ⟨0, _, [], [], by omega, by omega, rfl, hI3, by simp, by omega, List.nodup_nil, by simp⟩
  case round =>
    clear hI3
    obtain ⟨q, vr, rules, xs, hq, rfl, rfl, hI, hrl, hr1, hnd, hok⟩ := hrel
    by_cases hlt : q < k + 1
    · have hqz : decide ((q : Int) < 1 + (k : Int)) = true := by simp; omega
      obtain ⟨Ar, cr, rfl⟩ := own_form hI.own.own
      have hg1 := blk_cell hI.gram (i := 1) rfl
      obtain ⟨l6, hS⟩ := hI.stream
      go_wp2_with fail
      refine (next_int _ _ _ N _ hS (by omega)).mono ?_
      rintro e5 w5 ⟨lf, rfl, hlf0, hlf1, hg5, l7, hS7⟩
      have hI5 := hI.next hg5 hS7
      have hS8 := hS7.below (w' := w5.alloc (.cells #[.int .i64 lf, .slice none 0 0] 99)) ((Below.refl _ _).alloc (Nat.le_refl _) _)
      clear hI hS hg5 hg1
      go_wp2_with fail
      refine (next_int _ _ _ 4 _ hS8 (by omega)).mono ?_
      rintro e6 w6 ⟨mm, rfl, hm0, hm4, hg6, l9, hS9⟩
      obtain ⟨m, hm⟩ : ∃ m : Nat, mm = m := ⟨mm.toNat, by omega⟩
      subst hm
      have hA6 : Away w5.heap.size (fun b => b = w.heap.size + 1) w5 w6 := (Away.ofBelow ((Below.refl _ _).alloc (Nat.le_refl _) _)).trans (Away.grown hg6 (by rw [World.size_alloc]; omega) (fun k hk => by injection hk with hk; exact .inl hk.symm))
      have hrb6 : w6.heap[w5.heap.size]? = some (.cells #[.int .i64 lf, .slice none 0 0] 99 (0, 0)) := (hg6.block _ (by simp) (by have := hI5.lt; have := blk_lt hI5.gram; simp; omega)).trans (heap_alloc_new w5 _)
      go_wp2_with fail
      clear hg6 hS7 hS8
      go_loopg [33] m (fun gk i wr => ∃ (e : Nat) (vs : Value) (syms : List Sym), e ≤ m ∧ gk = m - e ∧ i = .int .i64 e ∧ Away w5.heap.size (fun b => b = w.heap.size + 1) w5 wr ∧ (∃ l, Stream (fun b => F b ∧ b < w.heap.size) wr (w.heap.size + 1) l) ∧ wr.heap[w5.heap.size]? = some (.cells #[.int .i64 lf, vs] 99 (0, 0)) ∧ wr.ownsRow (w5.heap.size + 1) 70 2 vs syms.length (symCells syms) ∧ syms.length = e ∧ ∀ y ∈ syms, OkSym ⟨T, N, st, []⟩ y)
      case atStart => exact ⟨0, _, [], by omega, by omega, rfl, hA6, ⟨l9, hS9⟩, hrb6, World.ownsRow_nil _ _ _ _, rfl, by simp⟩
      case round =>
        clear hA6 hrb6 hS9
        obtain ⟨e, vs, syms, he, rfl, rfl, hA, ⟨l10, hS⟩, hrb, hvs, hse, hoks⟩ := hrel
        obtain ⟨Av, cv, rfl⟩ := own_form hvs
        rw [hse] at hrb hvs
        have hIr := hI5.away hA ⟨l10, hS⟩
        by_cases hlt2 : e < m
        · have hez : (e : Int) < (m : Int) := by omega
          go_wp2_with fail
          refine (next_int _ _ _ 2 _ hS (by omega)).mono ?_
          rintro e7 w7 ⟨bb, rfl, hb0, hb2, hg7, l11, hS11⟩
          have hA7 : Away w5.heap.size (fun b => b = w.heap.size + 1) w5 w7 := hA.trans (Away.grown hg7 hA.size (fun k hk => by injection hk with hk; exact .inl hk.symm))
          have hl5 := blk_lt hI5.gram
          have hI7 := hI5.away hA7 ⟨l11, hS11⟩
          have hrb7 := (hg7.block _ (blk_lt hrb) (by have := hI5.lt; simp; omega)).trans hrb
          have hvs7 := own_away hvs (Away.grown (F := fun b => b = w.heap.size + 1) hg7 (Nat.le_refl _) (fun k hk => by injection hk with hk; exact .inl hk.symm)) (by have := hI5.lt; omega) (Nat.le_refl _)
          clear hA hS hg7 hrb hvs hIr
          by_cases hbb : bb = 0
          · subst hbb
            have hTT : 0 < T ∧ T ≤ 9223372036854775807 := by omega
            have hsb5 : w.heap.size + 1 < w5.heap.size := by have := hI5.lt; omega
            have hx1 := blk_cell hrb7 (i := 1) rfl
            have hxf : w7.frozen? ⟨w5.heap.size, 1, none⟩ = false := blk_free hrb7
            have hxg := blk_cell hI7.gram (i := 0) rfl
            have hgbl := blk_lt hI7.gram
            have hSd := hS11.below ((Below.refl _ _).drew)
            have hrl7 := blk_lt hrb7
            have he3 : e ≤ 3 := by omega
            have hgb5 : gb < w5.heap.size := blk_lt hI5.gram
            go_wp2_with fail
            go_region_law (first | (refine step_call rfl 32 Tryz.f32 Tryz.func32 (by kernel_rfl) (by kernel_rfl) [_, _] _ rfl [.pointer (some ⟨w.heap.size + 1, 0, none⟩), .int .i64 T] rfl _ (next_int _ _ _ T _ hSd hTT) ?_; rintro e8 w8 ⟨v, rfl, hv0, hv1, hg8, l12, hS12⟩; refine ⟨_, rfl, ?_⟩; have hx81 := blk_cell (rb8 hsb5 hrb7 hg8) (i := 1) rfl; have hrl8 := blk_lt (rb8 hsb5 hrb7 hg8); have hvs8 := vs8 hsb5 hvs7 hg8) | (refine step_append_src _ rfl (.tmp 39) (.tmp 45) 97 rfl (w5.heap.size + 1) 70 is (.agg #[.bool false, .int .i64 0]) 2 16 Tryz.underlying97 his hs0 hs2 hs3 rfl (by decide) _ e (symCells syms) rfl (hvs8.alloc _) (some ⟨w8.heap.size, 0, none⟩) 1 1 [.bool true, .int .i64 v] rfl rfl (by intro h; cases h) (fun a ha j u hj => by injection ha with ha; subst ha; exact cells_new _ _ _ _ _ hj) (by intro u hu; simp at hu; rcases hu with rfl | rfl <;> rfl) (e + 1) rfl (by unfold maxLen; omega) (by omega) (by rw [World.size_alloc]; omega) ?_; intro Ao co w9 hown9 hg9 hat9; have hx9 := blk_cell (rb9 hsb5 hrb7 hvs7 hg8 hg9) (i := 1) rfl; have hx9f : w9.frozen? ⟨w5.heap.size, 1, none⟩ = false := blk_free (rb9 hsb5 hrb7 hvs7 hg8 hg9)))
            all_goals
              obtain ⟨z1, z2, z3, z4⟩ := gram_step (y := ⟨true, v⟩) hsb5 hA7 hrb7 hvs7 hg8 hS12 (fun b hb => by have := hb.2; omega) hg9 hown9
              go_wp2
              go_roundg (m - (e + 1))
              case measure => omega
              case rel => exact ⟨e + 1, _, syms ++ [⟨true, v⟩], by omega, rfl, by go_num, z1, ⟨l12, z2⟩, z3, by rw [List.length_append, hse]; exact z4, by simp [hse], fun y hy => by
                rcases List.mem_append.1 hy with hy | hy
                · exact hoks y hy
                · simp only [List.mem_singleton] at hy
                  rw [hy]
                  exact ⟨hv0, fun _ => hv1, fun h => (by cases h)⟩⟩
          · have hbbz : (bb == 0) = false := by simpa using hbb
            have hTT : 0 < N ∧ N ≤ 9223372036854775807 := by omega
            have hsb5 : w.heap.size + 1 < w5.heap.size := by have := hI5.lt; omega
            have hx1 := blk_cell hrb7 (i := 1) rfl
            have hxf : w7.frozen? ⟨w5.heap.size, 1, none⟩ = false := blk_free hrb7
            have hxg := blk_cell hI7.gram (i := 1) rfl
            have hgbl := blk_lt hI7.gram
            have hSd := hS11.below ((Below.refl _ _).drew)
            have hrl7 := blk_lt hrb7
            have he3 : e ≤ 3 := by omega
            have hgb5 : gb < w5.heap.size := blk_lt hI5.gram
            go_wp2_with fail
            go_region_law (first | (refine step_call rfl 32 Tryz.f32 Tryz.func32 (by kernel_rfl) (by kernel_rfl) [_, _] _ rfl [.pointer (some ⟨w.heap.size + 1, 0, none⟩), .int .i64 N] rfl _ (next_int _ _ _ N _ hSd hTT) ?_; rintro e8 w8 ⟨v, rfl, hv0, hv1, hg8, l12, hS12⟩; refine ⟨_, rfl, ?_⟩; have hx81 := blk_cell (rb8 hsb5 hrb7 hg8) (i := 1) rfl; have hrl8 := blk_lt (rb8 hsb5 hrb7 hg8); have hvs8 := vs8 hsb5 hvs7 hg8) | (refine step_append_src _ rfl (.tmp 49) (.tmp 55) 97 rfl (w5.heap.size + 1) 70 is (.agg #[.bool false, .int .i64 0]) 2 16 Tryz.underlying97 his hs0 hs2 hs3 rfl (by decide) _ e (symCells syms) rfl (hvs8.alloc _) (some ⟨w8.heap.size, 0, none⟩) 1 1 [.bool false, .int .i64 v] rfl rfl (by intro h; cases h) (fun a ha j u hj => by injection ha with ha; subst ha; exact cells_new _ _ _ _ _ hj) (by intro u hu; simp at hu; rcases hu with rfl | rfl <;> rfl) (e + 1) rfl (by unfold maxLen; omega) (by omega) (by rw [World.size_alloc]; omega) ?_; intro Ao co w9 hown9 hg9 hat9; have hx9 := blk_cell (rb9 hsb5 hrb7 hvs7 hg8 hg9) (i := 1) rfl; have hx9f : w9.frozen? ⟨w5.heap.size, 1, none⟩ = false := blk_free (rb9 hsb5 hrb7 hvs7 hg8 hg9)))
            all_goals
              obtain ⟨z1, z2, z3, z4⟩ := gram_step (y := ⟨false, v⟩) hsb5 hA7 hrb7 hvs7 hg8 hS12 (fun b hb => by have := hb.2; omega) hg9 hown9
              go_wp2
              go_roundg (m - (e + 1))
              case measure => omega
              case rel => exact ⟨e + 1, _, syms ++ [⟨false, v⟩], by omega, rfl, by go_num, z1, ⟨l12, z2⟩, z3, by rw [List.length_append, hse]; exact z4, by simp [hse], fun y hy => by
                rcases List.mem_append.1 hy with hy | hy
                · exact hoks y hy
                · simp only [List.mem_singleton] at hy
                  rw [hy]
                  exact ⟨hv0, fun h => (by cases h), fun _ => hv1⟩⟩
        · obtain rfl : e = m := by omega
          have hg3 := blk_cell hIr.gram (i := 3) rfl
          have hx0 := blk_cell hrb (i := 0) rfl
          have hx1 := blk_cell hrb (i := 1) rfl
          go_wp2_with fail
          refine (has_any (fun _ => True) rules ⟨lf, syms⟩ Ar _ cr Av _ cv wr (hIr.own.isSl.weak (fun _ _ => trivial)) ((own_syms hvs).weak (fun _ _ => trivial)) (by omega) (by simp only; omega)).mono ?_
          rintro e9 w9 ⟨rfl, hb9⟩
          have hI9 := hIr.keep hb9
          have hrb9 := blk_below hb9 (blk_lt hrb) hrb
          have hg39 := blk_cell hI9.gram (i := 3) rfl
          have hx09 := blk_cell hrb9 (i := 0) rfl
          have hx19 := blk_cell hrb9 (i := 1) rfl
          have hgbl := blk_lt hI5.gram
          have hvs9 : w9.ownsRow (gb + 1) 70 2 (.slice Av e cv) e (symCells syms) := (hvs.kept (row := none) ⟨hb9.os, hb9.tape, hb9.output, hb9.size, fun j hj _ => hb9.block j hj⟩ (by cases (Value.slice Av e cv).ownBlock <;> simp)).mono_base (by omega)
          have hgf9 : w9.frozen? ⟨gb, 3, none⟩ = false := blk_free hI9.gram
          clear hIr hA hS hrb hvs hg3 hx0 hx1
          by_cases hin : (⟨lf, syms⟩ : Rule) ∈ rules
          · have hd : decide ((⟨lf, syms⟩ : Rule) ∈ rules) = true := by simpa using hin
            rw [hd]
            clear hd
            go_wp2_with fail
            go_roundg (k + 1 - (q + 1))
            case measure => omega
            case rel => exact ⟨q + 1, _, rules, xs, by omega, rfl, by go_num, hI9, by omega, fun _ => List.length_pos_of_mem hin, hnd, hok⟩
          · have hd : decide ((⟨lf, syms⟩ : Rule) ∈ rules) = false := by simpa using hin
            rw [hd]
            clear hd
            go_wp2_with (first | (at_builtin; refine wpList_append_src _ rfl (.tmp 65) (.tmp 67) 23 rfl (gb + 1) 99 ir (.agg #[.int .i64 0, .slice none 0 0]) 2 32 Tryz.underlying23 hir hr0' hr2' hr3' rfl (by decide) _ rules.length xs rfl ?ho (some ⟨w9.heap.size, 0, none⟩) 1 1 [.int .i64 lf, .slice Av e cv] rfl rfl ?c0 ?c1 ?c2 ?c3 ?c4 ?c5 ?_))
            case ho => exact hI9.own.own.alloc _
            case c0 => intro h; cases h
            case c1 => intro a ha j u hj; injection ha with ha; subst ha; exact cells_new _ _ _ _ _ hj
            case c2 => intro u hu; simp at hu; rcases hu with rfl | rfl <;> rfl
            case c3 => unfold maxLen; omega
            case c4 => omega
            case c5 => rw [World.size_alloc]; have := blk_lt hI9.gram; omega
            intro v' w10 hown' hgrow hat
            obtain ⟨Ao, co, rfl⟩ := own_form hown'
            have hI10 := hI9.snoc (r := ⟨lf, syms⟩) (fun b hb => hb.2) hse hvs9 hgrow hown'
            have hgl10 : w10.cell? ⟨gb, 3, none⟩ = some (.slice Ar rules.length cr) ∧ w10.frozen? ⟨gb, 3, none⟩ = false := by
              have h5 : w10.heap[gb]? = _ := (hgrow.block gb (by rw [World.size_alloc]; have := blk_lt hI9.gram; omega) (fun e => by have := own_base' hI9.own.own _ e.symm; omega)).trans ((Below.heap_alloc _ _ _ (blk_lt hI9.gram)).trans hI9.gram)
              exact ⟨blk_cell h5 rfl, blk_free h5⟩
            obtain ⟨hgl1, hgl2⟩ := hgl10
            go_wp2
            go_roundg (k + 1 - (q + 1))
            case measure => omega
            case rel =>
              refine ⟨q + 1, _, rules ++ [⟨lf, syms⟩], _, by omega, rfl, by go_num, hI10, by simp; omega, fun _ => by simp, ?_, fun r hr => ?_⟩
              · rw [List.nodup_append]
                exact ⟨hnd, by simp, fun a ha b hb e => by simp only [List.mem_singleton] at hb; rw [e, hb] at ha; exact hin ha⟩
              · rcases List.mem_append.1 hr with hr | hr
                · exact ⟨ok_more (hok r hr).1, (hok r hr).2⟩
                · simp only [List.mem_singleton] at hr
                  rw [hr]
                  exact ⟨⟨hlf0, hlf1, by simp only; omega, fun y hy => ⟨(hoks y hy).n0, (hoks y hy).nt, (hoks y hy).nn⟩⟩, by simp only; omega⟩
    · obtain rfl : q = k + 1 := by omega
      have hqz : decide (((k + 1 : Nat) : Int) < 1 + (k : Int)) = false := by simp; omega
      obtain ⟨Av, cv, rfl⟩ := own_form hI.own.own
      have hg0 := blk_cell hI.gram (i := 0) rfl
      have hg1 := blk_cell hI.gram (i := 1) rfl
      have hg2 := blk_cell hI.gram (i := 2) rfl
      have hg3 := blk_cell hI.gram (i := 3) rfl
      have hr0 := blk_cell hI.res (i := 0) rfl
      have hr1' := blk_cell hI.res (i := 1) rfl
      have hr2 := blk_cell hI.res (i := 2) rfl
      have hr3 := blk_cell hI.res (i := 3) rfl
      have hf0 : wr.frozen? ⟨w.heap.size, 0, none⟩ = false := blk_free hI.res
      have hf1 : wr.frozen? ⟨w.heap.size, 1, none⟩ = false := blk_free hI.res
      have hf2 : wr.frozen? ⟨w.heap.size, 2, none⟩ = false := blk_free hI.res
      have hf3 : wr.frozen? ⟨w.heap.size, 3, none⟩ = false := blk_free hI.res
      have hfin : ((((wr.setCell ⟨w.heap.size, 0, none⟩ (.int .i64 T)).setCell ⟨w.heap.size, 1, none⟩ (.int .i64 N)).setCell ⟨w.heap.size, 2, none⟩ (.int .i64 st)).setCell ⟨w.heap.size, 3, none⟩ (.slice Av rules.length cv)).heap[w.heap.size]? = some (.cells #[.int .i64 T, .int .i64 N, .int .i64 st, .slice Av rules.length cv] 25 (0, 0)) := by
        rw [heap_set (heap_set (heap_set (heap_set hI.res _ _) _ _) _ _)]; rfl
      have hlt' := hI.lt
      have hbl : Below w.heap.size w ((((wr.setCell ⟨w.heap.size, 0, none⟩ (.int .i64 T)).setCell ⟨w.heap.size, 1, none⟩ (.int .i64 N)).setCell ⟨w.heap.size, 2, none⟩ (.int .i64 st)).setCell ⟨w.heap.size, 3, none⟩ (.slice Av rules.length cv)) :=
        (((hI.below.setCell (Nat.le_refl _) _).setCell (Nat.le_refl _) _).setCell (Nat.le_refl _) _).setCell (Nat.le_refl _) _
      have hsl : IsSl Elt.rule (fun b => w.heap.size ≤ b) ((((wr.setCell ⟨w.heap.size, 0, none⟩ (.int .i64 T)).setCell ⟨w.heap.size, 1, none⟩ (.int .i64 N)).setCell ⟨w.heap.size, 2, none⟩ (.int .i64 st)).setCell ⟨w.heap.size, 3, none⟩ (.slice Av rules.length cv)) (.slice Av rules.length cv) rules :=
        (hI.own.isSl.keep (fun j hj => by rw [heap_set_ne (by omega), heap_set_ne (by omega), heap_set_ne (by omega), heap_set_ne (by omega)]) (by simp only [size_setCell]; exact Nat.le_refl _)).weak (fun j hj => by omega)
      have hcap := hI.own.cap
      have hown := (((hI.own.setCell (b := w.heap.size) (i := 0) (u := .int .i64 T) (by omega)).setCell (b := w.heap.size) (i := 1) (u := .int .i64 N) (by omega)).setCell (b := w.heap.size) (i := 2) (u := .int .i64 st) (by omega)).setCell (b := w.heap.size) (i := 3) (u := .slice Av rules.length cv) (by omega)
      have hgb1 : w.heap.size < gb + 1 := by omega
      go_wp2_with fail
      refine bodyPost_ret (results_cell rfl rfl (run_loadVar_row _ w.heap.size 25 25 #[.int .i64 T, .int .i64 N, .int .i64 st, .slice Av rules.length cv] (0, 0) _ hfin Tryz.underlying25 rfl (by kernel_rfl))) rfl ?_
      refine ⟨⟨T, N, st, rules⟩, Av, cv, rfl, ⟨⟨?_, ?_, ?_, ?_, ?_, ?_, ?_, fun r hr => (hok r hr).1, hnd⟩, ?_, ?_, ?_, ?_, fun r hr => (hok r hr).2⟩, hbl, hcap, hsl, gb + 1, xs, hgb1, hown⟩ <;> simp only <;> omega
end Go.Proofs.YtdbkbkopcnkgcaaGreat

open Go Go.RowKit
namespace Go.Proofs.YtdbkbkopcnkgcaaGreat

theorem own_ints {w : World} {base n : Nat} {v : Value} {l : List Int} (h : w.ownsRow base 3 1 v n (l.map (Value.int .i64))) : IsSl Elt.int (fun b => base ≤ b) w v l := by
  have hl := h.1
  rw [List.length_map] at hl
  obtain rfl : n = l.length := by omega
  have hm := own_max h
  obtain ⟨A, c, rfl⟩ := own_form h
  refine ⟨A, c, rfl, hm, fun k hk => ?_⟩
  obtain ⟨b, cap, he, hb1, hb2⟩ := h.form (by omega)
  injection he with he1 he2 he3
  subst he1
  have k1 := h.cells (g := b) rfl k (.int .i64 l[k]) (by simp [hk])
  rw [add_lit0] at k1
  refine ⟨b, 0, rfl, hb1, cell_lt k1, hb1, ?_⟩
  show w.cell? ⟨b, 0 + k * 1, none⟩ = _
  rw [Nat.zero_add, Nat.mul_one]; exact k1
theorem Tryz.infoIntT : (Tryz.prog.info? 3).map (fun i => (i.zero, i.size, i.bytes)) = some (some (.int .i64 0), 1, 8) := by kernel_rfl

set_option maxRecDepth 100000 in
set_option maxHeartbeats 1600000 in
theorem word_any (F : Nat → Prop) (T : Int) (most : Nat) (l : List Int) (A : Option Addr) (n c : Nat) (w : World) (hl : IsSl Elt.int F w (.slice A n c) l) (hT : 0 < T ∧ T ≤ 9223372036854775807) (hm : most ≤ 100) :
    Calls Tryz.prog 15 #[.int .i64 T, .int .i64 most, .slice A n c] w fun e w' => ∃ (x : List Int) (C : Option Addr) (cx : Nat), e = .returned (.slice C x.length cx) ∧ x.length ≤ most ∧ (∀ t ∈ x, 0 ≤ t ∧ t < T) ∧ Below w.heap.size w w' ∧ x.length ≤ cx ∧ IsSl Elt.int (fun b => w.heap.size ≤ b) w' (.slice C x.length cx) x := by
  obtain ⟨rfl, hn⟩ := hl.len
  obtain ⟨ii, hi, hz0, hz1, hz2⟩ := info_parts Tryz.infoIntT
  go_enter Tryz.func15, Tryz.ntmps15
  go_wp2_with fail
  go_loopg [7, 12] l.length (fun gk v i wr => ∃ (q : Nat) (x : List Int), q ≤ l.length ∧ gk = l.length - q ∧ i = .int .i64 q ∧ Below w.heap.size w wr ∧ wr.ownsRow w.heap.size 3 1 v x.length (x.map (Value.int .i64)) ∧ x.length ≤ most ∧ ∀ t ∈ x, 0 ≤ t ∧ t < T)
  case atStart => exact ⟨0, [], by omega, by omega, rfl, Below.refl _ _, World.ownsRow_nil _ _ _ _, by simp, by simp⟩
  case round =>
    obtain ⟨q, x, hq, rfl, rfl, hb, hown, hxm, hxt⟩ := hrel
    obtain ⟨C, cx, rfl⟩ := own_form hown
    have hcx := own_cap hown
    have hsl := own_ints hown
    by_cases hlt : q < l.length
    · obtain ⟨b, o, rfl, hF, hbl, hc⟩ := (hl.below hb).oneAt q hlt
      have hqz : (q : Int) < (l.length : Int) := by omega
      by_cases hfull : x.length = most
      · have hfb : ((x.length : Int) == (most : Int)) = true := by simp [hfull]
        subst hfull
        go_wp2_with fail
        go_ret
        exact ⟨x, C, cx, rfl, hxm, hxt, hb, hcx, hsl⟩
      · have hfb : ((x.length : Int) == (most : Int)) = false := by rw [beq_eq_false_iff_ne]; omega
        go_wp2_with fail
        refine (below_int l[q] T _ hT).mono ?_
        rintro e1 w1 ⟨rfl, rfl⟩
        have hs1 := hb.size
        go_wp2_with (first | (at_builtin; refine wpList_append_src _ rfl (.tmp 20) (.tmp 24) 22 rfl w.heap.size 3 ii (.int .i64 0) 1 8 Tryz.underlying22 hi hz0 hz1 hz2 rfl (by decide) _ x.length (x.map (Value.int .i64)) rfl ?ho (some ⟨w1.heap.size, 0, none⟩) 1 1 [.int .i64 (l[q] % T)] rfl rfl ?c0 ?c1 ?c2 ?c3 ?c4 ?c5 ?_))
        case ho => exact hown.alloc _
        case c0 => intro h; cases h
        case c1 => intro a ha j u hj; injection ha with ha; subst ha; exact cells_new _ _ _ _ _ hj
        case c2 => intro u hu; simp only [List.mem_singleton] at hu; rw [hu]; rfl
        case c3 => unfold maxLen; omega
        case c4 => omega
        case c5 => rw [World.size_alloc]; omega
        intro v' w2 hown' hgrow hat
        have hb2 : Below w.heap.size w w2 := (hb.alloc hs1 _).grown hgrow (by rw [World.size_alloc]; omega) (own_base' hown)
        go_wp2
        go_roundg (l.length - (q + 1))
        case measure => omega
        case rel => exact ⟨q + 1, x ++ [l[q] % T], by omega, rfl, by go_num, hb2, by simpa using hown', by simp; omega, fun t ht => by
          rcases List.mem_append.1 ht with ht | ht
          · exact hxt t ht
          · simp only [List.mem_singleton] at ht
            rw [ht]
            exact ⟨Int.emod_nonneg _ (by omega), Int.emod_lt_of_pos _ hT.1⟩⟩
    · obtain rfl : q = l.length := by omega
      go_wp2
      go_ret
      exact ⟨x, C, cx, rfl, hxm, hxt, hb, hcx, hsl⟩
end Go.Proofs.YtdbkbkopcnkgcaaGreat
