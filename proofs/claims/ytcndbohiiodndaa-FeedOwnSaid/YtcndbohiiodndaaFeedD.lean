import Derived.Test.YtcndbohiiodndaaFeedC
open Go Go.RowKit
namespace Go.Proofs.Ytcndbohiiodndaa

inductive Prodn (g : Gram) : Int → Prop
  | mk (r : Rule) : r ∈ g.rules → (∀ y ∈ r.r, y.t = false → Prodn g y.n) → Prodn g r.l

/-- which rules may be used: all their nonterminals have words -/
structure Good (g : Gram) (gd : List Bool) : Prop where
  len : gd.length = g.rules.length
  iff : ∀ (m : Nat) (r : Rule), g.rules[m]? = some r → (gd[m]? = some true ↔ ∀ y ∈ r.r, y.t = false → Prodn g y.n)

theorem Good.uniq {g : Gram} {a b : List Bool} (ha : Good g a) (hb : Good g b) : a = b := by
  apply List.ext_getElem (by rw [ha.len, hb.len])
  intro i h1 h2
  have hi : i < g.rules.length := by rw [← ha.len]; exact h1
  have e1 := ha.iff i _ (List.getElem?_eq_getElem hi)
  have e2 := hb.iff i _ (List.getElem?_eq_getElem hi)
  rw [List.getElem?_eq_getElem h1, ← e2, List.getElem?_eq_getElem h2] at e1
  cases h3 : a[i] <;> cases h4 : b[i] <;> simp [h3, h4] at e1 ⊢

def allHas (has : List Bool) (l : List Sym) : Bool := l.all fun y => y.t || has.getD y.n.toNat false

theorem allHas_iff {has : List Bool} {l : List Sym} : allHas has l = true ↔ ∀ y ∈ l, y.t = false → has[y.n.toNat]? = some true := by
  simp only [allHas, List.all_eq_true, Bool.or_eq_true, List.getD_eq_getElem?_getD]
  refine forall₂_congr fun y _ => ?_
  cases hy : y.t <;> cases h2 : has[y.n.toNat]? <;> simp
theorem allHas_take {has : List Bool} {l : List Sym} {e : Nat} (h : e < l.length) : allHas has (l.take (e + 1)) = (allHas has (l.take e) && (l[e].t || has.getD l[e].n.toNat false)) := by
  unfold allHas
  rw [List.take_add_one, List.getElem?_eq_getElem h, Option.toList_some, List.all_append]
  simp only [List.all_cons, List.all_nil, Bool.and_true]

structure PInv (w wr : World) (g : Gram) (rs : Value) (has good : List Bool) : Prop where
  below : Below w.heap.size w wr
  gram : wr.heap[w.heap.size]? = some (.cells #[.int .i64 g.terms, .int .i64 g.nons, .int .i64 g.start, rs] 25 (0, 0))
  hasb : wr.heap[w.heap.size + 1]? = some (.cells (has.map Value.bool).toArray 4 (0, 0))
  goodb : wr.heap[w.heap.size + 2]? = some (.cells (good.map Value.bool).toArray 4 (0, 0))
  size : w.heap.size + 3 ≤ wr.heap.size
  lenh : (has.length : Int) = g.nons
  leng : good.length = g.rules.length
  sound : ∀ n : Int, 0 ≤ n → has[n.toNat]? = some true → Prodn g n
  soundg : ∀ (m : Nat) (r : Rule), g.rules[m]? = some r → good[m]? = some true → (∀ y ∈ r.r, y.t = false → Prodn g y.n) ∧ has[r.l.toNat]? = some true

theorem PInv.keep {w wr wr' : World} {g : Gram} {rs : Value} {has good : List Bool} (h : PInv w wr g rs has good) (hb : Below wr.heap.size wr wr') : PInv w wr' g rs has good :=
  have hs := h.size
  ⟨h.below.trans (hb.mono h.below.size), blk_below hb (by omega) h.gram, blk_below hb (by omega) h.hasb, blk_below hb (by omega) h.goodb, Nat.le_trans hs hb.size, h.lenh, h.leng, h.sound, h.soundg⟩

theorem PInv.put {w wr : World} {g : Gram} {rs : Value} {has good : List Bool} (h : PInv w wr g rs has good) (hv : Valid g) {q : Nat} {r : Rule} (hq : g.rules[q]? = some r) (hall : allHas has r.r = true) :
    PInv w ((wr.setCell ⟨w.heap.size + 2, q, none⟩ (.bool true)).setCell ⟨w.heap.size + 1, r.l.toNat, none⟩ (.bool true)) g rs (has.set r.l.toNat true) (good.set q true) := by
  have hok := hv.ok r (List.mem_of_getElem? hq)
  have l0 := hok.l0
  have l1 := hok.l1
  have hql := (List.getElem?_eq_some_iff.1 hq).1
  have hp : ∀ y ∈ r.r, y.t = false → Prodn g y.n := fun y hy ht => h.sound _ (hok.syms y hy).n0 (allHas_iff.1 hall y hy ht)
  have hpl : Prodn g r.l := .mk r (List.mem_of_getElem? hq) hp
  have hll := h.lenh
  refine ⟨?_, ?_, ?_, ?_, by rw [size_setCell, size_setCell]; exact h.size, by simpa using h.lenh, by simpa using h.leng, ?_, ?_⟩
  · exact (h.below.setCell (by show w.heap.size ≤ w.heap.size + 2; omega) _).setCell (by show w.heap.size ≤ w.heap.size + 1; omega) _
  · rw [heap_set_ne (by omega), heap_set_ne (by omega)]; exact h.gram
  · rw [heap_set (by rw [heap_set_ne (by omega)]; exact h.hasb)]
    congr 2
    apply Array.ext'
    simp only [Array.toList_setIfInBounds, List.map_set]
  · rw [heap_set_ne (by omega), heap_set h.goodb]
    congr 2
    apply Array.ext'
    simp only [Array.toList_setIfInBounds, List.map_set]
  · intro n hn h1
    by_cases e : n = r.l
    · rw [e]; exact hpl
    · rw [List.getElem?_set_ne (by omega)] at h1
      exact h.sound n hn h1
  · intro m r' hm h1
    by_cases e : q = m
    · subst e
      rw [hq] at hm; injection hm with hm; subst hm
      exact ⟨hp, by rw [List.getElem?_set_self (by omega)]⟩
    · rw [List.getElem?_set_ne e] at h1
      obtain ⟨h2, h3⟩ := h.soundg m r' hm h1
      refine ⟨h2, ?_⟩
      by_cases e2 : r.l.toNat = r'.l.toNat
      · rw [e2, List.getElem?_set_self (by rw [← e2]; omega)]
      · rw [List.getElem?_set_ne e2]; exact h3

/-- one pass over the rules -/
def PPass (g : Gram) (m : Value) (G0 has good : List Bool) (q : Nat) : Prop :=
  (m = .bool true ∧ good.count false < G0.count false) ∨ (m = .bool false ∧ good = G0 ∧ ∀ (e : Nat) (r : Rule), e < q → g.rules[e]? = some r → allHas has r.r = true → good[e]? = some true)

theorem count_set : ∀ (l : List Bool) (q : Nat), l[q]? = some false → (l.set q true).count false + 1 = l.count false
  | [], q, h => by simp at h
  | a :: l, 0, h => by simp at h; subst h; simp
  | a :: l, q + 1, h => by
    have := count_set l q (by simpa using h)
    simp only [List.set_cons_succ, List.count_cons]; omega

theorem prod_closed {g : Gram} {has good : List Bool} (hsg : ∀ (m : Nat) (r : Rule), g.rules[m]? = some r → good[m]? = some true → (∀ y ∈ r.r, y.t = false → Prodn g y.n) ∧ has[r.l.toNat]? = some true)
    (hc : ∀ (e : Nat) (r : Rule), g.rules[e]? = some r → allHas has r.r = true → good[e]? = some true) (n : Int) (h : Prodn g n) : has[n.toNat]? = some true := by
  induction h with
  | mk r hr _ ih =>
    obtain ⟨e, he, rfl⟩ := List.getElem_of_mem hr
    exact (hsg e _ (List.getElem?_eq_getElem he) (hc e _ (List.getElem?_eq_getElem he) (allHas_iff.2 ih))).2

theorem Try.infoBool : (Try.prog.info? 4).map (fun i => (i.zero, i.size, i.bytes)) = some (some (.bool false), 1, 1) := by kernel_rfl

set_option maxRecDepth 100000 in
set_option maxHeartbeats 1600000 in
theorem productive_any (F : Nat → Prop) (g : Gram) (A : Option Addr) (n c : Nat) (w : World) (hr : IsSl Elt.rule F w (.slice A n c) g.rules) (hv : Valid g) :
    Calls Try.prog 67 #[gramV g (.slice A n c)] w fun e w' => ∃ (b : Nat) (gd : List Bool), e = .returned (.slice (some ⟨b, 0, none⟩) gd.length gd.length) ∧ Good g gd ∧ Below w.heap.size w w' ∧ w.heap.size ≤ b ∧ w'.heap[b]? = some (.cells (gd.map Value.bool).toArray 4 (0, 0)) := by
  obtain ⟨rfl, hn⟩ := hr.len
  obtain ⟨N, hN⟩ : ∃ N : Nat, g.nons = N := ⟨g.nons.toNat, by have := hv.n1; omega⟩
  have hN10 : N ≤ 10 := by have := hv.n10; omega
  have h32 := hv.len
  have hmk := run_make_row' (P := Try.prog) 35 4 (.bool false) 1 Try.underlying35 Try.infoBool rfl .i64 .i64 N (by omega) (by omega)
  have hmk2 := run_make_row' (P := Try.prog) 35 4 (.bool false) 1 Try.underlying35 Try.infoBool rfl .i64 .i64 g.rules.length (by omega) (by omega)
  unfold gramV
  rw [hN]
  have HN := Lib.hid hN
  clear hN
  go_enter Try.func67, Try.ntmps67
  go_wp2_with fail
  have hP0 : PInv w (((w.alloc (.cells #[.int .i64 g.terms, .int .i64 N, .int .i64 g.start, .slice A g.rules.length c] 25)).alloc (.cells (madeCells #[.bool false] N) 4)).alloc (.cells (madeCells #[.bool false] g.rules.length) 4)) g (.slice A g.rules.length c) (List.replicate N false) (List.replicate g.rules.length false) := by
    have e1 : (w.alloc (.cells #[.int .i64 g.terms, .int .i64 N, .int .i64 g.start, .slice A g.rules.length c] 25)).heap.size = w.heap.size + 1 := World.size_alloc _ _
    have e2 : ((w.alloc (.cells #[.int .i64 g.terms, .int .i64 N, .int .i64 g.start, .slice A g.rules.length c] 25)).alloc (.cells (madeCells #[.bool false] N) 4)).heap.size = w.heap.size + 2 := by rw [World.size_alloc, e1]
    refine ⟨(((Below.refl _ _).alloc (Nat.le_refl _) _).alloc (by simp) _).alloc (by simp; omega) _, ?_, ?_, ?_, by rw [World.size_alloc, e2]; exact Nat.le_refl _, by rw [HN.out]; simp, by simp, ?_, ?_⟩
    · rw [HN.out, Below.heap_alloc _ _ _ (by omega), Below.heap_alloc _ _ _ (by omega), heap_alloc_new]
    · rw [Below.heap_alloc _ _ _ (by omega), ← e1, heap_alloc_new, made_one, List.map_replicate]
    · rw [← e2, heap_alloc_new, made_one, List.map_replicate]
    · intro n _ h; rw [List.getElem?_replicate] at h; split at h <;> cases h
    · intro m r _ h; rw [List.getElem?_replicate] at h; split at h <;> cases h
  clear hmk hmk2
  go_loopg [5] (g.rules.length + 1) (fun gk m wr => ∃ has good, PInv w wr g (.slice A g.rules.length c) has good ∧ ((m = .bool true ∧ gk = good.count false + 1) ∨ (m = .bool false ∧ gk = 0 ∧ ∀ (e : Nat) (r : Rule), g.rules[e]? = some r → allHas has r.r = true → good[e]? = some true)))
  case atStart => exact ⟨_, _, hP0, .inl ⟨rfl, by rw [List.count_replicate_self]⟩⟩
  case round =>
    clear hP0
    obtain ⟨has0, good0, hP, hm | hm⟩ := hrel
    · obtain ⟨rfl, rfl⟩ := hm
      have hg3 := blk_cell hP.gram (i := 3) rfl
      go_wp2
      clear hg3
      go_loopg [5, 22] g.rules.length (fun gk m i wr => ∃ (q : Nat) (has good : List Bool), q ≤ g.rules.length ∧ gk = g.rules.length - q ∧ i = .int .i64 q ∧ PInv w wr g (.slice A g.rules.length c) has good ∧ PPass g m good0 has good q)
      case atStart => exact ⟨0, has0, good0, by omega, by omega, rfl, hP, .inr ⟨rfl, rfl, fun e r he => by omega⟩⟩
      case round =>
        clear hP
        obtain ⟨q, has, good, hq, rfl, rfl, hP, hpass⟩ := hrel
        obtain ⟨wo, rfl⟩ : ∃ wo : World, wo = wr := ⟨_, rfl⟩
        have hlh := hP.lenh
        have hlg := hP.leng
        rw [HN.out] at hlh
        by_cases hlt : q < g.rules.length
        · obtain ⟨b, o, rfl, hF, hl, hc1, A', c', hc2, hsy⟩ := hr.ruleAt q hlt
          have hok := hv.ok g.rules[q] (by simp)
          have l0 := hok.l0
          have l1 := hok.l1
          have ln := hok.len
          rw [HN.out] at l1
          have hc1' := (hP.below.cell (p := ⟨b, o + q * 2, none⟩) hl).trans hc1
          have hc2' := (hP.below.cell (p := ⟨b, o + q * 2 + 1, none⟩) hl).trans hc2
          have hsz := hP.size
          go_wp2_with fail
          have hP1 : PInv w (wo.alloc (.cells #[.int .i64 g.rules[q].l, .slice A' g.rules[q].r.length c'] 60)) g (.slice (some ⟨b, o, none⟩) g.rules.length c) has good := hP.keep ((Below.refl _ _).alloc (Nat.le_refl _) _)
          have hrb0 := heap_alloc_new wo (.cells #[.int .i64 g.rules[q].l, .slice A' g.rules[q].r.length c'] 60)
          clear hc1' hc2'
          go_loopg [8, 30] g.rules[q].r.length (fun gk ok i wr => ∃ e : Nat, e ≤ g.rules[q].r.length ∧ gk = g.rules[q].r.length - e ∧ i = .int .i64 e ∧ ok = .bool (allHas has (g.rules[q].r.take e)) ∧ PInv w wr g (.slice (some ⟨b, o, none⟩) g.rules.length c) has good ∧
            wr.heap[wo.heap.size]? = some (.cells #[.int .i64 g.rules[q].l, .slice A' g.rules[q].r.length c'] 60 (0, 0)))
          case atStart => exact ⟨0, by omega, by omega, rfl, rfl, hP1, hrb0⟩
          case round =>
            clear hP hP1 hrb0
            obtain ⟨e, he, rfl, rfl, rfl, hP, hrb⟩ := hrel
            by_cases hlt3 : e < g.rules[q].r.length
            · obtain ⟨b3, o3, rfl, hF3, hl3, hc3, hc4⟩ := hsy.symAt e hlt3
              have hc3' := (hP.below.cell (p := ⟨b3, o3 + e * 2, none⟩) hl3).trans hc3
              have hc4' := (hP.below.cell (p := ⟨b3, o3 + e * 2 + 1, none⟩) hl3).trans hc4
              have hsym := hok.syms g.rules[q].r[e] (by simp)
              have hsn := hsym.n0
              have hst := allHas_take (has := has) hlt3
              have HS := Lib.hid hst
              clear hst
              generalize hyy : g.rules[q].r[e] = y at hc3' hc4' HS hsym hsn
              have hsz := hP.size
              have hlr := blk_lt hrb
              have hs1 : w.heap.size + 1 < wr.heap.size := by omega
              have hez : (e : Int) < (g.rules[q].r.length : Int) := by omega
              generalize allHas has (g.rules[q].r.take e) = ok at HS
              clear hyy hc3 hc4
              obtain ⟨yt, yn⟩ := y
              simp only at hsn
              obtain ⟨yk, rfl⟩ : ∃ k : Nat, yn = (k : Int) := ⟨yn.toNat, by omega⟩
              simp only [Int.toNat_natCast] at HS
              cases yt with
              | true =>
                cases ok with
                | true =>
                  go_wp2_with fail
                  go_roundg (g.rules[q].r.length - (e + 1))
                  case measure => omega
                  case rel => exact ⟨e + 1, by omega, rfl, by go_num, by rw [HS.out]; rfl, hP.keep ((Below.refl _ _).alloc (Nat.le_refl _) _), (Below.heap_alloc _ _ _ hlr).trans hrb⟩
                | false =>
                  go_wp2_with fail
                  go_roundg (g.rules[q].r.length - (e + 1))
                  case measure => omega
                  case rel => exact ⟨e + 1, by omega, rfl, by go_num, by rw [HS.out]; rfl, hP.keep ((Below.refl _ _).alloc (Nat.le_refl _) _), (Below.heap_alloc _ _ _ hlr).trans hrb⟩
              | false =>
                have hyl : yk < N := by have h5 := hsym.nn rfl; have := HN.out; simp only at h5; omega
                have hyh : yk < has.length := by omega
                have hhc : wr.cell? ⟨w.heap.size + 1, yk, none⟩ = some (.bool (has.getD yk false)) := blk_cell hP.hasb (by simp [List.getD_eq_getElem?_getD, hyh])
                generalize has.getD yk false = hv2 at hhc HS
                cases ok with
                | true =>
                  go_wp2_with fail
                  go_roundg (g.rules[q].r.length - (e + 1))
                  case measure => omega
                  case rel => exact ⟨e + 1, by omega, rfl, by go_num, by rw [HS.out]; rfl, hP.keep ((Below.refl _ _).alloc (Nat.le_refl _) _), (Below.heap_alloc _ _ _ hlr).trans hrb⟩
                | false =>
                  go_wp2_with fail
                  go_roundg (g.rules[q].r.length - (e + 1))
                  case measure => omega
                  case rel => exact ⟨e + 1, by omega, rfl, by go_num, by rw [HS.out]; rfl, hP.keep ((Below.refl _ _).alloc (Nat.le_refl _) _), (Below.heap_alloc _ _ _ hlr).trans hrb⟩
            · obtain rfl : e = g.rules[q].r.length := by omega
              rw [List.take_length]
              have hqg : q < good.length := by omega
              have hlh2 : g.rules[q].l.toNat < has.length := by omega
              have hsz := hP.size
              have hs1 : w.heap.size + 1 < wr.heap.size := by omega
              have hs2 : w.heap.size + 1 + 1 < wr.heap.size := by omega
              have hr0 := blk_cell hrb (i := 0) rfl
              have hlr := blk_lt hrb
              have hgc : wr.cell? ⟨w.heap.size + 1 + 1, q, none⟩ = some (.bool good[q]) := blk_cell hP.goodb (by simp [hqg])
              have hgf : wr.frozen? ⟨w.heap.size + 1 + 1, q, none⟩ = false := blk_free hP.goodb
              have hhc : wr.cell? ⟨w.heap.size + 1, g.rules[q].l.toNat, none⟩ = some (.bool has[g.rules[q].l.toNat]) := blk_cell hP.hasb (by simp [hlh2])
              have hhf : wr.frozen? ⟨w.heap.size + 1, g.rules[q].l.toNat, none⟩ = false := blk_free hP.hasb
              have hqz : (q : Int) < (g.rules.length : Int) := by omega
              have hq32 : q < 32 := by omega
              have hgq : good[q]? = some good[q] := List.getElem?_eq_getElem hqg
              have HGQ := Lib.hid hgq
              clear hgq
              generalize good[q] = gq at hgc HGQ
              by_cases hall : allHas has g.rules[q].r = true
              · have HA := Lib.hid hall
                cases gq with
                | true =>
                  have hpass2 : PPass g u5 good0 has good (q + 1) := by
                    rcases hpass with hp | ⟨h1, h2, h3⟩
                    · exact .inl hp
                    · refine .inr ⟨h1, h2, fun e r he hr ha => ?_⟩
                      by_cases eq : e = q
                      · subst eq; exact HGQ.out
                      · exact h3 e r (by omega) hr ha
                  clear hpass
                  rw [hall]
                  clear hall
                  go_wp2_with fail
                  go_roundg (g.rules.length - (q + 1))
                  case measure => omega
                  case rel => exact ⟨q + 1, has, good, by omega, rfl, by go_num, hP, hpass2⟩
                | false =>
                  have hpass2 : PPass g (.bool true) good0 (has.set g.rules[q].l.toNat true) (good.set q true) (q + 1) := by
                    have h1 := count_set good q HGQ.out
                    rcases hpass with ⟨_, hp⟩ | ⟨_, h2, _⟩
                    · exact .inl ⟨rfl, by omega⟩
                    · subst h2; exact .inl ⟨rfl, by omega⟩
                  clear hpass
                  have hP3 := (hP.keep (wr' := wr.drew) ((Below.refl _ _).drew)).put hv (List.getElem?_eq_getElem hlt) hall
                  rw [hall]
                  clear hall
                  go_wp2_with fail
                  go_region
                  go_wp2
                  go_roundg (g.rules.length - (q + 1))
                  case measure => omega
                  case rel => exact ⟨q + 1, _, _, by omega, rfl, by go_num, hP3, hpass2⟩
              · have hall2 : allHas has g.rules[q].r = false := by simpa using hall
                have hpass2 : PPass g u5 good0 has good (q + 1) := by
                  rcases hpass with hp | ⟨h1, h2, h3⟩
                  · exact .inl hp
                  · refine .inr ⟨h1, h2, fun e r he hr ha => ?_⟩
                    by_cases eq : e = q
                    · subst eq
                      rw [List.getElem?_eq_getElem hlt] at hr
                      injection hr with hr
                      exact absurd (hr ▸ ha) hall
                    · exact h3 e r (by omega) hr ha
                clear hpass
                rw [hall2]
                clear hall hall2
                go_wp2_with fail
                go_roundg (g.rules.length - (q + 1))
                case measure => omega
                case rel => exact ⟨q + 1, has, good, by omega, rfl, by go_num, hP, hpass2⟩
        · obtain rfl : q = g.rules.length := by omega
          rcases hpass with ⟨rfl, hp⟩ | ⟨rfl, rfl, hp⟩
          · go_wp2
            go_roundg (good.count false + 1)
            case measure => omega
            case rel => exact ⟨has, good, hP, .inl ⟨rfl, rfl⟩⟩
          · go_wp2
            go_roundg 0
            case measure => omega
            case rel => exact ⟨has, good, hP, .inr ⟨rfl, rfl, fun e r hr ha => hp e r (List.getElem?_eq_some_iff.1 hr).1 hr ha⟩⟩
    · obtain ⟨rfl, rfl, hcl⟩ := hm
      go_wp2
      go_ret
      refine ⟨w.heap.size + 2, good0, ?_, ⟨hP.leng, fun m r hm => ?_⟩, hP.below, by omega, hP.goodb⟩
      · rw [hP.leng]; rfl
      · constructor
        · intro h; exact (hP.soundg m r hm h).1
        · intro h; exact hcl m r hm (allHas_iff.2 fun y hy ht => prod_closed hP.soundg hcl _ (h y hy ht))
end Go.Proofs.Ytcndbohiiodndaa
