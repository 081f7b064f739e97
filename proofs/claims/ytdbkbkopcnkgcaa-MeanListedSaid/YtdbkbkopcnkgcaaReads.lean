import Derived.Test.YtdbkbkopcnkgcaaTreeC
import Derived.Test.YtdbkbkopcnkgcaaRevInt
import Derived.Deep.RegionHeld3
open Go Go.RowKit
namespace Go.Proofs.Ytdbkbkopcnkgcaa

/-! ### pre, reads, isTree -/
/-- the rules of trees in preorder -/
inductive PreR : List Tr → List Int → Prop where
  | nil : PreR [] []
  | cons (r m : Int) {us ks : List Tr} {p q : List Int} (hu : PreR us p) (h : PreR ks q) : PreR (Tr.mk r m us :: ks) (r :: (p ++ q))
theorem PreR.one {r m : Int} {us : List Tr} {p : List Int} (h : PreR [Tr.mk r m us] p) : ∃ q, p = r :: q ∧ PreR us q := by
  cases h with
  | cons _ _ hu h => cases h; exact ⟨_, by rw [List.append_nil], hu⟩
theorem PreR.uncons {t : Tr} {ks : List Tr} {p : List Int} (h : PreR (t :: ks) p) : ∃ u q, p = u ++ q ∧ PreR [t] u ∧ PreR ks q := by
  cases h with
  | @cons r m us ks p q hu h => exact ⟨r :: (p ++ []), q, by simp, .cons r m hu .nil, h⟩
theorem PreR.nilI {p : List Int} (h : PreR [] p) : p = [] := by cases h; rfl

/-- the word that trees derive -/
inductive ReadR (g : Gram) : List Sym → List Tr → List Int → Prop where
  | nil : ReadR g [] [] []
  | term (n : Int) {l : List Sym} {ks : List Tr} {W : List Int} (h : ReadR g l ks W) : ReadR g (⟨true, n⟩ :: l) (Tr.mk (-1) n [] :: ks) (n :: W)
  | non (k : Nat) (r : Rule) {l : List Sym} {us ks : List Tr} {W W' : List Int} (hr : g.rules[k]? = some r) (hu : ReadR g r.r us W) (h : ReadR g l ks W') : ReadR g (⟨false, r.l⟩ :: l) (Tr.mk k 0 us :: ks) (W ++ W')
theorem ReadR.uncons {g : Gram} {y : Sym} {l : List Sym} {t : Tr} {ks : List Tr} {W : List Int} (h : ReadR g (y :: l) (t :: ks) W) : ∃ v W', W = v ++ W' ∧ ReadR g [y] [t] v ∧ ReadR g l ks W' := by
  generalize hs : y :: l = sl at h
  cases h with
  | term n h =>
    injection hs with h1 h2
    subst h1 h2
    exact ⟨[n], _, rfl, .term n .nil, h⟩
  | non k r hr hu h =>
    injection hs with h1 h2
    subst h1 h2
    exact ⟨_ ++ [], _, by rw [List.append_nil], .non k r hr hu .nil, h⟩
theorem ReadR.one {g : Gram} {y : Sym} {t : Tr} {W : List Int} (h : ReadR g [y] [t] W) : (∃ n, y = ⟨true, n⟩ ∧ t = Tr.mk (-1) n [] ∧ W = [n]) ∨ ∃ (k : Nat) (r : Rule) (us : List Tr), g.rules[k]? = some r ∧ y = ⟨false, r.l⟩ ∧ t = Tr.mk k 0 us ∧ ReadR g r.r us W := by
  generalize hs : [y] = sl at h
  generalize ht : [t] = tl at h
  cases h with
  | nil => cases hs
  | term n h =>
    injection hs with h1 h2
    injection ht with h3 h4
    subst h2 h4
    cases h
    exact .inl ⟨n, h1, h3, rfl⟩
  | non k r hr hu h =>
    injection hs with h1 h2
    injection ht with h3 h4
    subst h2 h4
    cases h
    exact .inr ⟨k, r, _, hr, h1, h3, by rw [List.append_nil]; exact hu⟩
theorem ReadR.len {g : Gram} {l : List Sym} {ks : List Tr} {W : List Int} (h : ReadR g l ks W) : ks.length = l.length := by
  induction h with
  | nil => rfl
  | term n _ ih => simp [ih]
  | non k r hr _ _ _ ih2 => simp [ih2]
theorem ReadR.nilI {g : Gram} {ks : List Tr} {W : List Int} (h : ReadR g [] ks W) : W = [] := by
  generalize hs : ([] : List Sym) = sl at h
  cases h with
  | nil => rfl
  | term n h => cases hs
  | non k r hr hu h => cases hs
theorem IsSl.trIn {m : Nat} {F : Nat → Prop} {w : World} {A : Option Addr} {n c : Nat} {xs : List Tr} (h : IsSl (trD m) F w (.slice A n c) xs) (k : Nat) (hk : k < xs.length) :
    ∃ b o, A = some ⟨b, o, none⟩ ∧ F b ∧ b < w.heap.size ∧ w.cell? ⟨b, o + k * 3, none⟩ = some (.int .i64 xs[k].rule) ∧ w.cell? ⟨b, o + k * 3 + 1, none⟩ = some (.int .i64 xs[k].term) ∧
      ∃ R cr m', m = m' + 1 ∧ w.cell? ⟨b, o + k * 3 + 2, none⟩ = some (.slice R xs[k].kids.length cr) ∧ IsSl (trD m') F w (.slice R xs[k].kids.length cr) xs[k].kids := by
  obtain ⟨A', c', he, hl, h⟩ := h
  injection he with h1 h2 h3
  subst h1
  obtain ⟨b, o, rfl, hb, hlt, he⟩ := h k hk
  rw [trD_sz] at he
  cases m with
  | zero => exact he.elim
  | succ m =>
    obtain ⟨h1, h2, _, R, cr, h5, h6, h7⟩ := he
    exact ⟨b, o, rfl, hb, hlt, h1.2, h2.2, R, cr, m, rfl, h5, h7⟩
theorem own_one (w : World) (v : Value) : (w.alloc (.cells #[v] 3)).ownsRow w.heap.size 3 1 (.slice (some ⟨w.heap.size, 0, none⟩) 1 1) 1 [v] := ⟨rfl, .inr ⟨w.heap.size, 1, #[v], rfl, Nat.le_refl _, heap_alloc_new w _, by omega, by unfold maxLen; omega, rfl, by simp⟩⟩

theorem own_belowR {w w' : World} {base size n : Nat} {e : TypeId} {v : Value} {xs : List Value} (ho : w.ownsRow base e size v n xs) (hb : Below w.heap.size w w') : w'.ownsRow base e size v n xs :=
  ho.kept (row := none) ⟨hb.os, hb.tape, hb.output, hb.size, fun k hk _ => hb.block k hk⟩ (by cases v.ownBlock <;> simp)
theorem cell_liftR {w w' : World} {b i : Nat} {v : Value} (hb : Below w.heap.size w w') (h : w.cell? ⟨b, i, none⟩ = some v) : w'.cell? ⟨b, i, none⟩ = some v := (hb.cell (p := ⟨b, i, none⟩) (World.block_lt_of_cell? w _ h)).trans h
def PreC (m : Nat) : Prop := ∀ (F2 : Nat → Prop) (t : Tr) (p : List Int) (A : Option Addr) (c : Nat) (w : World), IsSl (trD m) F2 w (.slice A t.kids.length c) t.kids → PreR [t] p → p.length ≤ 5000 →
    Calls Try.prog 36 #[.agg #[.int .i64 t.rule, .int .i64 t.term, .slice A t.kids.length c]] w fun e w' => ∃ B d, e = .returned (.slice B p.length d) ∧ Below w.heap.size w w' ∧ w'.ownsRow w.heap.size 3 1 (.slice B p.length d) p.length (p.map (Value.int .i64))
set_option maxRecDepth 100000 in
set_option maxHeartbeats 3200000 in
theorem pre_step (m : Nat) (IH : ∀ m', m = m' + 1 → PreC m') : PreC m := by
  intro F2 t p A c w hk hp hl
  obtain ⟨r, tm, us⟩ := t
  obtain ⟨q, rfl, hpu⟩ := hp.one
  simp only [Tr.kids] at hk
  simp only [Tr.rule, Tr.term, Tr.kids]
  obtain ⟨-, hn⟩ := hk.len
  obtain ⟨n, hnn⟩ : ∃ n, n = us.length := ⟨_, rfl⟩
  rw [← hnn] at hk hn ⊢
  have HNN := Lib.hid hnn
  have hlq : q.length ≤ 4999 := by simpa using hl
  obtain ⟨ii, hi, hz0, hz1, hz2⟩ := info_parts Try.infoIntR
  have HPU := Lib.hid hpu
  have HLQ := Lib.hid hlq
  have HK := Lib.hid hk
  clear hnn hpu hl hlq hk hp
  obtain ⟨o1, ho1⟩ : ∃ o : Obj, o = .cells #[.int .i64 r, .int .i64 tm, .slice A n c] 70 := ⟨_, rfl⟩
  go_enter Try.func36, Try.ntmps36
  go_wp2_with fail
  have hbA : Below w.heap.size w ((w.alloc (.cells #[.int .i64 r, .int .i64 tm, .slice A n c] 70)).alloc (.cells #[.int .i64 r] 3)) := below2 w _ _
  have hown := own_one (w.alloc (.cells #[.int .i64 r, .int .i64 tm, .slice A n c] 70)) (.int .i64 r)
  have hsz1 : (w.alloc (.cells #[.int .i64 r, .int .i64 tm, .slice A n c] 70)).heap.size = w.heap.size + 1 := World.size_alloc _ _
  rw [hsz1] at hown
  have hWs : w.heap.size + 1 ≤ ((w.alloc (.cells #[.int .i64 r, .int .i64 tm, .slice A n c] 70)).alloc (.cells #[.int .i64 r] 3)).heap.size := by simp only [World.size_alloc]; omega
  generalize (w.alloc (.cells #[.int .i64 r, .int .i64 tm, .slice A n c] 70)).alloc (.cells #[.int .i64 r] 3) = W at hbA hown hWs ⊢
  go_loopg [12, 3] n (fun gk i ov wr => ∃ (k : Nat) (Av : Option Addr) (cv : Nat) (d rest : List Int), k ≤ n ∧ gk = n - k ∧ i = .int .i64 k ∧ ov = .slice Av (d.length + 1) cv ∧ Below w.heap.size w wr ∧ w.heap.size + 1 ≤ wr.heap.size ∧ wr.ownsRow (w.heap.size + 1) 3 1 (.slice Av (d.length + 1) cv) (d.length + 1) ((r :: d).map (Value.int .i64)) ∧ q = d ++ rest ∧ PreR (us.drop k) rest)
  case atStart => exact ⟨0, some ⟨w.heap.size + 1, 0, none⟩, 1, [], q, Nat.zero_le _, rfl, rfl, rfl, hbA, hWs, hown, rfl, HPU.out⟩
  case round =>
    obtain ⟨k, Av, cv, d, rest, hk, rfl, rfl, rfl, hB, hsw, hO, hqe, hpr⟩ := hrel
    obtain ⟨wo, rfl⟩ : ∃ wo : World, wo = wr := ⟨_, rfl⟩
    by_cases hlt : k < n
    · have hkz : (k : Int) < (n : Int) := by omega
      have hku : k < us.length := by rw [← HNN.out]; exact hlt
      obtain ⟨b2, o2, rfl, _, hb2l, c0, c1, Rk, cr, m', hm', c2, hkk⟩ := (HK.out.below hB).trIn k hku
      rw [List.drop_eq_getElem_cons hku] at hpr
      obtain ⟨v, rest', rfl, hv1, hpr'⟩ := hpr.uncons
      generalize us[k] = t2 at c0 c1 c2 hkk hv1
      have hlv : d.length + v.length ≤ 4999 := by have := HLQ.out; rw [hqe] at this; simp at this; omega
      have hbB := below1 wo (.cells #[.int .i64 t2.rule, .int .i64 t2.term, .slice Rk t2.kids.length cr] 70)
      have hcl := IH m' hm' _ t2 v Rk cr _ (hkk.below hbB) hv1 (by omega)
      have HCL := Lib.hid hcl
      have HPR := Lib.hid hpr'
      have HQE := Lib.hid hqe
      clear hcl hpr' hqe hkk hv1 hpr
      go_wp2_with fail
      refine HCL.out.mono ?_
      rintro e5 w5 ⟨B5, d5, rfl, hb5, hown5⟩
      have hsl5 := own_ints hown5
      have hO5 := own_belowR (own_belowR hO hbB) hb5
      have hsz := hB.size
      have hsB := hbB.size
      have hs5 := hb5.size
      clear HCL
      go_wp2_with (first | (at_builtin; refine wpList_append_src _ rfl (.tmp 16) (.tmp 18) 22 rfl (w.heap.size + 1) 3 ii (.int .i64 0) 1 8 Try.underlying22 hi hz0 hz1 hz2 rfl (by decide) _ (d.length + 1) ((r :: d).map (Value.int .i64)) rfl hO5 B5 v.length d5 (v.map (Value.int .i64)) rfl (by simp) ?c0 ?c1 ?c2 ?c3 ?c4 ?c5 ?_))
      case c0 => exact fun e => sl_none hsl5 e
      case c1 => exact fun a ha j u hj => sl_ints hsl5 a ha j u hj
      case c2 => intro u hu; obtain ⟨z, _, rfl⟩ := List.mem_map.1 hu; rfl
      case c3 => unfold maxLen; omega
      case c4 => omega
      case c5 => omega
      intro v7 w7 hown7 hg7 hat7
      obtain ⟨A7, c7, rfl⟩ := own_form hown7
      have hB7 : Below w.heap.size w w7 := ((hB.trans ((hbB.trans (hb5.mono hsB)).mono hsz)).grown hg7 (by omega) fun j hj => by have := own_base' hO5 j hj; omega)
      have hs7 := hg7.size
      have e1 : Value.int .i64 r :: (d.map (Value.int .i64) ++ v.map (Value.int .i64)) = (r :: (d ++ v)).map (Value.int .i64) := by simp
      have e2 : d.length + 1 + v.length = (d ++ v).length + 1 := by rw [List.length_append]; omega
      rw [e1, e2] at hown7
      rw [e2]
      clear e1 e2
      go_wp2
      go_roundg (n - (k + 1))
      case measure => omega
      case rel => exact ⟨k + 1, A7, c7, d ++ v, rest', by omega, rfl, by go_num, rfl, hB7, by omega, hown7, by rw [HQE.out, List.append_assoc], HPR.out⟩
    · obtain rfl : k = n := by omega
      rw [List.drop_eq_nil_of_le (by rw [← HNN.out]; exact Nat.le_refl _)] at hpr
      have hr0 := hpr.nilI
      subst hr0
      rw [List.append_nil] at hqe
      subst hqe
      have hfin : wo.ownsRow w.heap.size 3 1 (.slice Av (q.length + 1) cv) (q.length + 1) ((r :: q).map (Value.int .i64)) := hO.mono_base (by omega)
      have hwf := hB
      clear hO hB
      go_wp2_with fail
      go_ret
      exact ⟨Av, cv, rfl, hwf, hfin⟩
theorem pre_any : ∀ m, PreC m
  | 0 => pre_step 0 fun _ h => by omega
  | m + 1 => pre_step (m + 1) fun m' h => by
    obtain rfl : m = m' := by omega
    exact pre_any m

/-! reads -/
theorem three_newR (w : World) (o1 o2 o3 : Obj) : Below w.heap.size w (((w.alloc o1).alloc o2).alloc o3) ∧ (((w.alloc o1).alloc o2).alloc o3).heap.size = w.heap.size + 1 + 1 + 1 ∧ (((w.alloc o1).alloc o2).alloc o3).heap[w.heap.size]? = some o1 ∧ (((w.alloc o1).alloc o2).alloc o3).heap[w.heap.size + 1]? = some o2 ∧ (((w.alloc o1).alloc o2).alloc o3).heap[w.heap.size + 1 + 1]? = some o3 := by
  have s1 : (w.alloc o1).heap.size = w.heap.size + 1 := World.size_alloc _ _
  have s2 : ((w.alloc o1).alloc o2).heap.size = w.heap.size + 1 + 1 := by rw [World.size_alloc, s1]
  refine ⟨(((Below.refl _ _).alloc (Nat.le_refl _) _).alloc (by omega) _).alloc (by omega) _, by rw [World.size_alloc, s2], ?_, ?_, ?_⟩
  · rw [Below.heap_alloc _ _ _ (by omega), Below.heap_alloc _ _ _ (by omega), heap_alloc_new]
  · rw [Below.heap_alloc _ _ _ (by omega), ← s1, heap_alloc_new]
  · rw [← s2, heap_alloc_new]
def ReadC (g : Gram) (m : Nat) : Prop := ∀ (F F2 : Nat → Prop) (A0 : Option Addr) (c0 : Nat) (y : Sym) (t : Tr) (W : List Int) (A : Option Addr) (c : Nat) (w : World), IsSl Elt.rule F w (.slice A0 g.rules.length c0) g.rules → IsSl (trD m) F2 w (.slice A t.kids.length c) t.kids → ReadR g [y] [t] W → W.length ≤ 1000 →
    Calls Try.prog 85 #[gramV g (.slice A0 g.rules.length c0), .agg #[.bool y.t, .int .i64 y.n], .agg #[.int .i64 t.rule, .int .i64 t.term, .slice A t.kids.length c]] w fun e w' => ∃ B d, e = .returned (.tuple #[.slice B W.length d, .bool true]) ∧ Below w.heap.size w w' ∧ w'.ownsRow w.heap.size 3 1 (.slice B W.length d) W.length (W.map (Value.int .i64))
set_option maxRecDepth 100000 in
set_option maxHeartbeats 6400000 in
theorem reads_step (g : Gram) (hv : Valid g) (m : Nat) (IH : ∀ m', m = m' + 1 → ReadC g m') : ReadC g m := by
  intro F F2 A0 c0 y t W A c w hr hk hp hl
  have hl32 := hv.len
  have gg := heap_alloc_new w (.cells #[.int .i64 g.terms, .int .i64 g.nons, .int .i64 g.start, .slice A0 g.rules.length c0] 25)
  obtain ⟨ii, hi, hz0, hz1, hz2⟩ := info_parts Try.infoIntR
  unfold gramV
  rcases hp.one with ⟨n, rfl, rfl, rfl⟩ | ⟨k, r, us, hkr, rfl, rfl, hu⟩
  · clear IH hp hk
    simp only [Tr.rule, Tr.term, Tr.kids, List.length_nil] at *
    go_enter Try.func85, Try.ntmps85
    go_wp2_with fail
    obtain ⟨hbW, hsW, -, e1, e2⟩ := three_newR w (.cells #[.int .i64 g.terms, .int .i64 g.nons, .int .i64 g.start, .slice A0 g.rules.length c0] 25) (.cells #[.bool true, .int .i64 n] 37) (.cells #[.int .i64 (-1), .int .i64 n, .slice A 0 c] 70)
    generalize ((w.alloc (.cells #[.int .i64 g.terms, .int .i64 g.nons, .int .i64 g.start, .slice A0 g.rules.length c0] 25)).alloc (.cells #[.bool true, .int .i64 n] 37)).alloc (.cells #[.int .i64 (-1), .int .i64 n, .slice A 0 c] 70) = W at hbW hsW e1 e2 ⊢
    have s1 := blk_cell e1 (i := 1) rfl
    have t0 := blk_cell e2 (i := 0) rfl
    have t1 := blk_cell e2 (i := 1) rfl
    have t2 := blk_cell e2 (i := 2) rfl
    have hnn : (n == n) = true := by simp
    clear e1 e2 gg
    have n1 := World.new_ne W _ s1
    have n2 := World.new_ne W _ t0
    go_region_held3 (fun w' => w'.cell? ⟨w.heap.size + 1, 1, none⟩ = some (.int .i64 n) ∧ w'.cell? ⟨w.heap.size + 1 + 1, 0, none⟩ = some (.int .i64 (-1)) ∧ w'.cell? ⟨w.heap.size + 1 + 1, 1, none⟩ = some (.int .i64 n) ∧ w'.cell? ⟨w.heap.size + 1 + 1, 2, none⟩ = some (.slice A 0 c)) (go_keep) (fail)
    have hof := own_one W (.int .i64 n)
    rw [hsW] at hof
    have hb1 := below1 W (.cells #[.int .i64 n] 3)
    have hszl := hbW.size
    go_wp2_with fail
    go_ret2
    refine ⟨some ⟨w.heap.size + 1 + 1 + 1, 0, none⟩, 1, rfl, (hbW.trans (hb1.mono hszl)).drew, ?_⟩
    exact (hof.mono_base (by omega)).drew
  · simp only [Tr.kids] at hk
    simp only [Tr.rule, Tr.term, Tr.kids]
    have hkl : k < g.rules.length := (List.getElem?_eq_some_iff.1 hkr).1
    have hkg : g.rules[k] = r := (List.getElem?_eq_some_iff.1 hkr).2
    have hul := hu.len
    obtain ⟨-, hn⟩ := hk.len
    obtain ⟨n, hnn⟩ : ∃ n, n = us.length := ⟨_, rfl⟩
    rw [← hnn] at hk hn hul ⊢
    obtain ⟨nr, hnr⟩ : ∃ nr, nr = g.rules.length := ⟨_, rfl⟩
    obtain ⟨br, or_, rfl, _, hbr, r0, P, cp, r1, hsy⟩ := hr.ruleAt k hkl
    rw [hkg] at r0 r1 hsy
    rw [← hnr] at hkl ⊢
    rw [← hul] at r1 hsy
    have hkz : (k : Int) < (nr : Int) := by omega
    have hk0 : decide ((k : Int) < 0) = false := by simp
    have hk1 : decide ((k : Int) ≥ (nr : Int)) = false := by simp; omega
    have hk2 : decide (nr ≤ k) = false := by simp; omega
    have HR := Lib.hid hr
    have HK := Lib.hid hk
    have HSY := Lib.hid hsy
    have HU := Lib.hid hu
    have HNN := Lib.hid hnn
    have HNR := Lib.hid hnr
    have HUL := Lib.hid hul
    have HL := Lib.hid hl
    have HKR := Lib.hid hkr
    clear hr hk hsy hu hnn hnr hul hp hl hkg hkr gg
    go_enter Try.func85, Try.ntmps85
    go_wp2_with fail
    obtain ⟨hbW, hsW, e0, e1, e2⟩ := three_newR w (.cells #[.int .i64 g.terms, .int .i64 g.nons, .int .i64 g.start, .slice (some ⟨br, or_, none⟩) nr c0] 25) (.cells #[.bool false, .int .i64 r.l] 37) (.cells #[.int .i64 k, .int .i64 0, .slice A n c] 70)
    generalize ((w.alloc (.cells #[.int .i64 g.terms, .int .i64 g.nons, .int .i64 g.start, .slice (some ⟨br, or_, none⟩) nr c0] 25)).alloc (.cells #[.bool false, .int .i64 r.l] 37)).alloc (.cells #[.int .i64 k, .int .i64 0, .slice A n c] 70) = WW at hbW hsW e0 e1 e2 ⊢
    have g3 := cell_behind (blk_cell e0 (i := 3) rfl)
    have s1 := cell_behind (blk_cell e1 (i := 1) rfl)
    have t0 := cell_behind (blk_cell e2 (i := 0) rfl)
    have t1 := cell_behind (blk_cell e2 (i := 1) rfl)
    have t2 := cell_behind (blk_cell e2 (i := 2) rfl)
    have q0 := cell_behind (cell_liftR hbW r0)
    have q1 := cell_behind (cell_liftR hbW r1)
    have hrr : (r.l == r.l) = true := by simp
    have hnn2 : ((n : Int) == (n : Int)) = true := by simp
    have hs0 := hbW.size
    have hsW2 : w.heap.size + 1 + 1 < WW.heap.size := by omega
    clear hsW
    refine wp_region_behind (by kernel_rfl) (by kernel_rfl) ?_
    repeat (go_big_quiet_step (fail))
    refine wpQuiet_nil ?_
    intro _ hw'
    obtain ⟨P2, hw''⟩ := hw'
    subst hw''
    have hb2 := P2.h
    clear g3 s1 t0 t1 t2 q0 q1
    generalize P2.w' = W1 at hb2 ⊢
    have hl0 : w.heap.size < WW.heap.size := by omega
    have u0 := blk_cell (blk_below hb2 (blk_lt e2) e2) (i := 2) rfl
    have HE0 := Lib.hid e0
    have HE2 := Lib.hid e2
    have HR0 := Lib.hid r0
    have HR1 := Lib.hid r1
    clear e0 e1 e2 r0 r1
    go_wp2_with fail
    clear u0
    go_loopg [79, 8] n (fun gk i ov wr => ∃ (q : Nat) (Av : Option Addr) (cv : Nat) (d rest : List Int), q ≤ n ∧ gk = n - q ∧ i = .int .i64 q ∧ ov = .slice Av d.length cv ∧ Below WW.heap.size WW wr ∧ wr.ownsRow WW.heap.size 3 1 (.slice Av d.length cv) d.length (d.map (Value.int .i64)) ∧ W = d ++ rest ∧ ReadR g (r.r.drop q) (us.drop q) rest)
    case atStart => exact ⟨0, none, 0, [], W, Nat.zero_le _, rfl, rfl, rfl, hb2, World.ownsRow_nil _ _ _ _, rfl, HU.out⟩
    case round =>
      clear hb2
      obtain ⟨q, Av, cv, d, rest, hq, rfl, rfl, rfl, hB, hO, hWe, hRd⟩ := hrel
      obtain ⟨wo, rfl⟩ : ∃ wo : World, wo = wr := ⟨_, rfl⟩
      by_cases hlt : q < n
      · have hqz : (q : Int) < (n : Int) := by omega
        have hqu : q < us.length := by rw [← HNN.out]; exact hlt
        have hqr : q < r.r.length := by rw [← HUL.out]; exact hlt
        have hBw : Below w.heap.size w wo := hbW.trans (hB.mono hs0)
        obtain ⟨b2, o2, rfl, _, hb2l, x0, x1, Rk, cr, m', hm', x2, hkk⟩ := (HK.out.below hBw).trIn q hqu
        obtain ⟨b3, o3, rfl, _, hb3l, y0, y1⟩ := (HSY.out.below hBw).symAt q hqr
        rw [List.drop_eq_getElem_cons hqu, List.drop_eq_getElem_cons hqr] at hRd
        obtain ⟨v, rest', rfl, hv1, hRd'⟩ := hRd.uncons
        generalize us[q] = k2 at x0 x1 x2 hkk hv1
        generalize r.r[q] = ys at y0 y1 hv1
        obtain ⟨yt, yn⟩ := ys
        simp only at y0 y1
        have hlv : d.length + v.length ≤ 1000 := by have := HL.out; rw [hWe] at this; simp at this; omega
        obtain ⟨W3, hW3⟩ : ∃ W3 : World, W3 = wo.alloc (.cells #[.int .i64 k2.rule, .int .i64 k2.term, .slice Rk k2.kids.length cr] 70) := ⟨_, rfl⟩
        have hbB : Below wo.heap.size wo W3 := by rw [hW3]; exact below1 wo _
        have hkb : W3.heap[wo.heap.size]? = some (.cells #[.int .i64 k2.rule, .int .i64 k2.term, .slice Rk k2.kids.length cr] 70) := by rw [hW3]; exact heap_alloc_new wo _
        have hbD : Below wo.heap.size wo W3.drew := hbB.drew
        have hcl := IH m' hm' _ _ _ c0 _ k2 v Rk cr W3.drew (HR.out.below (hBw.trans (hbD.mono hBw.size))) (hkk.below hbD) hv1 (by omega)
        rw [← HNR.out] at hcl
        unfold gramV at hcl
        have HCL := Lib.hid hcl
        have HRD := Lib.hid hRd'
        have HWE := Lib.hid hWe
        clear hcl hRd' hWe hkk hv1 hRd
        generalize k2.rule = kr at x0 hW3 hkb HCL
        generalize k2.term = kt at x1 hW3 hkb HCL
        generalize k2.kids.length = kl at x2 hW3 hkb HCL
        go_wp2_with fail
        rw [← hW3]
        have g0 := blk_cell (blk_below (hB.trans (hbB.mono hB.size)) (by omega) HE0.out) (i := 0) rfl
        have g1 := blk_cell (blk_below (hB.trans (hbB.mono hB.size)) (by omega) HE0.out) (i := 1) rfl
        have g2 := blk_cell (blk_below (hB.trans (hbB.mono hB.size)) (by omega) HE0.out) (i := 2) rfl
        have g3 := blk_cell (blk_below (hB.trans (hbB.mono hB.size)) (by omega) HE0.out) (i := 3) rfl
        have t0 := blk_cell (blk_below (hB.trans (hbB.mono hB.size)) (by omega) HE2.out) (i := 0) rfl
        have q1 := cell_liftR (hBw.trans (hbB.mono hBw.size)) HR1.out
        have z0 := cell_liftR hbB y0
        have z1 := cell_liftR hbB y1
        have p0 := blk_cell hkb (i := 0) rfl
        have p1 := blk_cell hkb (i := 1) rfl
        have p2 := blk_cell hkb (i := 2) rfl
        clear hW3 x0 x1 x2 y0 y1
        go_region_held3 (fun w' => w'.cell? ⟨w.heap.size, 0, none⟩ = some (.int .i64 g.terms) ∧ w'.cell? ⟨w.heap.size, 1, none⟩ = some (.int .i64 g.nons) ∧ w'.cell? ⟨w.heap.size, 2, none⟩ = some (.int .i64 g.start) ∧ w'.cell? ⟨w.heap.size, 3, none⟩ = some (.slice (some ⟨br, or_, none⟩) nr c0) ∧ w'.cell? ⟨w.heap.size + 1 + 1, 0, none⟩ = some (.int .i64 k) ∧ w'.cell? ⟨br, or_ + k * 2 + 1, none⟩ = some (.slice (some ⟨b3, o3, none⟩) n cp) ∧ w'.cell? ⟨b3, o3 + q * 2, none⟩ = some (.bool yt) ∧ w'.cell? ⟨b3, o3 + q * 2 + 1, none⟩ = some (.int .i64 yn) ∧ w'.cell? ⟨wo.heap.size, 0, none⟩ = some (.int .i64 kr) ∧ w'.cell? ⟨wo.heap.size, 1, none⟩ = some (.int .i64 kt) ∧ w'.cell? ⟨wo.heap.size, 2, none⟩ = some (.slice Rk kl cr)) (first | go_keep | exact ⟨cell_liftR hb5 g0, cell_liftR hb5 g1, cell_liftR hb5 g2, cell_liftR hb5 g3, cell_liftR hb5 t0, cell_liftR hb5 q1, cell_liftR hb5 z0, cell_liftR hb5 z1, cell_liftR hb5 p0, cell_liftR hb5 p1, cell_liftR hb5 p2⟩) ((with_reducible refine HCL.out.mono ?_; rintro e5 w5 ⟨B5, d5, rfl, hb5, hown5⟩))
        have hsl5 := own_ints hown5
        have hb25 := hbD.trans (hb5.mono hbD.size)
        have hO5 := own_belowR hO hb25
        have hsz := hB.size
        have hsB := hbD.size
        have hs5 := hb5.size
        clear HCL g0 g1 g2 g3 t0 q1 z0 z1 p0 p1 p2
        go_wp2_with (first | (at_builtin; refine wpList_append_src _ rfl (.tmp 102) (.tmp 103) 22 rfl WW.heap.size 3 ii (.int .i64 0) 1 8 Try.underlying22 hi hz0 hz1 hz2 rfl (by decide) _ d.length (d.map (Value.int .i64)) rfl hO5 B5 v.length d5 (v.map (Value.int .i64)) rfl (by simp) ?c0 ?c1 ?c2 ?c3 ?c4 ?c5 ?_))
        case c0 => exact fun e => sl_none hsl5 e
        case c1 => exact fun a ha j u hj => sl_ints hsl5 a ha j u hj
        case c2 => intro u hu; obtain ⟨z, _, rfl⟩ := List.mem_map.1 hu; rfl
        case c3 => unfold maxLen; omega
        case c4 => omega
        case c5 => omega
        intro v7 w7 hown7 hg7 hat7
        obtain ⟨A7, c7, rfl⟩ := own_form hown7
        have hB7 : Below WW.heap.size WW w7 := ((hB.trans (hb25.mono hsz)).grown hg7 (by omega) fun j hj => by have := own_base' hO5 j hj; omega)
        have hs7 := hg7.size
        rw [← List.map_append, ← List.length_append] at hown7
        rw [← List.length_append]
        go_wp2
        go_roundg (n - (q + 1))
        case measure => omega
        case rel => exact ⟨q + 1, A7, c7, d ++ v, rest', by omega, rfl, by go_num, rfl, hB7, hown7, by rw [HWE.out, List.append_assoc], HRD.out⟩
      · obtain rfl : q = n := by omega
        rw [List.drop_eq_nil_of_le (by rw [← HUL.out]; exact Nat.le_refl _)] at hRd
        have hr0 := hRd.nilI
        subst hr0
        rw [List.append_nil] at hWe
        subst hWe
        have hfin : wo.ownsRow w.heap.size 3 1 (.slice Av W.length cv) W.length (W.map (Value.int .i64)) := hO.mono_base hs0
        have hwf := hbW.trans (hB.mono hs0)
        clear hO hB
        go_wp2_with fail
        go_ret2
        exact ⟨Av, cv, rfl, hwf, hfin⟩
theorem reads_any (g : Gram) (hv : Valid g) : ∀ m, ReadC g m
  | 0 => reads_step g hv 0 fun _ h => by omega
  | m + 1 => reads_step g hv (m + 1) fun m' h => by
    obtain rfl : m = m' := by omega
    exact reads_any g hv m
end Go.Proofs.Ytdbkbkopcnkgcaa
