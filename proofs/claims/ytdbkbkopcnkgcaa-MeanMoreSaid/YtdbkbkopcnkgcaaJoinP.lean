import Derived.Test.YtdbkbkopcnkgcaaMeanR
open Go Go.RowKit
namespace Go.Proofs.Ytdbkbkopcnkgcaa

/-! ### counts in a part of a word, in a grammar with further rules -/
theorem subw_get {x : List Int} {i m k : Nat} (hk : k < m) : ((x.drop i).take m)[k]? = x[i + k]? := by
  rw [List.getElem?_take, if_pos hk, List.getElem?_drop]
theorem subw_len {x : List Int} {i m : Nat} (him : i + m ≤ x.length) : ((x.drop i).take m).length = m := by rw [List.length_take, List.length_drop]; omega
theorem subw_up {g : Gram} {x : List Int} {i m : Nat} (him : i + m ≤ x.length) {l : List Sym} {a b : Nat} (h : Drv g ((x.drop i).take m) l a b) : Drv g x l (a + i) (b + i) := by
  have hl := subw_len him
  induction h with
  | nil a h => exact .nil _ (by omega)
  | @term t l a b h _ ih =>
    have := (List.getElem?_eq_some_iff.1 h).1
    exact .term (by rw [Nat.add_comm, ← subw_get (m := m) (by omega)]; exact h) (by rwa [Nat.add_right_comm])
  | non hr hn _ _ ih1 ih2 => exact .non hr hn ih1 ih2
theorem subw_down {g : Gram} {x : List Int} {i m : Nat} (him : i + m ≤ x.length) {l : List Sym} {p q : Nat} (h : Drv g x l p q) : i ≤ p → q ≤ i + m → Drv g ((x.drop i).take m) l (p - i) (q - i) := by
  have hl := subw_len him
  induction h with
  | nil p h => exact fun h1 h2 => .nil _ (by omega)
  | @term t l p q h hr ih =>
    intro h1 h2
    have hle := drv_le hr
    refine .term ?_ ?_
    · rw [subw_get (by omega), show i + (p - i) = p by omega]; exact h
    · have := ih (by omega) h2
      rwa [show p + 1 - i = p - i + 1 by omega] at this
  | @non n l r p k q hr hn h1 h2 ih1 ih2 =>
    intro k1 k2
    have e1 := drv_le h1
    have e2 := drv_le h2
    exact .non hr hn (ih1 k1 (by omega)) (ih2 (by omega) k2)

/-- g2 has the rules of g, and behind them others whose left sides g does not have -/
structure Ext (g g2 : Gram) (l : List Rule) : Prop where
  rules : g2.rules = g.rules ++ l
  left : ∀ r ∈ l, g.nons ≤ r.l
section
variable {g g2 : Gram} {nl : List Rule}
theorem ext_up (he : Ext g g2 nl) {x : List Int} {l : List Sym} {i j : Nat} (h : Drv g x l i j) : Drv g2 x l i j := by
  induction h with
  | nil i h => exact .nil _ h
  | term h _ ih => exact .term h ih
  | non hr hn _ _ ih1 ih2 => exact .non (by rw [he.rules]; exact List.mem_append_left _ hr) hn ih1 ih2
theorem ext_down (he : Ext g g2 nl) (hv : Valid g) {x : List Int} {l : List Sym} {i j : Nat} (h : Drv g2 x l i j) : (∀ y ∈ l, OkS g.nons y) → Drv g x l i j := by
  induction h with
  | nil i h => exact fun _ => .nil _ h
  | term h _ ih => exact fun ho => .term h (ih fun y hy => ho y (List.mem_cons_of_mem _ hy))
  | @non n l r i k j hr hn _ _ ih1 ih2 =>
    intro ho
    have h1 := (ho ⟨false, n⟩ (List.mem_cons_self ..)).2 rfl
    rw [he.rules] at hr
    rcases List.mem_append.1 hr with hr | hr
    · exact .non hr hn (ih1 (okS_of hv hr)) (ih2 fun y hy => ho y (List.mem_cons_of_mem _ hy))
    · have := he.left r hr
      simp only at h1
      omega

variable {x : List Int} {M M2 : List (List Nat)} {k m : Nat}
def shP (k : Nat) (p : Part) : Part := ⟨p.y, p.i + k, p.j + k⟩
def shW (k : Nat) (v : Way) : Way := ⟨v.rule, v.kids.map (shP k)⟩
theorem shP_inj {p q : Part} (h : shP k p = shP k q) : p = q := by
  obtain ⟨a, b, c⟩ := p
  obtain ⟨d, e, f⟩ := q
  unfold shP at h
  injection h with h1 h2 h3
  simp only at h1 h2 h3
  rw [h1, show b = e by omega, show c = f by omega]

theorem sh_ent (he : Ext g g2 nl) (hv : Valid g) (him : k + m ≤ x.length) (hM : IsM g ((x.drop k).take m) M) (hM2 : IsM g2 x M2) {n : Int} (h0 : 0 ≤ n) (h1 : n < g.nons) {i j : Nat} (hj : j ≤ m) : (entry M2 n (i + k)).testBit (j + k) = true ↔ (entry M n i).testBit j = true := by
  rw [ends_iff hM.2.1 hM.2.2 n h0, ends_iff hM2.2.1 hM2.2.2 n h0]
  have ho : ∀ y ∈ [(⟨false, n⟩ : Sym)], OkS g.nons y := by intro y hy; rw [List.mem_singleton] at hy; subst hy; exact ⟨h0, fun _ => h1⟩
  refine ⟨fun h => ?_, fun h => ext_up he (subw_up him h)⟩
  have := subw_down him (ext_down he hv h ho) (by omega) (by omega)
  rwa [Nat.add_sub_cancel, Nat.add_sub_cancel] at this
theorem sh_aft (he : Ext g g2 nl) (hv : Valid g) (him : k + m ≤ x.length) (hM : IsM g ((x.drop k).take m) M) (hM2 : IsM g2 x M2) {y : Sym} (hy : OkS g.nons y) {i j : Nat} (hj : j ≤ m) : (aft1 x M2 y (i + k)).testBit (j + k) = true ↔ (aft1 ((x.drop k).take m) M y i).testBit j = true := by
  obtain ⟨t, n⟩ := y
  cases t
  · rw [aft1_non, aft1_non]
    exact sh_ent he hv him hM hM2 hy.1 (hy.2 rfl) hj
  · rw [aft1_term, aft1_term]
    constructor
    · rintro ⟨h1, h2⟩
      exact ⟨by rw [subw_get (by omega), Nat.add_comm]; exact h1, by omega⟩
    · rintro ⟨h1, h2⟩
      have := (List.getElem?_eq_some_iff.1 h1).1
      rw [subw_len him] at this
      rw [subw_get this, Nat.add_comm] at h1
      exact ⟨h1, by omega⟩
theorem sh_fit (he : Ext g g2 nl) (hv : Valid g) (him : k + m ≤ x.length) (hM : IsM g ((x.drop k).take m) M) (hM2 : IsM g2 x M2) : ∀ {l : List Sym} {a j : Nat} {ks : List Part}, (∀ y ∈ l, OkS g.nons y) → Fit ((x.drop k).take m) M l a j ks → Fit x M2 l (a + k) (j + k) (ks.map (shP k))
  | [], a, j, ks, _, h => by rw [h.1, h.2]; exact ⟨rfl, rfl⟩
  | y :: l, a, j, ks, hy, h => by
    obtain ⟨p, ks', rfl, h1, h2⟩ := h
    have hp := one_short (ren_short hM).1 h1
    rw [subw_len him] at hp
    exact ⟨p + k, ks'.map (shP k), rfl, (sh_aft he hv him hM hM2 (hy y (List.mem_cons_self ..)) hp).2 h1, sh_fit he hv him hM hM2 (fun z hz => hy z (List.mem_cons_of_mem _ hz)) h2⟩
theorem fit_low (hl : MLow M) : ∀ {l : List Sym} {a j : Nat} {ks : List Part}, Fit x M l a j ks → a ≤ j
  | [], a, j, ks, h => by rw [h.2]; exact Nat.le_refl _
  | y :: l, a, j, ks, h => by
    obtain ⟨p, ks', _, h1, h2⟩ := h
    exact Nat.le_trans (aft1_low hl h1) (fit_low hl h2)
theorem fit_sh (he : Ext g g2 nl) (hv : Valid g) (him : k + m ≤ x.length) (hM : IsM g ((x.drop k).take m) M) (hM2 : IsM g2 x M2) : ∀ {l : List Sym} {a j : Nat} {ks : List Part}, (∀ y ∈ l, OkS g.nons y) → j ≤ m → Fit x M2 l (a + k) (j + k) ks → ∃ ks0, ks = ks0.map (shP k) ∧ Fit ((x.drop k).take m) M l a j ks0
  | [], a, j, ks, _, _, h => ⟨[], h.1, rfl, by have := h.2; omega⟩
  | y :: l, a, j, ks, hy, hj, h => by
    obtain ⟨p, ks', rfl, h1, h2⟩ := h
    have hp1 := aft1_low (ren_short hM2).2 h1
    have hp2 := fit_low (ren_short hM2).2 h2
    obtain ⟨p', rfl⟩ : ∃ p', p = p' + k := ⟨p - k, by omega⟩
    obtain ⟨k0, rfl, h3⟩ := fit_sh he hv him hM hM2 (fun z hz => hy z (List.mem_cons_of_mem _ hz)) hj h2
    exact ⟨⟨y, a, p'⟩ :: k0, rfl, p', k0, rfl, (sh_aft he hv him hM hM2 (hy y (List.mem_cons_self ..)) (by omega)).1 h1, h3⟩

theorem sh_perm (he : Ext g g2 nl) (hv : Valid g) (him : k + m ≤ x.length) (hM : IsM g ((x.drop k).take m) M) (hM2 : IsM g2 x M2) {p : Part} (hp : OkS g.nons p.y) (hi : p.i ≤ m) (hj : p.j ≤ m) : ((waysU g ((x.drop k).take m) M p).map (shW k)).Perm (waysU g2 x M2 (shP k p)) := by
  obtain ⟨hs, hl⟩ := ren_short hM
  obtain ⟨hs', hl'⟩ := ren_short hM2
  have hi1 : p.i ≤ ((x.drop k).take m).length := by rw [subw_len him]; exact hi
  have hi2 : (shP k p).i ≤ x.length := by show p.i + k ≤ _; omega
  refine (List.perm_ext_iff_of_nodup ?_ waysU_nodup).2 fun v => ⟨fun hv2 => ?_, fun hv2 => ?_⟩
  · refine List.pairwise_map.2 (List.Pairwise.imp_of_mem (fun {a b} ha hb hne e => hne ?_) waysU_nodup)
    obtain ⟨ar, ak⟩ := a
    obtain ⟨br, bk⟩ := b
    unfold shW at e
    injection e with e1 e2
    rw [show ar = br from e1, show ak = bk from map_inj_on (P := fun _ : Part => True) (fun a b _ _ e => shP_inj e) _ _ (fun _ _ => trivial) (fun _ _ => trivial) e2]
  · obtain ⟨w, hw, rfl⟩ := List.mem_map.1 hv2
    obtain ⟨h1, r, h2, h3, h4⟩ := (mem_waysU hs hl hi1).1 hw
    refine (mem_waysU (p := shP k p) hs' hl' hi2).2 ⟨h1, r, ?_, h3, sh_fit he hv him hM hM2 (okS_of hv (List.mem_of_getElem? h2)) h4⟩
    rw [he.rules]
    show (g.rules ++ nl)[w.rule]? = _
    rw [List.getElem?_append_left (List.getElem?_eq_some_iff.1 h2).1]
    exact h2
  · obtain ⟨h1, r, h2, h3, h4⟩ := (mem_waysU (p := shP k p) hs' hl' hi2).1 hv2
    have hr : g.rules[v.rule]? = some r := by
      rw [he.rules] at h2
      by_cases c : v.rule < g.rules.length
      · rwa [List.getElem?_append_left c] at h2
      · rw [List.getElem?_append_right (by omega)] at h2
        have := he.left r (List.mem_of_getElem? h2)
        have h5 := hp.2 h1
        have h6 : r.l = p.y.n := h3
        omega
    obtain ⟨k0, hk0, h6⟩ := fit_sh he hv him hM hM2 (okS_of hv (List.mem_of_getElem? hr)) hj h4
    refine List.mem_map.2 ⟨⟨v.rule, k0⟩, (mem_waysU hs hl hi1).2 ⟨h1, r, hr, h3, h6⟩, ?_⟩
    unfold shW
    rw [← hk0]

theorem sh_val (he : Ext g g2 nl) (hv : Valid g) (him : k + m ≤ x.length) (hM : IsM g ((x.drop k).take m) M) (hM2 : IsM g2 x M2) {p : Part} (hp : OkS g.nons p.y) (hi : p.i ≤ m) (hj : p.j ≤ m) : valW (WU g2 x M2) (shP k p) = valW (WU g ((x.drop k).take m) M) p := by
  obtain ⟨hs, hl⟩ := ren_short hM
  have hsl := subw_len him
  refine valW_sim (P := fun p => OkS g.nons p.y ∧ p.i ≤ m ∧ p.j ≤ m) (fun p hp k hk a ha => ?_) (fun p hp => ⟨fun ks => ks.map (shP k), ?_, fun k _ => .refl _⟩) ⟨hp, hi, hj⟩
  · unfold WU at hk
    obtain ⟨v, hv2, rfl⟩ := List.mem_map.1 hk
    obtain ⟨_, r, h2, _, h4⟩ := (mem_waysU hs hl (by rw [hsl]; exact hp.2.1)).1 hv2
    have ha2 := (List.mem_filter.1 ha).1
    have h5 := fit_in hs (by rw [hsl]; exact hp.2.1) h4 a ha2
    rw [hsl] at h5
    exact ⟨fit_okS (okS_of hv (List.mem_of_getElem? h2)) h4 a ha2, h5.1, h5.2⟩
  · unfold WU
    rw [List.map_map]
    have e : (waysU g ((x.drop k).take m) M p).map ((fun ks : List Part => ks.map (shP k)) ∘ fun v => ntP v.kids) = ((waysU g ((x.drop k).take m) M p).map (shW k)).map fun v => ntP v.kids := by
      rw [List.map_map]
      refine List.map_congr_left fun v _ => ?_
      show (ntP v.kids).map (shP k) = ntP (v.kids.map (shP k))
      unfold ntP
      rw [List.filter_map]
      rfl
    rw [e]
    exact (sh_perm he hv him hM hM2 hp.1 hp.2.1 hp.2.2).map _
/-- the count of a part of the word -/
theorem sh_count (he : Ext g g2 nl) (hv : Valid g) (him : k + m ≤ x.length) (hM : IsM g ((x.drop k).take m) M) (hM2 : IsM g2 x M2) : cntU g ((x.drop k).take m) M = if (entry M2 g.start k).testBit (m + k) = true then valW (WU g2 x M2) ⟨⟨false, g.start⟩, k, m + k⟩ else 0 := by
  unfold cntU
  have h1 := sh_ent he hv him hM hM2 hv.s0 hv.s1 (i := 0) (j := m) (Nat.le_refl _)
  rw [Nat.zero_add] at h1
  rw [subw_len him]
  by_cases hb : (entry M2 g.start k).testBit (m + k) = true
  · rw [if_pos hb, if_pos (h1.1 hb)]
    have h2 := sh_val he hv him hM hM2 (p := ⟨⟨false, g.start⟩, 0, m⟩) ⟨hv.s0, fun _ => hv.s1⟩ (Nat.zero_le _) (Nat.le_refl _)
    unfold rootF
    rw [subw_len him, ← h2]
    unfold shP
    simp only [Nat.zero_add]
  · rw [if_neg hb, if_neg fun h => hb (h1.2 h)]
end

/-! ### what is derived has trees -/
section
variable {g : Gram} {x : List Int} {M : List (List Nat)}
theorem fit_of_drv (hM : IsM g x M) {l : List Sym} {i j : Nat} (h : Drv g x l i j) : (∀ y ∈ l, OkS g.nons y) → ∃ ks, Fit x M l i j ks := by
  induction h with
  | nil i h => exact fun _ => ⟨[], rfl, rfl⟩
  | @term t l i j h _ ih =>
    intro ho
    obtain ⟨ks, hk⟩ := ih fun y hy => ho y (List.mem_cons_of_mem _ hy)
    exact ⟨⟨⟨true, t⟩, i, i + 1⟩ :: ks, i + 1, ks, rfl, (aft1_term ..).2 ⟨h, rfl⟩, hk⟩
  | @non n l r i k j hr hn h1 _ _ ih2 =>
    intro ho
    obtain ⟨ks, hk⟩ := ih2 fun y hy => ho y (List.mem_cons_of_mem _ hy)
    have h0 := ho ⟨false, n⟩ (List.mem_cons_self ..)
    refine ⟨⟨⟨false, n⟩, i, k⟩ :: ks, k, ks, rfl, ?_, hk⟩
    rw [aft1_non, ends_iff hM.2.1 hM.2.2 n h0.1]
    exact .non hr hn h1 (.nil _ (drv_le h1).2)
theorem way_of_ent (hv : Valid g) (hM : IsM g x M) {p : Part} (hp : OkS g.nons p.y) (ht : p.y.t = false) (h : (entry M p.y.n p.i).testBit p.j = true) : ∃ v, v ∈ waysU g x M p := by
  have hd := (ends_iff hM.2.1 hM.2.2 p.y.n hp.1 p.i p.j).1 h
  obtain ⟨hs, hl⟩ := ren_short hM
  cases hd with
  | @non n l r i k j hr hn h1 h2 =>
    have he : k = p.j := by cases h2; rfl
    rw [he] at h1
    obtain ⟨ks, hk⟩ := fit_of_drv hM h1 (okS_of hv hr)
    obtain ⟨q, hq⟩ := List.getElem?_of_mem hr
    exact ⟨⟨q, ks⟩, (mem_waysU hs hl (Nat.le_trans (drv_le h1).1 (drv_le h1).2)).2 ⟨ht, r, hq, hn, hk⟩⟩
theorem fit_ent : ∀ {l : List Sym} {a j : Nat} {ks : List Part}, Fit x M l a j ks → ∀ k ∈ ks, (aft1 x M k.y k.i).testBit k.j = true
  | [], a, j, ks, h, k, hk => by rw [h.1] at hk; cases hk
  | y :: l, a, j, ks, h, k, hk => by
    obtain ⟨p, ks', rfl, h1, h2⟩ := h
    rcases List.mem_cons.1 hk with rfl | hk
    · exact h1
    · exact fit_ent h2 k hk
theorem prodN_pos {α : Type} {f : α → Nat} : ∀ (k : List α), (∀ a ∈ k, 1 ≤ f a) → 1 ≤ prodN f k
  | [], _ => Nat.le_refl _
  | a :: k, h => by
    have h1 := h a (List.mem_cons_self ..)
    have h2 := prodN_pos k fun b hb => h b (List.mem_cons_of_mem _ hb)
    show 1 ≤ f a * prodN f k
    exact Nat.mul_pos h1 h2
theorem sumN_mem {α : Type} {f : α → Nat} : ∀ (K : List (List α)) (k : List α), k ∈ K → prodN f k ≤ sumN f K
  | c :: K, k, h => by
    show prodN f k ≤ prodN f c + sumN f K
    rcases List.mem_cons.1 h with rfl | h
    · omega
    · have := sumN_mem (f := f) K k h; omega
theorem fin_pos (hv : Valid g) (hM : IsM g x M) {p : Part} {n : Nat} (h : FinT (WU g x M) p n) : OkS g.nons p.y → p.y.t = false → (entry M p.y.n p.i).testBit p.j = true → 1 ≤ n := by
  induction h with
  | mk p f hf ih =>
    intro hp ht hb
    obtain ⟨v, hv2⟩ := way_of_ent hv hM hp ht hb
    obtain ⟨hs, hl⟩ := ren_short hM
    have hi : p.i ≤ x.length := Nat.le_trans (hl p.y.n p.i p.j hb) (hs p.y.n p.i p.j hb)
    obtain ⟨_, r, h2, _, h4⟩ := (mem_waysU hs hl hi).1 hv2
    have hk : ntP v.kids ∈ WU g x M p := List.mem_map.2 ⟨v, hv2, rfl⟩
    refine Nat.le_trans (prodN_pos (ntP v.kids) fun a ha => ?_) (sumN_mem _ _ hk)
    obtain ⟨ha1, ha2⟩ := List.mem_filter.1 ha
    have hat : a.y.t = false := by simpa using ha2
    refine ih _ hk a ha (fit_okS (okS_of hv (List.mem_of_getElem? h2)) h4 a ha1) hat ?_
    have := fit_ent h4 a ha1
    obtain ⟨⟨at_, an⟩, ai, aj⟩ := a
    simp only at hat
    subst hat
    rwa [aft1_non] at this
theorem val_ne (hv : Valid g) (hM : IsM g x M) {p : Part} (hp : OkS g.nons p.y) (ht : p.y.t = false) (hb : (entry M p.y.n p.i).testBit p.j = true) : valW (WU g x M) p ≠ 0 := by
  by_cases hf : ∃ n, FinT (WU g x M) p n
  · obtain ⟨n, hn⟩ := hf
    have := fin_pos hv hM hn hp ht hb
    rw [valW_fin hn]
    unfold maxCount
    omega
  · rw [valW_inf hf]; decide
end
end Go.Proofs.Ytdbkbkopcnkgcaa
