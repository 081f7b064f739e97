import Derived.Test.YtdbkbkopcnkgcaaMeanQ
open Go Go.RowKit
namespace Go.Proofs.Ytdbkbkopcnkgcaa

/-! ### the nonterminals numbered in another way: the plain law of MeanNamed -/
def renS (φ : Int → Int) (y : Sym) : Sym := if y.t = true then y else ⟨false, φ y.n⟩
def renR (φ : Int → Int) (r : Rule) : Rule := ⟨φ r.l, r.r.map (renS φ)⟩
def renG (φ : Int → Int) (g : Gram) : Gram := ⟨g.terms, g.nons, φ g.start, g.rules.map (renR φ)⟩
def renP (φ : Int → Int) (p : Part) : Part := ⟨renS φ p.y, p.i, p.j⟩
def renW (φ : Int → Int) (v : Way) : Way := ⟨v.rule, v.kids.map (renP φ)⟩
/-- the numbers are turned into each other -/
structure Turn (φ : Int → Int) (N : Int) : Prop where
  inj : ∀ a b, 0 ≤ a → a < N → 0 ≤ b → b < N → φ a = φ b → a = b
  lo : ∀ a, 0 ≤ a → a < N → 0 ≤ φ a
  hi : ∀ a, 0 ≤ a → a < N → φ a < N
def OkS (N : Int) (y : Sym) : Prop := 0 ≤ y.n ∧ (y.t = false → y.n < N)

theorem renS_t (φ : Int → Int) (y : Sym) : (renS φ y).t = y.t := by
  obtain ⟨t, n⟩ := y
  cases t <;> rfl
theorem renS_inj {φ : Int → Int} {N : Int} (h : Turn φ N) {y z : Sym} (hy : OkS N y) (hz : OkS N z) (e : renS φ y = renS φ z) : y = z := by
  have ht := congrArg Sym.t e
  rw [renS_t, renS_t] at ht
  obtain ⟨t, n⟩ := y
  obtain ⟨u, m⟩ := z
  simp only at ht
  subst ht
  cases t
  · have e2 := congrArg Sym.n e
    simp only [renS] at e2
    rw [h.inj n m hy.1 (hy.2 rfl) hz.1 (hz.2 rfl) e2]
  · exact e
theorem map_inj_on {α β : Type} {f : α → β} {P : α → Prop} (hf : ∀ a b, P a → P b → f a = f b → a = b) : ∀ (l m : List α), (∀ a ∈ l, P a) → (∀ a ∈ m, P a) → l.map f = m.map f → l = m
  | [], [], _, _, _ => rfl
  | [], _ :: _, _, _, e => by simp at e
  | _ :: _, [], _, _, e => by simp at e
  | a :: l, b :: m, h1, h2, e => by
    rw [List.map_cons, List.map_cons] at e
    injection e with e1 e2
    rw [hf a b (h1 a (List.mem_cons_self ..)) (h2 b (List.mem_cons_self ..)) e1, map_inj_on hf l m (fun c hc => h1 c (List.mem_cons_of_mem _ hc)) (fun c hc => h2 c (List.mem_cons_of_mem _ hc)) e2]

theorem okS_of {g : Gram} (hv : Valid g) {r : Rule} (hr : r ∈ g.rules) : ∀ y ∈ r.r, OkS g.nons y := fun y hy => ⟨((hv.ok r hr).syms y hy).n0, ((hv.ok r hr).syms y hy).nn⟩

theorem ren_valid {φ : Int → Int} {g : Gram} (hv : Valid g) (h : Turn φ g.nons) : Valid (renG φ g) := by
  refine ⟨hv.t1, hv.t8, hv.n1, hv.n10, h.lo _ hv.s0 hv.s1, h.hi _ hv.s0 hv.s1, by unfold renG; simpa using hv.len, fun r hr => ?_, ?_⟩
  · unfold renG at hr
    simp only [List.mem_map] at hr
    obtain ⟨r, hr, rfl⟩ := hr
    have ho := hv.ok r hr
    refine ⟨h.lo _ ho.l0 ho.l1, h.hi _ ho.l0 ho.l1, by unfold renR; simpa using ho.len, fun s hs => ?_⟩
    unfold renR at hs
    simp only [List.mem_map] at hs
    obtain ⟨y, hy, rfl⟩ := hs
    have h2 := ho.syms y hy
    obtain ⟨t, n⟩ := y
    cases t
    · exact ⟨h.lo _ h2.n0 (h2.nn rfl), fun e => (Bool.noConfusion (show false = true from e)), fun _ => h.hi _ h2.n0 (h2.nn rfl)⟩
    · exact ⟨h2.n0, h2.nt, fun e => (Bool.noConfusion (show true = false from e))⟩
  · unfold renG
    refine List.pairwise_map.2 (List.Pairwise.imp_of_mem (fun {a b} ha hb hne e => hne ?_) hv.nodup)
    have h1 := hv.ok a ha
    have h2 := hv.ok b hb
    unfold renR at e
    injection e with e1 e2
    obtain ⟨al, ar⟩ := a
    obtain ⟨bl, br⟩ := b
    rw [show al = bl from h.inj _ _ h1.l0 h1.l1 h2.l0 h2.l1 e1, show ar = br from map_inj_on (P := OkS g.nons) (fun a b ha hb => renS_inj h ha hb) _ _ (okS_of hv ha) (okS_of hv hb) e2]

theorem ren_drv {φ : Int → Int} {g : Gram} {x : List Int} {l : List Sym} {i j : Nat} (h : Drv g x l i j) : Drv (renG φ g) x (l.map (renS φ)) i j := by
  induction h with
  | nil i h => exact .nil _ h
  | term h r ih => exact .term h ih
  | @non n l r i k j hr hn h s ih1 ih2 =>
    exact .non (r := renR φ r) (by unfold renG; exact List.mem_map_of_mem hr) (by unfold renR; rw [hn]) ih1 ih2
theorem drv_ren {φ : Int → Int} {g : Gram} (hv : Valid g) (ht : Turn φ g.nons) {x : List Int} {l' : List Sym} {i j : Nat} (h : Drv (renG φ g) x l' i j) : ∀ l, l' = l.map (renS φ) → (∀ y ∈ l, OkS g.nons y) → Drv g x l i j := by
  induction h with
  | nil i h =>
    intro l e _
    rw [List.map_eq_nil_iff.1 e.symm]
    exact .nil _ h
  | @term t l2 i j h r ih =>
    intro l e ho
    cases l with
    | nil => simp at e
    | cons y l =>
      rw [List.map_cons] at e
      injection e with e1 e2
      have hy : y = ⟨true, t⟩ := by
        have := congrArg Sym.t e1
        rw [renS_t] at this
        obtain ⟨u, n⟩ := y
        simp only at this
        subst this
        exact e1.symm
      rw [hy]
      exact .term h (ih l e2 fun z hz => ho z (List.mem_cons_of_mem _ hz))
  | @non n l2 r' i k j hr hn h s ih1 ih2 =>
    intro l e ho
    cases l with
    | nil => simp at e
    | cons y l =>
      rw [List.map_cons] at e
      injection e with e1 e2
      unfold renG at hr
      simp only [List.mem_map] at hr
      obtain ⟨r, hr, rfl⟩ := hr
      obtain ⟨u, m⟩ := y
      have hu := congrArg Sym.t e1
      rw [renS_t] at hu
      simp only at hu
      subst hu
      have hm := ho ⟨false, m⟩ (List.mem_cons_self ..)
      have e3 := congrArg Sym.n e1
      simp only [renS] at e3
      have e4 : φ r.l = φ m := hn.trans e3
      have e5 := ht.inj _ _ (hv.ok r hr).l0 (hv.ok r hr).l1 hm.1 (hm.2 rfl) e4
      exact .non hr e5 (ih1 r.r rfl (okS_of hv hr)) (ih2 l e2 fun z hz => ho z (List.mem_cons_of_mem _ hz))

section
variable {φ : Int → Int} {g : Gram} {x : List Int} {M M' : List (List Nat)}

theorem ren_ent (hv : Valid g) (ht : Turn φ g.nons) (hM : IsM g x M) (hM' : IsM (renG φ g) x M') {n : Int} (h0 : 0 ≤ n) (h1 : n < g.nons) (i j : Nat) : (entry M' (φ n) i).testBit j = true ↔ (entry M n i).testBit j = true := by
  rw [ends_iff hM.2.1 hM.2.2 n h0, ends_iff hM'.2.1 hM'.2.2 (φ n) (ht.lo n h0 h1)]
  exact ⟨fun h => drv_ren hv ht h [⟨false, n⟩] rfl (by intro y hy; rw [List.mem_singleton] at hy; subst hy; exact ⟨h0, fun _ => h1⟩), fun h => ren_drv (φ := φ) h⟩
theorem ren_aft (hv : Valid g) (ht : Turn φ g.nons) (hM : IsM g x M) (hM' : IsM (renG φ g) x M') {y : Sym} (hy : OkS g.nons y) (i j : Nat) : (aft1 x M' (renS φ y) i).testBit j = true ↔ (aft1 x M y i).testBit j = true := by
  obtain ⟨t, n⟩ := y
  cases t
  · show (aft1 x M' ⟨false, φ n⟩ i).testBit j = true ↔ _
    rw [aft1_non, aft1_non]
    exact ren_ent hv ht hM hM' hy.1 (hy.2 rfl) i j
  · show (aft1 x M' ⟨true, n⟩ i).testBit j = true ↔ _
    rw [aft1_term, aft1_term]
theorem ren_fit (hv : Valid g) (ht : Turn φ g.nons) (hM : IsM g x M) (hM' : IsM (renG φ g) x M') : ∀ {l : List Sym} {a j : Nat} {ks : List Part}, (∀ y ∈ l, OkS g.nons y) → Fit x M l a j ks → Fit x M' (l.map (renS φ)) a j (ks.map (renP φ))
  | [], a, j, ks, _, h => by rw [h.1, h.2]; exact ⟨rfl, rfl⟩
  | y :: l, a, j, ks, hy, h => by
    obtain ⟨p, ks', rfl, h1, h2⟩ := h
    exact ⟨p, ks'.map (renP φ), rfl, (ren_aft hv ht hM hM' (hy y (List.mem_cons_self ..)) a p).2 h1, ren_fit hv ht hM hM' (fun z hz => hy z (List.mem_cons_of_mem _ hz)) h2⟩
theorem fit_ren (hv : Valid g) (ht : Turn φ g.nons) (hM : IsM g x M) (hM' : IsM (renG φ g) x M') : ∀ {l : List Sym} {a j : Nat} {ks : List Part}, (∀ y ∈ l, OkS g.nons y) → Fit x M' (l.map (renS φ)) a j ks → ∃ ks0, ks = ks0.map (renP φ) ∧ Fit x M l a j ks0
  | [], a, j, ks, _, h => ⟨[], h.1, rfl, h.2⟩
  | y :: l, a, j, ks, hy, h => by
    obtain ⟨p, ks', rfl, h1, h2⟩ := h
    obtain ⟨k0, rfl, h3⟩ := fit_ren hv ht hM hM' (fun z hz => hy z (List.mem_cons_of_mem _ hz)) h2
    exact ⟨⟨y, a, p⟩ :: k0, rfl, p, k0, rfl, (ren_aft hv ht hM hM' (hy y (List.mem_cons_self ..)) a p).1 h1, h3⟩
theorem fit_okS : ∀ {l : List Sym} {a j : Nat} {ks : List Part}, (∀ y ∈ l, OkS g.nons y) → Fit x M l a j ks → ∀ k ∈ ks, OkS g.nons k.y
  | [], a, j, ks, _, h, k, hk => by rw [h.1] at hk; cases hk
  | y :: l, a, j, ks, hy, h, k, hk => by
    obtain ⟨p, ks', rfl, h1, h2⟩ := h
    rcases List.mem_cons.1 hk with rfl | hk
    · exact hy y (List.mem_cons_self ..)
    · exact fit_okS (fun z hz => hy z (List.mem_cons_of_mem _ hz)) h2 k hk

theorem fit_in (hs : Short x M) : ∀ {l : List Sym} {a j : Nat} {ks : List Part}, a ≤ x.length → Fit x M l a j ks → ∀ k ∈ ks, k.i ≤ x.length ∧ k.j ≤ x.length
  | [], a, j, ks, _, h, k, hk => by rw [h.1] at hk; cases hk
  | y :: l, a, j, ks, ha, h, k, hk => by
    obtain ⟨p, ks', rfl, h1, h2⟩ := h
    have hq := one_short hs h1
    rcases List.mem_cons.1 hk with rfl | hk
    · exact ⟨ha, hq⟩
    · exact fit_in hs hq h2 k hk

theorem ren_short (hM : IsM g x M) : Short x M ∧ MLow M := ⟨sound_short hM.2.1 fun n i h => entry_neg M n i h, sound_low hM.2.1⟩

theorem ren_perm (hv : Valid g) (ht : Turn φ g.nons) (hM : IsM g x M) (hM' : IsM (renG φ g) x M') {p : Part} (hp : OkS g.nons p.y) (hi : p.i ≤ x.length) : ((waysU g x M p).map (renW φ)).Perm (waysU (renG φ g) x M' (renP φ p)) := by
  obtain ⟨hs, hl⟩ := ren_short hM
  obtain ⟨hs', hl'⟩ := ren_short hM'
  have hmem : ∀ {v}, v ∈ waysU g x M p → ∀ k ∈ v.kids, OkS g.nons k.y := fun {v} hw => by
    obtain ⟨_, r, h2, _, h4⟩ := (mem_waysU hs hl hi).1 hw
    exact fit_okS (okS_of hv (List.mem_of_getElem? h2)) h4
  refine (List.perm_ext_iff_of_nodup ?_ waysU_nodup).2 fun v => ⟨fun hv2 => ?_, fun hv2 => ?_⟩
  · refine List.pairwise_map.2 (List.Pairwise.imp_of_mem (fun {a b} ha hb hne e => hne ?_) waysU_nodup)
    have k1 := hmem ha
    have k2 := hmem hb
    obtain ⟨ar, ak⟩ := a
    obtain ⟨br, bk⟩ := b
    unfold renW at e
    injection e with e1 e2
    rw [show ar = br from e1, show ak = bk from map_inj_on (P := fun k : Part => OkS g.nons k.y) (fun a b ha hb e => by
      obtain ⟨ay, ai, aj⟩ := a
      obtain ⟨by_, bi, bj⟩ := b
      unfold renP at e
      injection e with e1 e2 e3
      rw [show ay = by_ from renS_inj ht ha hb e1, show ai = bi from e2, show aj = bj from e3]) _ _ k1 k2 e2]
  · obtain ⟨w, hw, rfl⟩ := List.mem_map.1 hv2
    obtain ⟨h1, r, h2, h3, h4⟩ := (mem_waysU hs hl hi).1 hw
    refine (mem_waysU (p := renP φ p) hs' hl' hi).2 ⟨by show (renS φ p.y).t = false; rw [renS_t]; exact h1, renR φ r, ?_, ?_, ?_⟩
    · unfold renG renW
      simp only [List.getElem?_map, h2]
      rfl
    · show φ r.l = (renS φ p.y).n
      unfold renS
      rw [if_neg (by rw [h1]; decide), h3]
    · exact ren_fit hv ht hM hM' (okS_of hv (List.mem_of_getElem? h2)) h4
  · obtain ⟨h1, r', h2, h3, h4⟩ := (mem_waysU (p := renP φ p) hs' hl' hi).1 hv2
    have h1' : p.y.t = false := by rw [← renS_t φ p.y]; exact h1
    unfold renG at h2
    simp only [List.getElem?_map] at h2
    cases hr : g.rules[v.rule]? with
    | none => rw [hr] at h2; cases h2
    | some r =>
      rw [hr] at h2
      injection h2 with h2
      subst h2
      have hro := hv.ok r (List.mem_of_getElem? hr)
      have e3 : φ r.l = φ p.y.n := by
        have h5 : φ r.l = (renS φ p.y).n := h3
        unfold renS at h5
        rw [if_neg (by rw [h1']; decide)] at h5
        exact h5
      have e4 := ht.inj _ _ hro.l0 hro.l1 hp.1 (hp.2 h1') e3
      obtain ⟨k0, hk0, h6⟩ := fit_ren hv ht hM hM' (okS_of hv (List.mem_of_getElem? hr)) h4
      refine List.mem_map.2 ⟨⟨v.rule, k0⟩, (mem_waysU hs hl hi).2 ⟨h1', r, hr, e4, h6⟩, ?_⟩
      unfold renW
      rw [← hk0]

theorem ren_val (hv : Valid g) (ht : Turn φ g.nons) (hM : IsM g x M) (hM' : IsM (renG φ g) x M') {p : Part} (hp : OkS g.nons p.y) (hi : p.i ≤ x.length) : valW (WU (renG φ g) x M') (renP φ p) = valW (WU g x M) p := by
  obtain ⟨hs, hl⟩ := ren_short hM
  refine valW_sim (P := fun p => OkS g.nons p.y ∧ p.i ≤ x.length) (fun p hp k hk a ha => ?_) (fun p hp => ⟨fun k => k.map (renP φ), ?_, fun k _ => .refl _⟩) ⟨hp, hi⟩
  · unfold WU at hk
    obtain ⟨v, hv2, rfl⟩ := List.mem_map.1 hk
    obtain ⟨_, r, h2, _, h4⟩ := (mem_waysU hs hl hp.2).1 hv2
    have ha2 := (List.mem_filter.1 ha).1
    exact ⟨fit_okS (okS_of hv (List.mem_of_getElem? h2)) h4 a ha2, (fit_in hs hp.2 h4 a ha2).1⟩
  · unfold WU
    rw [List.map_map]
    have e : (waysU g x M p).map ((fun k : List Part => k.map (renP φ)) ∘ fun v => ntP v.kids) = ((waysU g x M p).map (renW φ)).map fun v => ntP v.kids := by
      rw [List.map_map]
      refine List.map_congr_left fun v _ => ?_
      show (ntP v.kids).map (renP φ) = ntP (v.kids.map (renP φ))
      unfold ntP
      rw [List.filter_map]
      congr 1
      refine congrArg (fun f => List.filter f v.kids) (funext fun k => ?_)
      show (!k.y.t) = !(renS φ k.y).t
      rw [renS_t]
    rw [e]
    exact (ren_perm hv ht hM hM' hp.1 hp.2).map _

/-- **numbering the nonterminals in another way changes no count** -/
theorem ren_count (hv : Valid g) (ht : Turn φ g.nons) (hM : IsM g x M) (hM' : IsM (renG φ g) x M') : cntU g x M = cntU (renG φ g) x M' := by
  unfold cntU
  have hr := ren_ent hv ht hM hM' hv.s0 hv.s1 0 x.length
  have e : renP φ (rootF g x) = rootF (renG φ g) x := rfl
  by_cases h0 : (entry M g.start 0).testBit x.length = true
  · rw [if_pos h0, if_pos (show (entry M' (renG φ g).start 0).testBit x.length = true from hr.2 h0), ← e, ren_val hv ht hM hM' (p := rootF g x) ⟨hv.s0, fun _ => hv.s1⟩ (Nat.zero_le _)]
  · rw [if_neg h0, if_neg (show ¬ (entry M' (renG φ g).start 0).testBit x.length = true from fun h1 => h0 (hr.1 h1))]
end
end Go.Proofs.Ytdbkbkopcnkgcaa
