import Derived.Test.YtdbkbkopcnkgcaaListP
open Go Go.RowKit
namespace Go.Proofs.Ytdbkbkopcnkgcaa

/-! ### how many trees there are: every tree of a part is one of those that are counted -/
section
variable {g : Gram} {x : List Int} {M : List (List Nat)}
theorem rule_mem {k : Nat} {r : Rule} (hr : g.rules[k]? = some r) : r ∈ g.rules := List.mem_of_getElem? hr
theorem YT.drv {l : List Sym} {a : Nat} {L : List Nat} {ks : List Tr} {p : List Int} (h : YT g x l a L ks p) : a ≤ x.length → Drv g x l a (L.getLastD a) := by
  induction h with
  | nil a => intro ha; exact .nil _ ha
  | term hx _ ih =>
    intro _
    rw [List.getLastD_cons]
    exact .term hx (ih (by have := (List.getElem?_eq_some_iff.1 hx).1; omega))
  | non k r hr hu _ ih1 ih2 =>
    intro ha
    rw [List.getLastD_cons]
    have h1 := ih1 ha
    exact .non (rule_mem hr) rfl h1 (ih2 (drv_le h1).2)
/-- the ends of a tree are ends that splits tells -/
theorem YT.spl (hv : Valid g) (hM : IsM g x M) {l : List Sym} {a : Nat} {L : List Nat} {ks : List Tr} {p : List Int} (h : YT g x l a L ks p) : a ≤ x.length → L ∈ splL x M (L.getLastD a) l a := by
  have hstep : ∀ {y : Sym} {l : List Sym} {a b : Nat} {L : List Nat} {ks : List Tr} {q : List Int}, a ≤ b → b ≤ x.length → (aft1 x M y a).testBit b = true → YT g x l b L ks q → L ∈ splL x M (L.getLastD b) l b → (b :: L) ∈ splL x M (L.getLastD b) (y :: l) a := by
    intro y l a b L ks q hab hb hbit hy hL
    have hd := hy.drv hb
    have hle := drv_le hd
    unfold splL
    refine List.mem_flatMap.2 ⟨b, by rw [List.mem_range'_1]; omega, ?_⟩
    rw [if_pos ⟨hbit, drv_seq hM.2.2 hd _ (pow_self b)⟩]
    exact List.mem_map.2 ⟨L, hL, rfl⟩
  induction h with
  | nil a => intro _; unfold splL; simp
  | @term n a l L ks p hx hy ih =>
    intro _
    have ha : a + 1 ≤ x.length := by have := (List.getElem?_eq_some_iff.1 hx).1; omega
    rw [List.getLastD_cons]
    exact hstep (by omega) ha ((aft1_term ..).2 ⟨hx, rfl⟩) hy (ih ha)
  | @non k r a l L La us ks p q hr hu hy _ ih2 =>
    intro ha
    have hd := hu.drv ha
    have hle := drv_le hd
    rw [List.getLastD_cons]
    have hn := ((hv.ok r (rule_mem hr)).l0)
    refine hstep hle.1 hle.2 ?_ hy (ih2 hle.2)
    rw [aft1_non]
    refine (ends_iff hM.2.1 hM.2.2 r.l hn _ _).2 (.non (rule_mem hr) rfl hd (.nil _ hle.2))
theorem YT.splC (hv : Valid g) (hM : IsM g x M) {l : List Sym} {a j : Nat} {L : List Nat} {ks : List Tr} {p : List Int} (h : YT g x l a L ks p) (ha : a ≤ x.length) (hj : L.getLastD a = j) : L ∈ splC x M j l a := by
  have hd := h.drv ha
  have hle := drv_le hd
  have hlow : MLow M := sound_low hM.2.1
  subst hj
  unfold Go.Proofs.Ytdbkbkopcnkgcaa.splC
  rw [if_pos ((rchS_bit hlow hle.2 l a).2 ⟨hle.1, drv_seq hM.2.2 hd _ (pow_self a)⟩)]
  exact h.spl hv hM ha

/-- the rows over the trees of the parts -/
def rowsE (E : MPart → List Tr) : List Sym → List Nat → Nat → List (List Tr)
  | y :: l, p :: L, a => if y.t = true then (rowsE E l L p).map (Tr.mk (-1) y.n [] :: ·) else (E ⟨y.n, a, p⟩).flatMap fun t => (rowsE E l L p).map (t :: ·)
  | _, _, _ => [[]]
theorem flat_const {α β : Type} {F : α → List β} {c : Nat} : ∀ (l : List α), (∀ a ∈ l, (F a).length = c) → (l.flatMap F).length = l.length * c
  | [], _ => by simp
  | a :: l, h => by
    rw [List.flatMap_cons, List.length_append, h a (List.mem_cons_self ..), flat_const l fun b hb => h b (List.mem_cons_of_mem _ hb), List.length_cons, Nat.succ_mul, Nat.add_comm]
theorem rowsE_len {E : MPart → List Tr} {f : MPart → Nat} : ∀ (l : List Sym) (L : List Nat) (a : Nat), (∀ z ∈ kidsM l L a, (E z).length = f z) → (rowsE E l L a).length = prodN f (kidsM l L a)
  | y :: l, p :: L, a, h => by
    unfold rowsE
    unfold kidsM at h ⊢
    split
    · rename_i c
      rw [if_pos c] at h
      rw [List.length_map]
      exact rowsE_len l L p h
    · rename_i c
      rw [if_neg c] at h
      rw [flat_const (c := (rowsE E l L p).length) _ (fun t _ => by rw [List.length_map]), h _ (List.mem_cons_self ..), rowsE_len l L p fun z hz => h z (List.mem_cons_of_mem _ hz)]
      rfl
  | [], [], a, _ => by simp [rowsE, kidsM, prodN]
  | [], _ :: _, a, _ => by simp [rowsE, kidsM, prodN]
  | _ :: _, [], a, _ => by simp [rowsE, kidsM, prodN]
/-- all trees of a part are in E -/
def AllT (g : Gram) (x : List Int) (E : MPart → List Tr) (y : MPart) : Prop := ∀ t p, YT g x [⟨false, y.n⟩] y.i [y.j] [t] p → t ∈ E y
theorem rowsE_mem {E : MPart → List Tr} {l : List Sym} {a : Nat} {L : List Nat} {ks : List Tr} {p : List Int} (h : YT g x l a L ks p) : (∀ z ∈ kidsM l L a, AllT g x E z) → ks ∈ rowsE E l L a := by
  induction h with
  | nil => intro _; simp [rowsE]
  | @term n a l L ks p hx hy ih =>
    intro hE
    unfold kidsM at hE
    rw [if_pos rfl] at hE
    unfold rowsE
    rw [if_pos rfl]
    exact List.mem_map.2 ⟨ks, ih hE, rfl⟩
  | @non k r a l L La us ks p q hr hu hy _ ih2 =>
    intro hE
    unfold kidsM at hE
    rw [if_neg (by simp)] at hE
    unfold rowsE
    rw [if_neg (by simp)]
    refine List.mem_flatMap.2 ⟨Tr.mk k 0 us, ?_, List.mem_map.2 ⟨ks, ih2 fun z hz => hE z (List.mem_cons_of_mem _ hz), rfl⟩⟩
    exact hE _ (List.mem_cons_self ..) _ ((k : Int) :: (p ++ [])) (.non k r hr hu (.nil _))
def ruleE (x : List Int) (M : List (List Nat)) (E : MPart → List Tr) (y : MPart) (rk : Rule × Nat) : List Tr := if rk.1.l = y.n then (splC x M y.j rk.1.r y.i).flatMap fun L => (rowsE E rk.1.r L y.i).map (Tr.mk rk.2 0) else []
theorem sumN_app {α : Type} {f : α → Nat} : ∀ (K K' : List (List α)), sumN f (K ++ K') = sumN f K + sumN f K'
  | [], K' => by simp [sumN]
  | k :: K, K' => by
    show prodN f k + sumN f (K ++ K') = prodN f k + sumN f K + sumN f K'
    rw [sumN_app K K', Nat.add_assoc]
theorem ruleE_len {E : MPart → List Tr} {f : MPart → Nat} {y : MPart} {rk : Rule × Nat} (h : rk.1.l = y.n → ∀ L ∈ splC x M y.j rk.1.r y.i, ∀ z ∈ kidsM rk.1.r L y.i, (E z).length = f z) : (ruleE x M E y rk).length = sumN f (if rk.1.l = y.n then (splC x M y.j rk.1.r y.i).map fun L => kidsM rk.1.r L y.i else []) := by
  unfold ruleE
  split
  · rename_i c
    have h := h c
    generalize Go.Proofs.Ytdbkbkopcnkgcaa.splC x M y.j rk.1.r y.i = Ls at h ⊢
    induction Ls with
    | nil => simp [sumN]
    | cons L Ls ih =>
      rw [List.flatMap_cons, List.length_append, List.length_map, ih fun L' h' => h L' (List.mem_cons_of_mem _ h'), rowsE_len _ _ _ (h L (List.mem_cons_self ..))]
      rfl
  · rfl
theorem allE_len {E : MPart → List Tr} {f : MPart → Nat} {y : MPart} : ∀ (l : List Rule) (n : Nat), (∀ r ∈ l, r.l = y.n → ∀ L ∈ splC x M y.j r.r y.i, ∀ z ∈ kidsM r.r L y.i, (E z).length = f z) → ((l.zipIdx n).flatMap (ruleE x M E y)).length = sumN f (l.flatMap fun r => if r.l = y.n then (splC x M y.j r.r y.i).map fun L => kidsM r.r L y.i else [])
  | [], n, _ => rfl
  | r :: l, n, h => by
    rw [List.zipIdx_cons, List.flatMap_cons, List.flatMap_cons, List.length_append, sumN_app, ruleE_len (h r (List.mem_cons_self ..)), allE_len l (n + 1) fun r' h' => h r' (List.mem_cons_of_mem _ h')]
theorem fin_enum (hv : Valid g) (hM : IsM g x M) {y : MPart} {n : Nat} (h : FinT (waysM g x M) y n) : y.i ≤ x.length → y.j ≤ x.length → ∃ E : List Tr, E.length = n ∧ ∀ t p, YT g x [⟨false, y.n⟩] y.i [y.j] [t] p → t ∈ E := by
  induction h with
  | mk y f hf ih =>
    intro hi hj
    have hway : ∀ r ∈ g.rules, r.l = y.n → ∀ L ∈ Go.Proofs.Ytdbkbkopcnkgcaa.splC x M y.j r.r y.i, kidsM r.r L y.i ∈ waysM g x M y := fun r hr hl L hL => by
      unfold waysM
      refine List.mem_flatMap.2 ⟨r, hr, ?_⟩
      rw [if_pos hl]
      exact List.mem_map.2 ⟨L, hL, rfl⟩
    have hbd : ∀ r ∈ g.rules, ∀ L ∈ Go.Proofs.Ytdbkbkopcnkgcaa.splC x M y.j r.r y.i, ∀ z ∈ kidsM r.r L y.i, z.i ≤ x.length ∧ z.j ≤ x.length := fun r hr L hL z hz => by
      have := kidsM_ok (x := x) hv hr r.r (fun _ h => h) L y.i (fun p hp => by have := (splC_le hL).2 p hp; omega) hi z hz
      exact ⟨this.2.2.1, this.2.2.2⟩
    have hex : ∀ z : MPart, ∃ E : List Tr, (∃ k ∈ waysM g x M y, z ∈ k) → z.i ≤ x.length → z.j ≤ x.length → E.length = f z ∧ ∀ t p, YT g x [⟨false, z.n⟩] z.i [z.j] [t] p → t ∈ E := fun z => by
      by_cases c : ∃ k ∈ waysM g x M y, z ∈ k
      · obtain ⟨k, h1, h2⟩ := c
        by_cases c2 : z.i ≤ x.length ∧ z.j ≤ x.length
        · obtain ⟨E, h3⟩ := ih k h1 z h2 c2.1 c2.2
          exact ⟨E, fun _ _ _ => h3⟩
        · exact ⟨[], fun _ h3 h4 => absurd ⟨h3, h4⟩ c2⟩
      · exact ⟨[], fun h => absurd h c⟩
    obtain ⟨E, hE⟩ := Classical.axiomOfChoice hex
    refine ⟨(g.rules.zipIdx 0).flatMap (ruleE x M E y), ?_, ?_⟩
    · unfold waysM
      exact allE_len g.rules 0 fun r hr hl L hL z hz => (hE z ⟨_, hway r hr hl L hL, hz⟩ (hbd r hr L hL z hz).1 (hbd r hr L hL z hz).2).1
    · intro t p ht
      generalize hs : [(⟨false, y.n⟩ : Sym)] = sl at ht
      generalize hLe : [y.j] = Le at ht
      generalize hte : [t] = te at ht
      cases ht with
      | nil => cases hs
      | term _ _ => simp at hs
      | @non k r a l L La us ks p q hr hu h2 =>
        injection hs with hs1 hs2
        injection hs1 with _ hs1
        injection hLe with hL1 hL2
        injection hte with ht1 ht2
        subst ht1
        refine List.mem_flatMap.2 ⟨(r, k), List.mk_mem_zipIdx_iff_getElem?.2 hr, ?_⟩
        unfold ruleE
        rw [if_pos hs1.symm]
        have hsp := hu.splC hv hM hi hL1.symm
        refine List.mem_flatMap.2 ⟨La, hsp, List.mem_map.2 ⟨us, rowsE_mem hu fun z hz t' p' h' => ?_, rfl⟩⟩
        have hb := hbd r (rule_mem hr) La hsp z hz
        exact (hE z ⟨_, hway r (rule_mem hr) hs1.symm La hsp, hz⟩ hb.1 hb.2).2 t' p' h'
open Classical in
/-- no more trees than are counted -/
theorem few_trees (hv : Valid g) (hM : IsM g x M) {y : MPart} {n : Nat} (h : FinT (waysM g x M) y n) (hi : y.i ≤ x.length) (hj : y.j ≤ x.length) {l : List Rk} (hl : ∀ z ∈ l, RkY g x [] [⟨false, y.n⟩] y.i [y.j] z) (hnd : ND l) : l.length ≤ n := by
  obtain ⟨E, h1, h2⟩ := fin_enum hv hM h hi hj
  have h3 : ∀ z ∈ l, ∃ t ∈ E, z.row = [t] := fun z hz => by
    obtain ⟨p, _, hy⟩ := hl z hz
    have hlen := hy.fit.len.2
    match hr : z.row, hlen with
    | [t], _ => exact ⟨t, h2 t p (hr ▸ hy), rfl⟩
    | [], h => simp at h
    | _ :: _ :: _, h => simp at h
  have h4 : (l.map (·.row)).Nodup := by
    unfold List.Nodup
    rw [List.pairwise_map]
    refine hnd.imp_of_mem fun {a b} ha hb hab e => hab ?_
    obtain ⟨p, e1, y1⟩ := hl a ha
    obtain ⟨q, e2, y2⟩ := hl b hb
    rw [e1, e2]
    rw [← e] at y2
    have : ∀ {l : List Sym} {ks : List Tr} {p : List Int}, FitL g l ks p → ∀ {q : List Int}, FitL g l ks q → p = q := by
      intro l ks p h
      induction h with
      | nil => intro q h2; cases h2; rfl
      | term n h ih => intro q h2; cases h2 with | term _ h2 => rw [ih h2]
      | @non k r l us ks p q hr hu h ih1 ih2 =>
        intro q2 h2
        generalize hs : (⟨false, r.l⟩ : Sym) :: l = sl at h2
        generalize ht : Tr.mk k 0 us :: ks = tl at h2
        cases h2 with
        | nil => cases hs
        | term _ h2 => simp at hs
        | @non k2 r2 l2 us2 ks2 p2 q2 hr2 hu2 h2 =>
          injection ht with ht1 ht2
          injection ht1 with ht3 _ ht4
          have e : k = k2 := by omega
          subst e ht2 ht4
          rw [hr] at hr2
          injection hr2 with hr2
          subst hr2
          injection hs with _ hs2
          subst hs2
          rw [ih1 hu2, ih2 h2]
    rw [this y1.fit y2.fit]
  have h5 := nodup_sub_len (l.map (·.row)) (E.map fun t => [t]) h4 fun a ha => by
    obtain ⟨z, hz, rfl⟩ := List.mem_map.1 ha
    obtain ⟨t, ht, e⟩ := h3 z hz
    exact List.mem_map.2 ⟨t, ht, e.symm⟩
  rw [List.length_map, List.length_map, h1] at h5
  exact h5
end
end Go.Proofs.Ytdbkbkopcnkgcaa
