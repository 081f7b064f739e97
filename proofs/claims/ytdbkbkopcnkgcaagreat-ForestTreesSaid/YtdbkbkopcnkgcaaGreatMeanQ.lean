import Derived.Test.YtdbkbkopcnkgcaaGreatMeanK
import Derived.Test.YtdbkbkopcnkgcaaGreatShape
open Go Go.RowKit
namespace Go.Proofs.YtdbkbkopcnkgcaaGreat

/-! ### what mean.Count counts: the finite trees of a part, or Many -/
/-- the nonterminals of a rule with their parts -/
def kidsM : List Sym → List Nat → Nat → List MPart
  | y :: l, p :: L, a => if y.t = true then kidsM l L p else ⟨y.n, a, p⟩ :: kidsM l L p
  | _, _, _ => []
/-- the ways of a part: for each rule and its ends, the parts below -/
def waysM (g : Gram) (x : List Int) (M : List (List Nat)) (y : MPart) : List (List MPart) := g.rules.flatMap fun r => if r.l = y.n then (splC x M y.j r.r y.i).map fun L => kidsM r.r L y.i else []

section
variable {α : Type}
def prodN (f : α → Nat) (k : List α) : Nat := k.foldr (fun a n => f a * n) 1
def sumN (f : α → Nat) (K : List (List α)) : Nat := K.foldr (fun k n => prodN f k + n) 0
/-- a part with finitely many trees -/
inductive FinT (W : α → List (List α)) : α → Nat → Prop
  | mk (y : α) (f : α → Nat) (h : ∀ k ∈ W y, ∀ a ∈ k, FinT W a (f a)) : FinT W y (sumN f (W y))
/-- a is below b -/
inductive LtW (W : α → List (List α)) : α → α → Prop
  | base {a b : α} {k : List α} (hk : k ∈ W b) (ha : a ∈ k) : LtW W a b
  | step {a b c : α} {k : List α} (h : LtW W a b) (hk : k ∈ W c) (hb : b ∈ k) : LtW W a c
variable {W : α → List (List α)}
theorem LtW.trans {a b c : α} (h : LtW W a b) (k : LtW W b c) : LtW W a c := by
  induction k with
  | base hk ha => exact .step h hk ha
  | step _ hk hb ih => exact .step ih hk hb

theorem prodN_congr {f f' : α → Nat} : ∀ (k : List α), (∀ a ∈ k, f a = f' a) → prodN f k = prodN f' k
  | [], _ => rfl
  | a :: k, h => by
    show f a * prodN f k = f' a * prodN f' k
    rw [h a (List.mem_cons_self ..), prodN_congr k fun b hb => h b (List.mem_cons_of_mem _ hb)]
theorem sumN_congr {f f' : α → Nat} : ∀ (K : List (List α)), (∀ k ∈ K, ∀ a ∈ k, f a = f' a) → sumN f K = sumN f' K
  | [], _ => rfl
  | k :: K, h => by
    show prodN f k + sumN f K = prodN f' k + sumN f' K
    rw [prodN_congr k (h k (List.mem_cons_self ..)), sumN_congr K fun b hb => h b (List.mem_cons_of_mem _ hb)]

theorem FinT.inv {y : α} {n : Nat} (h : FinT W y n) : ∃ f : α → Nat, (∀ k ∈ W y, ∀ a ∈ k, FinT W a (f a)) ∧ n = sumN f (W y) := by
  cases h with
  | mk _ f h => exact ⟨f, h, rfl⟩
theorem FinT.kid {y : α} {n : Nat} (h : FinT W y n) {k : List α} (hk : k ∈ W y) {a : α} (ha : a ∈ k) : ∃ m, FinT W a m := by
  obtain ⟨f, h, _⟩ := h.inv
  exact ⟨_, h k hk a ha⟩
theorem FinT.uniq {y : α} {n : Nat} (h : FinT W y n) : ∀ m, FinT W y m → n = m := by
  induction h with
  | mk y f h ih =>
    intro m hm
    obtain ⟨f', h', rfl⟩ := hm.inv
    exact sumN_congr _ fun k hk a ha => ih k hk a ha _ (h' k hk a ha)
theorem FinT.irrefl {y : α} {n : Nat} (h : FinT W y n) : ¬ LtW W y y := by
  induction h with
  | mk y f h ih =>
    intro hl
    cases hl with
    | base hk ha => exact ih _ hk _ ha (.base hk ha)
    | step h2 hk hb => exact ih _ hk _ hb ((LtW.base hk hb).trans h2)

open Classical in
/-- the number of trees, -1 if there are infinitely many -/
noncomputable def valW (W : α → List (List α)) (y : α) : Int := if h : ∃ n, FinT W y n then min ((Classical.choose h : Nat) : Int) maxCount else -1
theorem valW_fin {y : α} {n : Nat} (h : FinT W y n) : valW W y = min (n : Int) maxCount := by
  unfold valW
  have hh : ∃ n, FinT W y n := ⟨n, h⟩
  rw [dif_pos hh, (Classical.choose_spec hh).uniq n h]
theorem valW_inf {y : α} (h : ¬ ∃ n, FinT W y n) : valW W y = -1 := by
  unfold valW
  rw [dif_neg h]

theorem mul_cap (a b : Nat) : mulC (min (a : Int) maxCount) (min (b : Int) maxCount) = min ((a * b : Nat) : Int) maxCount := by
  unfold mulC maxCount
  have h1 : ∀ n : Nat, min (n : Int) 1000000000 = ((min n 1000000000 : Nat) : Int) := fun n => by
    rcases Nat.le_total n 1000000000 with h | h
    · rw [Nat.min_eq_left h, Int.min_eq_left (by omega)]
    · rw [Nat.min_eq_right h, Int.min_eq_right (by omega)]; rfl
  have h2 : ∀ n : Nat, ¬ ((n : Int) = -1) := fun n => by omega
  rw [h1, h1, h1, if_neg (by rintro (h | h); exact h2 _ h; exact h2 _ h)]
  rw [← Int.natCast_mul, h1]
  congr 1
  rcases Nat.le_total a 1000000000 with ha | ha
  · rcases Nat.le_total b 1000000000 with hb | hb
    · rw [Nat.min_eq_left ha, Nat.min_eq_left hb]
    · rw [Nat.min_eq_left ha, Nat.min_eq_right hb]
      rcases Nat.eq_zero_or_pos a with h | h
      · subst h; rw [Nat.zero_mul, Nat.zero_mul]
      · have h3 : 1000000000 ≤ a * 1000000000 := Nat.le_mul_of_pos_left _ h
        have h4 : a * 1000000000 ≤ a * b := Nat.mul_le_mul_left a hb
        rw [Nat.min_eq_right h3, Nat.min_eq_right (Nat.le_trans h3 h4)]
  · rw [Nat.min_eq_right ha]
    rcases Nat.eq_zero_or_pos b with h | h
    · subst h; simp
    · have h3 : 1000000000 ≤ 1000000000 * min b 1000000000 := Nat.le_mul_of_pos_right _ (by omega)
      have h4 : a * 1 ≤ a * b := Nat.mul_le_mul_left a h
      rw [Nat.min_eq_right h3, Nat.min_eq_right (by omega)]
theorem add_cap (a b : Nat) : addC (min (a : Int) maxCount) (min (b : Int) maxCount) = min ((a + b : Nat) : Int) maxCount := by
  unfold addC maxCount
  rw [if_neg (by omega)]
  omega

/-- the product over the values -/
def prodV (v : α → Int) (k : List α) (s : Int) : Int := k.foldl (fun s a => mulC s (v a)) s
def sumV (v : α → Int) (K : List (List α)) (s : Int) : Int := K.foldl (fun s k => addC s (prodV v k 1)) s
theorem prodV_many (v : α → Int) : ∀ k : List α, prodV v k (-1) = -1
  | [] => rfl
  | a :: k => by
    show prodV v k (mulC (-1) (v a)) = -1
    rw [show mulC (-1) (v a) = -1 by unfold mulC; simp, prodV_many v k]
theorem prodV_inf {v : α → Int} : ∀ (k : List α) (s : Int), (∃ a ∈ k, v a = -1) → prodV v k s = -1
  | [], _, ⟨_, h, _⟩ => by cases h
  | a :: k, s, ⟨b, hb, e⟩ => by
    show prodV v k (mulC s (v a)) = -1
    rcases List.mem_cons.1 hb with rfl | hb
    · rw [e, show mulC s (-1) = -1 by unfold mulC; simp, prodV_many]
    · exact prodV_inf k _ ⟨b, hb, e⟩
theorem sumV_many (v : α → Int) : ∀ K : List (List α), sumV v K (-1) = -1
  | [] => rfl
  | k :: K => by
    show sumV v K (addC (-1) (prodV v k 1)) = -1
    rw [show addC (-1) (prodV v k 1) = -1 by unfold addC; simp, sumV_many v K]
theorem sumV_inf {v : α → Int} : ∀ (K : List (List α)) (s : Int), (∃ k ∈ K, ∃ a ∈ k, v a = -1) → sumV v K s = -1
  | [], _, ⟨_, h, _⟩ => by cases h
  | k :: K, s, ⟨b, hb, e⟩ => by
    show sumV v K (addC s (prodV v k 1)) = -1
    rcases List.mem_cons.1 hb with rfl | hb
    · rw [prodV_inf b 1 e, show addC s (-1) = -1 by unfold addC; simp, sumV_many]
    · exact sumV_inf K _ ⟨b, hb, e⟩
theorem prodV_fin {v : α → Int} {f : α → Nat} : ∀ (k : List α) (s : Nat), (∀ a ∈ k, v a = min (f a : Int) maxCount) → prodV v k (min (s : Int) maxCount) = min ((s * prodN f k : Nat) : Int) maxCount
  | [], s, _ => by show min (s : Int) maxCount = min ((s * 1 : Nat) : Int) maxCount; rw [Nat.mul_one]
  | a :: k, s, h => by
    show prodV v k (mulC (min (s : Int) maxCount) (v a)) = min ((s * (f a * prodN f k) : Nat) : Int) maxCount
    rw [h a (List.mem_cons_self ..), mul_cap, prodV_fin k _ fun b hb => h b (List.mem_cons_of_mem _ hb), Nat.mul_assoc]
theorem sumV_fin {v : α → Int} {f : α → Nat} : ∀ (K : List (List α)) (s : Nat), (∀ k ∈ K, ∀ a ∈ k, v a = min (f a : Int) maxCount) → sumV v K (min (s : Int) maxCount) = min ((s + sumN f K : Nat) : Int) maxCount
  | [], s, _ => by show min (s : Int) maxCount = min ((s + 0 : Nat) : Int) maxCount; rw [Nat.add_zero]
  | k :: K, s, h => by
    show sumV v K (addC (min (s : Int) maxCount) (prodV v k 1)) = min ((s + (prodN f k + sumN f K) : Nat) : Int) maxCount
    have h1 : (1 : Int) = min ((1 : Nat) : Int) maxCount := by unfold maxCount; omega
    rw [h1, prodV_fin k 1 (h k (List.mem_cons_self ..)), Nat.one_mul, add_cap, sumV_fin K _ fun b hb => h b (List.mem_cons_of_mem _ hb), Nat.add_assoc]

/-- a part's number is the sum over its ways of the products -/
theorem valW_eq (y : α) : valW W y = sumV (valW W) (W y) 0 := by
  by_cases h : ∀ k ∈ W y, ∀ a ∈ k, ∃ n, FinT W a n
  · have hf : ∃ f : α → Nat, ∀ k ∈ W y, ∀ a ∈ k, FinT W a (f a) := by
      refine ⟨fun a => open Classical in if h : ∃ n, FinT W a n then Classical.choose h else 0, fun k hk a ha => ?_⟩
      simp only [dif_pos (h k hk a ha)]
      exact Classical.choose_spec (h k hk a ha)
    obtain ⟨f, hf⟩ := hf
    rw [valW_fin (.mk y f hf)]
    have h0 : (0 : Int) = min ((0 : Nat) : Int) maxCount := by unfold maxCount; omega
    rw [h0, sumV_fin (f := f) (W y) 0 fun k hk a ha => valW_fin (hf k hk a ha), Nat.zero_add]
  · have h2 : ∃ k ∈ W y, ∃ a ∈ k, ¬ ∃ n, FinT W a n := by
      refine Classical.byContradiction fun h3 => h fun k hk a ha => Classical.byContradiction fun h4 => h3 ⟨k, hk, a, ha, h4⟩
    obtain ⟨k, hk, a, ha, h3⟩ := h2
    rw [valW_inf fun ⟨n, hn⟩ => h3 (hn.kid hk ha), sumV_inf _ _ ⟨k, hk, a, ha, valW_inf h3⟩]
end

section
variable {g : Gram} {x : List Int} {M : List (List Nat)}

/-- the count of a part, over its ways -/
def prodK (F : MPart → CM → Int × CM) (k : List MPart) (s : Int × CM) : Int × CM := k.foldl (fun s z => (mulC s.1 (F z s.2).1, (F z s.2).2)) s
def wayK (F : MPart → CM → Int × CM) (s : Int × CM) (k : List MPart) : Int × CM := (addC s.1 (prodK F k (1, s.2)).1, (prodK F k (1, s.2)).2)
theorem prodM_eq (F : MPart → CM → Int × CM) : ∀ (l : List Sym) (L : List Nat) (a : Nat) (s : Int × CM), prodM F l L a s = prodK F (kidsM l L a) s
  | [], L, a, s => by unfold prodM kidsM; rfl
  | y :: l, [], a, s => by unfold prodM kidsM; rfl
  | y :: l, p :: L, a, s => by
    unfold prodM kidsM
    by_cases h : y.t = true
    · rw [if_pos h, if_pos h, prodM_eq F l L p]
    · rw [if_neg h, if_neg h, prodM_eq F l L p]
      rfl
theorem rules_eq (F : MPart → CM → Int × CM) (y : MPart) (s : Int × CM) : g.rules.foldl (ruleM F x M y) s = (waysM g x M y).foldl (wayK F) s := by
  unfold waysM
  rw [List.foldl_flatMap]
  congr 1
  funext s r
  unfold ruleM
  split
  · rw [List.foldl_map]
    congr 1
    funext s L
    unfold wayM wayK
    rw [prodM_eq]
  · rfl

/-- the numbers that are done are right -/
def DoneOk (W : MPart → List (List MPart)) (s : CM) : Prop := ∀ z v, alook s.done z = some v → v = valW W z
/-- a state behind another one -/
structure SemStep (W : MPart → List (List MPart)) (s s' : CM) : Prop where
  done : DoneOk W s'
  op : ∀ z, alook s'.op z = some true → alook s.op z = some true

theorem kidsM_ok (hv : Valid g) {r : Rule} (hr : r ∈ g.rules) : ∀ (l : List Sym), (∀ y ∈ l, y ∈ r.r) → ∀ (L : List Nat) (a : Nat), (∀ p ∈ L, p ≤ x.length) → a ≤ x.length → ∀ z ∈ kidsM l L a, OkMP g x z
  | [], _, L, a, _, _, z, hz => by unfold kidsM at hz; cases hz
  | y :: l, _, [], a, _, _, z, hz => by unfold kidsM at hz; cases hz
  | y :: l, hl, p :: L, a, hL, ha, z, hz => by
    have hp := hL p (List.mem_cons_self ..)
    have ih := kidsM_ok hv hr l (fun y hy => hl y (List.mem_cons_of_mem _ hy)) L p (fun q hq => hL q (List.mem_cons_of_mem _ hq)) hp z
    unfold kidsM at hz
    split at hz
    · exact ih hz
    · rename_i ht
      rcases List.mem_cons.1 hz with rfl | hz
      · have := (hv.ok r hr).syms y (hl y (List.mem_cons_self ..))
        exact ⟨this.n0, this.nn (by simpa using ht), ha, hp⟩
      · exact ih hz
theorem waysM_ok (hv : Valid g) {y : MPart} (hy : OkMP g x y) : ∀ k ∈ waysM g x M y, ∀ z ∈ k, OkMP g x z := by
  intro k hk z hz
  unfold waysM at hk
  rw [List.mem_flatMap] at hk
  obtain ⟨r, hr, hk⟩ := hk
  split at hk
  · rw [List.mem_map] at hk
    obtain ⟨L, hL, rfl⟩ := hk
    exact kidsM_ok hv hr r.r (fun _ h => h) L y.i (fun p hp => Nat.le_trans ((splC_le hL).2 p hp) hy.2.2.2) hy.2.2.1 z hz
  · cases hk

/-- **what count returns is the number of trees** -/
theorem cntP_val (hv : Valid g) : ∀ f y s, OkMP g x y → CMOk g x s → (partsM g x).length < f + s.op.length → DoneOk (waysM g x M) s → (∀ z, alook s.op z = some true → LtW (waysM g x M) y z) → (cntP g x M f y s).1 = valW (waysM g x M) y ∧ SemStep (waysM g x M) s (cntP g x M f y s).2
  | 0, y, s, _, hs, hlt, _, _ => by
    exfalso
    have h1 := nodup_sub_len _ (partsM g x) hs.nodup fun a ha => mem_partsM (hs.sub a ha)
    rw [List.length_map] at h1
    omega
  | f + 1, y, s, hy, hs, hlt, hd, ho => by
    have ih := cntP_val hv f
    have hgood := cntP_ok (x := x) (M := M) hv f
    unfold cntP
    cases hdy : alook s.done y with
    | some v => exact ⟨hd y v hdy, hd, fun _ h => h⟩
    | none =>
      by_cases hop : (alook s.op y).getD false = true
      · rw [if_pos hop]
        have h1 : alook s.op y = some true := by
          cases h : alook s.op y with
          | none => rw [h] at hop; cases hop
          | some b => rw [h] at hop; simpa using hop
        exact ⟨(valW_inf fun ⟨n, hn⟩ => hn.irrefl (ho y h1)).symm, hd, fun _ h => h⟩
      · rw [if_neg hop]
        have hn : alook s.op y = none := by
          cases h : alook s.op y with
          | none => rfl
          | some b =>
            rw [h] at hop
            cases b
            · have := hs.done y h; rw [hdy] at this; cases this
            · exact absurd rfl hop
        have hk := alook_none.1 hn
        have h0 : CMOk g x ⟨s.done, aput s.op y true⟩ := by
          refine ⟨?_, fun z hz => ?_, fun z hz => ?_, hs.val⟩
          · simp only
            rw [aput_new hk, List.map_append, List.nodup_append]
            exact ⟨hs.nodup, by simp, fun a ha b hb e => by simp at hb; subst hb; subst e; exact hk ha⟩
          · simp only at hz
            rw [aput_new hk, List.map_append] at hz
            rcases List.mem_append.1 hz with hz | hz
            · exact hs.sub z hz
            · simp at hz; rw [hz]; exact hy
          · simp only at hz ⊢
            rw [alook_put] at hz
            split at hz
            · cases hz
            · exact hs.done z hz
        have hlen : (partsM g x).length < f + (aput s.op y true).length := by
          rw [aput_new hk, List.length_append]
          simp
          omega
        rw [rules_eq]
        -- one kid
        have hkid : ∀ (k : List MPart), k ∈ waysM g x M y → ∀ z ∈ k, ∀ t : CM, CMOk g x t → CMStep ⟨s.done, aput s.op y true⟩ t → SemStep (waysM g x M) ⟨s.done, aput s.op y true⟩ t → (cntP g x M f z t).1 = valW (waysM g x M) z ∧ CMOk g x (cntP g x M f z t).2 ∧ CMStep ⟨s.done, aput s.op y true⟩ (cntP g x M f z t).2 ∧ SemStep (waysM g x M) ⟨s.done, aput s.op y true⟩ (cntP g x M f z t).2 := by
          intro k hkk z hz t h1 h2 h3
          have hz2 := waysM_ok hv hy k hkk z hz
          have hl := h2.len
          simp only at hl
          obtain ⟨e1, e2⟩ := ih z t hz2 h1 (by omega) h3.done fun o hoo => by
            have h4 := h3.op o hoo
            simp only at h4
            rw [alook_put] at h4
            split at h4
            · rename_i e
              subst e
              exact .base hkk hz
            · exact (LtW.base hkk hz).trans (ho o h4)
          obtain ⟨_, g2, g3⟩ := hgood z t hz2 h1
          exact ⟨e1, g2, h2.trans g3, e2.done, fun o hoo => h3.op o (e2.op o hoo)⟩
        have hprod : ∀ (k : List MPart), (∃ k0 ∈ waysM g x M y, ∀ z ∈ k, z ∈ k0) → ∀ (v : Int) (t : CM), CMOk g x t → CMStep ⟨s.done, aput s.op y true⟩ t → SemStep (waysM g x M) ⟨s.done, aput s.op y true⟩ t → (prodK (cntP g x M f) k (v, t)).1 = prodV (valW (waysM g x M)) k v ∧ CMOk g x (prodK (cntP g x M f) k (v, t)).2 ∧ CMStep ⟨s.done, aput s.op y true⟩ (prodK (cntP g x M f) k (v, t)).2 ∧ SemStep (waysM g x M) ⟨s.done, aput s.op y true⟩ (prodK (cntP g x M f) k (v, t)).2 := by
          intro k
          induction k with
          | nil => intro _ v t h1 h2 h3; exact ⟨rfl, h1, h2, h3⟩
          | cons z k ihk =>
            rintro ⟨k0, hk0, hk1⟩ v t h1 h2 h3
            obtain ⟨e1, e2, e3, e4⟩ := hkid k0 hk0 z (hk1 z (List.mem_cons_self ..)) t h1 h2 h3
            have := ihk ⟨k0, hk0, fun a ha => hk1 a (List.mem_cons_of_mem _ ha)⟩ (mulC v (cntP g x M f z t).1) _ e2 e3 e4
            rw [e1] at this
            show (prodK (cntP g x M f) k (mulC v (cntP g x M f z t).1, (cntP g x M f z t).2)).1 = prodV _ k (mulC v (valW _ z)) ∧ CMOk g x (prodK (cntP g x M f) k (mulC v (cntP g x M f z t).1, (cntP g x M f z t).2)).2 ∧ CMStep _ (prodK (cntP g x M f) k (mulC v (cntP g x M f z t).1, (cntP g x M f z t).2)).2 ∧ SemStep _ _ (prodK (cntP g x M f) k (mulC v (cntP g x M f z t).1, (cntP g x M f z t).2)).2
            rw [e1]
            exact this
        have hsum : ∀ (K : List (List MPart)), (∀ k ∈ K, k ∈ waysM g x M y) → ∀ (v : Int) (t : CM), CMOk g x t → CMStep ⟨s.done, aput s.op y true⟩ t → SemStep (waysM g x M) ⟨s.done, aput s.op y true⟩ t → (K.foldl (wayK (cntP g x M f)) (v, t)).1 = sumV (valW (waysM g x M)) K v ∧ CMOk g x (K.foldl (wayK (cntP g x M f)) (v, t)).2 ∧ CMStep ⟨s.done, aput s.op y true⟩ (K.foldl (wayK (cntP g x M f)) (v, t)).2 ∧ SemStep (waysM g x M) ⟨s.done, aput s.op y true⟩ (K.foldl (wayK (cntP g x M f)) (v, t)).2 := by
          intro K
          induction K with
          | nil => intro _ v t h1 h2 h3; exact ⟨rfl, h1, h2, h3⟩
          | cons k K ihk =>
            intro hK v t h1 h2 h3
            obtain ⟨e1, e2, e3, e4⟩ := hprod k ⟨k, hK k (List.mem_cons_self ..), fun _ h => h⟩ 1 t h1 h2 h3
            have := ihk (fun a ha => hK a (List.mem_cons_of_mem _ ha)) (addC v (prodK (cntP g x M f) k (1, t)).1) _ e2 e3 e4
            obtain ⟨q1, q2, q3, q4⟩ := this
            refine ⟨q1.trans ?_, q2, q3, q4⟩
            show sumV _ K (addC v _) = sumV _ K (addC v _)
            rw [e1]
        obtain ⟨e1, _, _, e4⟩ := hsum (waysM g x M y) (fun _ h => h) 0 ⟨s.done, aput s.op y true⟩ h0 (CMStep.refl _) ⟨hd, fun _ h => h⟩
        have e5 : ((waysM g x M y).foldl (wayK (cntP g x M f)) (0, ⟨s.done, aput s.op y true⟩)).1 = valW (waysM g x M) y := by rw [e1, ← valW_eq]
        refine ⟨e5, fun z v hz => ?_, fun z hz => ?_⟩
        · simp only at hz
          rw [alook_put] at hz
          split at hz
          · rename_i e
            injection hz with hz
            rw [← hz, ← e, e5]
          · exact e4.done z v hz
        · simp only at hz
          rw [alook_put] at hz
          split at hz
          · cases hz
          · rename_i hne
            have h6 := e4.op z hz
            simp only at h6
            rw [alook_put, if_neg hne] at h6
            exact h6

theorem cntP_root (hv : Valid g) {y : MPart} (hy : OkMP g x y) : (cntP g x M ((partsM g x).length + 1) y ⟨[], []⟩).1 = valW (waysM g x M) y :=
  (cntP_val hv _ y ⟨[], []⟩ hy ⟨by simp, (by intro z hz; cases hz), (by intro z hz; cases hz), (by intro z hz; cases hz)⟩ (by simp) (by intro z v hz; cases hz) (by intro z hz; cases hz)).1
end
end Go.Proofs.YtdbkbkopcnkgcaaGreat

open Go Go.RowKit
namespace Go.Proofs.YtdbkbkopcnkgcaaGreat

/-! ### the same trees over related parts -/
section
variable {α β : Type}
theorem prodN_perm {f : α → Nat} {k k' : List α} (h : k.Perm k') : prodN f k = prodN f k' := by
  induction h with
  | nil => rfl
  | cons a _ ih => show f a * _ = f a * _; rw [show List.foldr (fun a n => f a * n) 1 _ = _ from ih]; rfl
  | swap a b l => show f b * (f a * prodN f l) = f a * (f b * prodN f l); exact Nat.mul_left_comm ..
  | trans _ _ h1 h2 => exact h1.trans h2
theorem sumN_perm {f : α → Nat} {K K' : List (List α)} (h : K.Perm K') : sumN f K = sumN f K' := by
  induction h with
  | nil => rfl
  | cons a _ ih => show prodN f a + _ = prodN f a + _; rw [show List.foldr (fun k n => prodN f k + n) 0 _ = _ from ih]; rfl
  | swap a b l => show prodN f b + (prodN f a + sumN f l) = prodN f a + (prodN f b + sumN f l); exact Nat.add_left_comm ..
  | trans _ _ h1 h2 => exact h1.trans h2
theorem prodN_map {f : β → Nat} {φ : α → β} : ∀ k : List α, prodN f (k.map φ) = prodN (fun a => f (φ a)) k
  | [] => rfl
  | a :: k => by show f (φ a) * prodN f (k.map φ) = f (φ a) * _; rw [prodN_map k]; rfl
theorem sumN_map {f : β → Nat} {f' : α → Nat} {τ : List α → List β} : ∀ K : List (List α), (∀ k ∈ K, prodN f (τ k) = prodN f' k) → sumN f (K.map τ) = sumN f' K
  | [], _ => rfl
  | k :: K, h => by
    show prodN f (τ k) + sumN f (K.map τ) = prodN f' k + sumN f' K
    rw [h k (List.mem_cons_self ..), sumN_map K fun a ha => h a (List.mem_cons_of_mem _ ha)]

variable {W : α → List (List α)} {W' : β → List (List β)} {φ : α → β} {P : α → Prop}
/-- one numbering of the trees of all parts that have finitely many -/
theorem fin_all (W : α → List (List α)) : ∃ f : α → Nat, ∀ a n, FinT W a n → f a = n := by
  refine ⟨fun a => open Classical in if h : ∃ n, FinT W a n then Classical.choose h else 0, fun a n h => ?_⟩
  have hh : ∃ n, FinT W a n := ⟨n, h⟩
  simp only [dif_pos hh]
  exact (Classical.choose_spec hh).uniq n h
theorem fin_sim (hcl : ∀ y, P y → ∀ k ∈ W y, ∀ a ∈ k, P a) (h : ∀ y, P y → ∃ τ : List α → List β, ((W y).map τ).Perm (W' (φ y)) ∧ ∀ k ∈ W y, (τ k).Perm (k.map φ)) {y : α} {n : Nat} (hy : FinT W y n) : P y → FinT W' (φ y) n := by
  induction hy with
  | mk y f hf ih =>
    intro hp
    obtain ⟨τ, h1, h2⟩ := h y hp
    obtain ⟨f', hf'⟩ := fin_all W'
    have hk : ∀ k ∈ W y, ∀ a ∈ k, FinT W' (φ a) (f' (φ a)) ∧ f' (φ a) = f a := fun k hk a ha => by
      have := ih k hk a ha (hcl y hp k hk a ha)
      have e := hf' _ _ this
      exact ⟨by rw [e]; exact this, e⟩
    have key : sumN f (W y) = sumN f' (W' (φ y)) := by
      rw [← sumN_perm h1]
      refine (sumN_map (W y) fun k hkk => ?_).symm
      rw [prodN_perm (h2 k hkk), prodN_map]
      exact prodN_congr k fun a ha => (hk k hkk a ha).2
    rw [key]
    refine .mk _ f' fun k' hk' b hb => ?_
    obtain ⟨k, hkk, rfl⟩ := List.mem_map.1 (h1.mem_iff.2 hk')
    obtain ⟨a, ha, rfl⟩ := List.mem_map.1 ((h2 k hkk).mem_iff.1 hb)
    exact (hk k hkk a ha).1
theorem fin_back (hcl : ∀ y, P y → ∀ k ∈ W y, ∀ a ∈ k, P a) (h : ∀ y, P y → ∃ τ : List α → List β, ((W y).map τ).Perm (W' (φ y)) ∧ ∀ k ∈ W y, (τ k).Perm (k.map φ)) {b : β} {n : Nat} (hb : FinT W' b n) : ∀ y, P y → b = φ y → ∃ m, FinT W y m := by
  induction hb with
  | mk b f hf ih =>
    rintro y hp rfl
    obtain ⟨τ, h1, h2⟩ := h y hp
    obtain ⟨f', hf'⟩ := fin_all W
    refine ⟨_, .mk y f' fun k hk a ha => ?_⟩
    obtain ⟨m, hm⟩ := ih (τ k) (h1.mem_iff.1 (List.mem_map_of_mem hk)) (φ a) ((h2 k hk).mem_iff.2 (List.mem_map_of_mem ha)) a (hcl y hp k hk a ha) rfl
    rw [hf' _ _ hm]
    exact hm
theorem valW_sim (hcl : ∀ y, P y → ∀ k ∈ W y, ∀ a ∈ k, P a) (h : ∀ y, P y → ∃ τ : List α → List β, ((W y).map τ).Perm (W' (φ y)) ∧ ∀ k ∈ W y, (τ k).Perm (k.map φ)) {y : α} (hy : P y) : valW W' (φ y) = valW W y := by
  by_cases hf : ∃ n, FinT W y n
  · obtain ⟨n, hn⟩ := hf
    rw [valW_fin hn, valW_fin (fin_sim hcl h hn hy)]
  · rw [valW_inf hf, valW_inf fun ⟨n, hn⟩ => hf (fin_back hcl h hn y hy rfl)]
end

/-! ### the ways of mean.Count are those of the forest -/
def toP (y : MPart) : Part := ⟨⟨false, y.n⟩, y.i, y.j⟩
def ntP (ks : List Part) : List Part := ks.filter fun k => !k.y.t
def WU (g : Gram) (x : List Int) (M : List (List Nat)) (p : Part) : List (List Part) := (waysU g x M p).map fun v => ntP v.kids

section
variable {g : Gram} {x : List Int} {M : List (List Nat)}

theorem splU_spl {rule j : Nat} : ∀ (l : List Sym) (a : Nat) (pre : List Part), (splitU x M rule j l a pre).map (fun v => ntP v.kids) = (splL x M j l a).map fun L => ntP pre ++ (kidsM l L a).map toP
  | [], a, pre => by unfold splitU splL kidsM; simp
  | y :: l, a, pre => by
    unfold splitU splL
    rw [List.map_flatMap, List.map_flatMap]
    congr 1
    funext p
    split
    · rw [splU_spl l p, List.map_map]
      congr 1
      funext L
      show ntP (pre ++ [⟨y, a, p⟩]) ++ (kidsM l L p).map toP = ntP pre ++ (kidsM (y :: l) (p :: L) a).map toP
      rw [kidsM]
      obtain ⟨t, n⟩ := y
      cases t
      · simp [ntP, toP]
      · simp [ntP]
    · rfl

theorem flatMap_zipIdx {α β : Type} (F : α → List β) : ∀ (l : List α) (n : Nat), (l.zipIdx n).flatMap (fun rn => F rn.1) = l.flatMap F
  | [], _ => rfl
  | a :: l, n => by rw [List.zipIdx_cons, List.flatMap_cons, List.flatMap_cons, flatMap_zipIdx F l (n + 1)]

theorem ways_MU (hlow : MLow M) {y : MPart} (hj : y.j ≤ x.length) : (waysM g x M y).map (List.map toP) = WU g x M (toP y) := by
  unfold waysM WU waysU
  rw [if_neg (by simp [toP]), List.map_flatMap, List.map_flatMap, ← flatMap_zipIdx _ g.rules 0]
  congr 1
  funext rn
  unfold ruleU
  show _ = (if rn.1.l = y.n ∧ (seqEnds x M rn.1.r (2 ^ y.i)).testBit y.j = true then splitU x M rn.2 y.j rn.1.r y.i [] else []).map fun v => ntP v.kids
  by_cases hl : rn.1.l = y.n
  · rw [if_pos hl]
    have hc : ((rchS x M y.j rn.1.r).testBit y.i = true) ↔ ((seqEnds x M rn.1.r (2 ^ y.i)).testBit y.j = true) := by
      rw [rchS_bit hlow hj]
      exact ⟨fun h => h.2, fun h => ⟨seq_low hlow rn.1.r (2 ^ y.i) y.i y.j (fun k hk => by have := pow_bit hk; omega) h, h⟩⟩
    unfold splC
    by_cases h2 : (seqEnds x M rn.1.r (2 ^ y.i)).testBit y.j = true
    · rw [if_pos (hc.2 h2), if_pos (show _ ∧ _ from ⟨hl, h2⟩), List.map_map]
      show _ = (splitU x M rn.2 y.j rn.1.r y.i []).map fun v => ntP v.kids
      rw [splU_spl]
      rfl
    · rw [if_neg (fun h => h2 (hc.1 h)), if_neg (show ¬ (_ ∧ _) from fun h => h2 h.2)]
      rfl
  · rw [if_neg hl, if_neg (show ¬ (_ ∧ _) from fun h => hl h.1)]
    rfl

theorem val_MU (hv : Valid g) (hlow : MLow M) {y : MPart} (hy : OkMP g x y) : valW (waysM g x M) y = valW (WU g x M) (toP y) :=
  (valW_sim (φ := toP) (P := OkMP g x) (fun y hy k hk a ha => waysM_ok hv hy k hk a ha) (fun y hy => ⟨List.map toP, by rw [ways_MU hlow hy.2.2.2], fun k _ => .refl _⟩) hy).symm

/-- what mean.Count answers -/
noncomputable def cntU (g : Gram) (x : List Int) (M : List (List Nat)) : Int := if (entry M g.start 0).testBit x.length = true then valW (WU g x M) (rootF g x) else 0
theorem cnt_root (hv : Valid g) (hlow : MLow M) : (cntP g x M ((partsM g x).length + 1) ⟨g.start, 0, x.length⟩ ⟨[], []⟩).1 = valW (WU g x M) (rootF g x) := by
  have hy : OkMP g x ⟨g.start, 0, x.length⟩ := ⟨hv.s0, hv.s1, Nat.zero_le _, Nat.le_refl _⟩
  rw [cntP_root hv hy, val_MU hv hlow hy]
  rfl
end

/-! ### the mirrored grammar -/
section
variable {g g' : Gram} {x x' : List Int} {M M' : List (List Nat)}
theorem mirW_mirW {L : Nat} {v : Way} (h : ∀ k ∈ v.kids, k.i ≤ L ∧ k.j ≤ L) : mirW L (mirW L v) = v := by
  obtain ⟨vr, vk⟩ := v
  unfold mirW
  simp only [List.map_reverse, List.reverse_reverse, List.map_map]
  have : vk.map (mirP L ∘ mirP L) = vk.map id := List.map_congr_left fun k hk => mirP_mirP (h k hk)
  rw [this, List.map_id]
theorem Mir.perm (h : Mir g x M g' x' M') (hv : Valid g) {p : Part} (hi : p.i ≤ x.length) (hj : p.j ≤ x.length) : ((waysU g x M p).map (mirW x.length)).Perm (waysU g' x' M' (mirP x.length p)) := by
  have hv' : Valid g' := by rw [h.gr]; exact mir_valid hv
  have hi' : (mirP x.length p).i ≤ x'.length := by show x.length - p.j ≤ _; rw [h.len]; omega
  have hj' : (mirP x.length p).j ≤ x'.length := by show x.length - p.i ≤ _; rw [h.len]; omega
  refine (List.perm_ext_iff_of_nodup ?_ waysU_nodup).2 fun v => ⟨fun hv2 => ?_, fun hv2 => ?_⟩
  · refine List.pairwise_map.2 (List.pairwise_iff_getElem.2 fun a b ha hb hab e => ?_)
    have hne := List.pairwise_iff_getElem.1 (waysU_nodup (g := g) (x := x) (M := M) (p := p)) a b ha hb hab
    apply hne
    rw [← mirW_mirW (h.kid hi (List.getElem_mem ha)), e, mirW_mirW (h.kid hi (List.getElem_mem hb))]
  · obtain ⟨w, hw, rfl⟩ := List.mem_map.1 hv2
    exact h.way hv hi hj hw
  · have h1 := h.symm.way hv' hi' hj' hv2
    have h2 := h.symm.kid hi' hv2
    rw [h.len] at h1 h2
    rw [mirP_mirP ⟨hi, hj⟩] at h1
    rw [← mirW_mirW h2]
    exact List.mem_map_of_mem h1
theorem Mir.val (h : Mir g x M g' x' M') (hv : Valid g) {p : Part} (hi : p.i ≤ x.length) (hj : p.j ≤ x.length) : valW (WU g' x' M') (mirP x.length p) = valW (WU g x M) p := by
  refine valW_sim (P := fun p => p.i ≤ x.length ∧ p.j ≤ x.length) (fun p hp k hk a ha => ?_) (fun p hp => ⟨fun k => (k.map (mirP x.length)).reverse, ?_, fun k _ => List.reverse_perm _⟩) ⟨hi, hj⟩
  · unfold WU at hk
    obtain ⟨v, hv2, rfl⟩ := List.mem_map.1 hk
    exact h.kid hp.1 hv2 a (List.mem_filter.1 ha).1
  · unfold WU
    rw [List.map_map]
    have e : (waysU g x M p).map ((fun k : List Part => (k.map (mirP x.length)).reverse) ∘ fun v => ntP v.kids) = ((waysU g x M p).map (mirW x.length)).map fun v => ntP v.kids := by
      rw [List.map_map]
      refine List.map_congr_left fun v _ => ?_
      show ((ntP v.kids).map (mirP x.length)).reverse = ntP ((v.kids.map (mirP x.length)).reverse)
      unfold ntP
      rw [List.filter_reverse, List.filter_map]
      rfl
    rw [e]
    exact (h.perm hv hp.1 hp.2).map _
/-- **the reversed word has as many trees** -/
theorem Mir.count (h : Mir g x M g' x' M') (hv : Valid g) : cntU g x M = cntU g' x' M' := by
  have hv' : Valid g' := by rw [h.gr]; exact mir_valid hv
  unfold cntU
  have e : mirP x.length (rootF g x) = rootF g' x' := by
    unfold mirP rootF
    simp only
    rw [h.len, h.gr]
    simp [mirG]
  have hr : ((entry M g.start 0).testBit x.length = true) ↔ ((entry M' g'.start 0).testBit x'.length = true) := ⟨h.root hv, h.symm.root hv'⟩
  by_cases h0 : (entry M g.start 0).testBit x.length = true
  · rw [if_pos h0, if_pos (hr.1 h0), ← e, h.val hv (Nat.zero_le _) (Nat.le_refl _)]
  · rw [if_neg h0, if_neg fun h1 => h0 (hr.2 h1)]
end
end Go.Proofs.YtdbkbkopcnkgcaaGreat
