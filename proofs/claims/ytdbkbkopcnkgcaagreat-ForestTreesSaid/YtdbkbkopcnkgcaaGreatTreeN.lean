import Derived.Test.YtdbkbkopcnkgcaaGreatLoopA
import Derived.Test.YtdbkbkopcnkgcaaGreatTreeL
open Go Go.RowKit
namespace Go.Proofs.YtdbkbkopcnkgcaaGreat

/-! ### mean.Trees, for every grammar: what it returns is determined -/
def TR (g : Gram) (x : List Int) (M : List (List Nat)) (most : Nat) (ts : List Tr) (err : Int) : Prop :=
  ((cntU g x M = 0 ∨ most = 0) ∧ ts = [] ∧ err = 0) ∨
  (cntU g x M ≠ 0 ∧ most ≠ 0 ∧ ∃ f of', loopP g x M most (partsR g x M) f (fun _ => []) = some of' ∧
    ((((of' (rootM g x)).length : Int) < min (if cntU g x M = -1 then (most : Int) else cntU g x M) most ∧ ts = [] ∧ err = 2) ∨
    (¬ ((of' (rootM g x)).length : Int) < min (if cntU g x M = -1 then (most : Int) else cntU g x M) most ∧ ts = treesOf (of' (rootM g x)) ∧ err = 0)))
theorem tr_ex (g : Gram) (x : List Int) (M : List (List Nat)) (most : Nat) : ∃ ts err, TR g x M most ts err := by
  by_cases h : cntU g x M = 0 ∨ most = 0
  · exact ⟨_, _, .inl ⟨h, rfl, rfl⟩⟩
  · obtain ⟨f, of', hf⟩ := loop_ends g x M most (partsR g x M)
    by_cases c : ((of' (rootM g x)).length : Int) < min (if cntU g x M = -1 then (most : Int) else cntU g x M) most
    · exact ⟨_, _, .inr ⟨fun e => h (.inl e), fun e => h (.inr e), f, of', hf, .inl ⟨c, rfl, rfl⟩⟩⟩
    · exact ⟨_, _, .inr ⟨fun e => h (.inl e), fun e => h (.inr e), f, of', hf, .inr ⟨c, rfl, rfl⟩⟩⟩
theorem TR.of_end {g : Gram} {x : List Int} {M : List (List Nat)} {most : Nat} {w w' : World} {e : Ending} {ts : List Tr} {err : Int} (ht : TR g x M most ts err) (h : TreesEnd g x M most w w' e) :
    ∃ A c, e = .returned (.tuple #[.slice A ts.length c, .int .i64 err]) ∧ ts.length ≤ c ∧ IsSl Elt.tree (fun b => w.heap.size ≤ b ∧ Cel w' b) w' (.slice A ts.length c) ts := by
  have hnil : ∀ F : Nat → Prop, IsSl Elt.tree F w' (.slice none ([] : List Tr).length 0) [] := fun F => ⟨none, 0, rfl, by simp, fun k hk => by simp at hk⟩
  rcases ht with ⟨h0, rfl, rfl⟩ | ⟨h0, h1, f, of1, hl, hc⟩
  · rcases h with ⟨_, he⟩ | ⟨k0, k1, _⟩
    · exact ⟨none, 0, he, Nat.le_refl _, hnil _⟩
    · exact absurd h0 (by rintro (h | h); exact k0 h; exact k1 h)
  · rcases h with ⟨k0, he⟩ | ⟨_, _, f2, of2, hl2, hc2⟩
    · exact absurd k0 (by rintro (h | h); exact h0 h; exact h1 h)
    · obtain rfl := loop_one hl hl2
      rcases hc with ⟨c, rfl, rfl⟩ | ⟨c, rfl, rfl⟩
      · rcases hc2 with ⟨_, he⟩ | ⟨c2, _⟩
        · exact ⟨none, 0, he, Nat.le_refl _, hnil _⟩
        · exact absurd c c2
      · rcases hc2 with ⟨c2, _⟩ | ⟨_, A, cc, he, hle, hsl⟩
        · exact absurd c2 c
        · exact ⟨A, cc, he, hle, hsl⟩
theorem treesN_any (F : Nat → Prop) {g : Gram} {x : List Int} {A : Option Addr} {c : Nat} {B : Option Addr} {d : Nat} (hv : Valid g) (hx12 : x.length ≤ 12) (w : World) (hc : g.rules.length ≤ c) (ho : OkWord g x)
    (hr : IsSl Elt.rule F w (.slice A g.rules.length c) g.rules) (hx : IsSl Elt.int F w (.slice B x.length d) x) (most : Nat) (hmost : most ≤ 100) {M : List (List Nat)} (hM : IsM g x M) {ts : List Tr} {err : Int} (ht : TR g x M most ts err) :
    Calls Tryz.prog 10 #[gramV g (.slice A g.rules.length c), .slice B x.length d, .int .i64 most] w fun e w' => ∃ A c, e = .returned (.tuple #[.slice A ts.length c, .int .i64 err]) ∧ ts.length ≤ c ∧ IsSl Elt.tree (fun b => w.heap.size ≤ b ∧ Cel w' b) w' (.slice A ts.length c) ts ∧ Below w.heap.size w w' := by
  refine (trees_any F hv hx12 w hc ho hr hx most hmost fun M _ _ _ => loop_ends g x M most _).mono ?_
  rintro e w' ⟨M', hM', hend, hb⟩
  obtain rfl := hM.unique hM'
  obtain ⟨A, c, h1, h2, h3⟩ := ht.of_end hend
  exact ⟨A, c, h1, h2, h3, hb⟩
end Go.Proofs.YtdbkbkopcnkgcaaGreat
