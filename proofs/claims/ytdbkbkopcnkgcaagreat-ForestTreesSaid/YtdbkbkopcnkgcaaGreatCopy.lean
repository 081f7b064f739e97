import Derived.Test.YtdbkbkopcnkgcaaGreatMade
import Derived.Deep.DeepCutAuto
open Go Go.RowKit
namespace Go.Proofs.YtdbkbkopcnkgcaaGreat

theorem copy_step {w wr W w8 w9 : World} {gb rb base q : Nat} {Av Ai Ao : Option Addr} {cv ci co : Nat} {xs : List Value} {r : Rule} {l : List Rule} {t n s : Value} {o : Obj} (hb : Below w.heap.size w wr) (hbF : Below wr.heap.size wr W) (hb8 : Below W.heap.size W w8)
    (hO : OwnRules W base (.slice Av q cv) l xs) (hlq : l.length = q) (ho8 : w8.ownsRow W.heap.size 70 2 (.slice Ai r.r.length ci) r.r.length (symCells r.r)) (hg9 : (w8.alloc (.cells #[.int .i64 r.l, .slice Ai r.r.length ci] 99)).grownBy w9 (Value.slice Av q cv).ownBlock)
    (hown9 : w9.ownsRow base 99 2 (.slice Ao (q + 1) co) (q + 1) (xs ++ [.int .i64 r.l, .slice Ai r.r.length ci])) (hG : W.heap[gb]? = some (.cells #[t, n, s, .slice Av q cv] 25 (0, 0))) (hR : W.heap[rb]? = some o) (h1 : gb < base) (h2 : rb < base) (h3 : rb ≠ gb) (h4 : w.heap.size ≤ gb) (h5 : base ≤ W.heap.size) (h6 : w.heap.size ≤ base) :
    Below w.heap.size w (w9.setCell ⟨gb, 3, none⟩ (.slice Ao (q + 1) co)) ∧ (w9.setCell ⟨gb, 3, none⟩ (.slice Ao (q + 1) co)).heap[gb]? = some (.cells #[t, n, s, .slice Ao (q + 1) co] 25 (0, 0)) ∧ (w9.setCell ⟨gb, 3, none⟩ (.slice Ao (q + 1) co)).heap[rb]? = some o ∧
      OwnRules (w9.setCell ⟨gb, 3, none⟩ (.slice Ao (q + 1) co)) base (.slice Ao (q + 1) co) (l ++ [r]) (xs ++ [.int .i64 r.l, .slice Ai r.r.length ci]) := by
  subst hlq
  have hgl := blk_lt hG
  have hrl := blk_lt hR
  have hs8 := hb8.size
  have hsb := hb.size
  have hsF := hbF.size
  have hrow : ∀ k, (Value.slice Av l.length cv).ownBlock = some k → base ≤ k := fun k hk => own_base' hO.own _ hk
  have hk : ∀ j, j < W.heap.size → j < base → w9.heap[j]? = W.heap[j]? := fun j hj hj2 => (hg9.block j (by rw [World.size_alloc]; omega) (fun e => by have := hrow j e.symm; omega)).trans ((Below.heap_alloc _ _ _ (by omega)).trans (hb8.block j hj))
  have hbW : Below w.heap.size w W := hb.trans (hbF.mono hsb)
  have hb9 : Below w.heap.size w w9 := ((hbW.trans (hb8.mono (by omega))).alloc (by omega) _).grown hg9 (by rw [World.size_alloc]; omega) (fun k hk => by have := hrow k hk; omega)
  refine ⟨hb9.setCell (by show w.heap.size ≤ gb; omega) _, ?_, ?_, ?_⟩
  · rw [heap_set ((hk gb hgl h1).trans hG)]; rfl
  · rw [heap_set_ne h3, hk rb hrl h2]; exact hR
  · refine OwnRules.setCell (OwnRules.snoc ((hO.below hb8).alloc _) ((ho8.mono_base h5).alloc _) hg9 hown9) h1

theorem own_lt0 {w : World} {base size n : Nat} {e : TypeId} {v : Value} {xs : List Value} (h : w.ownsRow base e size v n xs) (k : Nat) (hk : v.ownBlock = some k) : k < w.heap.size := by
  obtain ⟨cs, T, fr, h1⟩ := own_block h k hk
  exact blk_lt h1
/-- the right sides lie in rows of their own, all apart -/
def DistR (xs : List Value) (n : Nat) : Prop := ∀ i j, i < j → j < n → ∀ b, (xs.getD (i * 2 + 1) undef).ownBlock = some b → (xs.getD (j * 2 + 1) undef).ownBlock ≠ some b
theorem dist_snoc {W w8 : World} {base q : Nat} {v : Value} {l : List Rule} {xs : List Value} {a : Value} {Ai : Option Addr} {ni ci size : Nat} {e : TypeId} {ys : List Value} (hO : OwnRules W base v l xs) (hlq : l.length = q) (hD : DistR xs q) (ho8 : w8.ownsRow W.heap.size e size (.slice Ai ni ci) ni ys) : DistR (xs ++ [a, .slice Ai ni ci]) (q + 1) := by
  have hxl : xs.length = q * 2 := by have := hO.own.1; omega
  intro i j hij hj b h1 h2
  rw [List.getD_eq_getElem?_getD, List.getElem?_append_left (by omega), ← List.getD_eq_getElem?_getD] at h1
  by_cases e1 : j < q
  · rw [List.getD_eq_getElem?_getD, List.getElem?_append_left (by omega), ← List.getD_eq_getElem?_getD] at h2
    exact hD i j hij e1 b h1 h2
  · obtain rfl : j = q := by omega
    rw [List.getD_eq_getElem?_getD, List.getElem?_append_right (by omega), hxl] at h2
    have h3 : (Value.slice Ai ni ci).ownBlock = some b := by
      have e2 : j * 2 + 1 - j * 2 = 1 := by omega
      rw [e2] at h2
      exact h2
    have h4 := own_base' ho8 b h3
    obtain ⟨_, A, c, h5, h6⟩ := hO.at_ i (by omega)
    rw [List.getD_eq_getElem?_getD, h5] at h1
    have := own_lt0 h6 b h1
    omega

end Go.Proofs.YtdbkbkopcnkgcaaGreat
