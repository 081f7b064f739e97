import Derived.Test.YtdbkbkopcnkgcaaGreatForJ
import Derived.Test.YtdbkbkopcnkgcaaGreatMade
import Derived.Test.YtdbkbkopcnkgcaaGreatGramC
open Go Go.RowKit
open Go.ChangeMaps (setBlock)
namespace Go.Proofs.YtdbkbkopcnkgcaaGreat

/-! ### made: plain side -/
section
variable {g : Gram} {x : List Int} {M : List (List Nat)}

theorem splitF_rule {rule j : Nat} : ∀ (l : List Sym) (a : Nat) (kids : List Part) (s : List Way × Nat), ∀ v ∈ (splitF x M rule j l a kids s).1, v ∈ s.1 ∨ v.rule = rule
  | [], a, kids, s => by
    rw [splitF_nil]
    intro v hv
    rcases List.mem_append.1 hv with hv | hv
    · exact .inl hv
    · simp only [List.mem_singleton] at hv; exact .inr (by rw [hv])
  | y :: l, a, kids, s => by
    rw [splitF_cons]
    have key : ∀ (ps : List Nat) (s : List Way × Nat), ∀ v ∈ (ps.foldl (splitAt x M j a y l fun p s => splitF x M rule j l p (kids ++ [⟨y, a, p⟩]) s) s).1, v ∈ s.1 ∨ v.rule = rule := by
      intro ps
      induction ps with
      | nil => intro s v h; exact .inl h
      | cons p ps ih =>
        intro s v h
        rw [List.foldl_cons] at h
        rcases ih _ v h with h | h
        · unfold splitAt at h
          split at h
          · exact splitF_rule l p _ s v h
          · exact .inl h
        · exact .inr h
    exact key _ s

theorem rulesF_more (p : Part) (m : Nat) : (rulesF g x M p m).1.length ≤ (rulesF g x M p m).2 ∧ ∀ v ∈ (rulesF g x M p m).1, v.rule < g.rules.length := by
  unfold rulesF
  have key : ∀ (l : List (Rule × Nat)) (s : List Way × Nat), (∀ q ∈ l, q.2 < g.rules.length) → (s.1.length ≤ s.2 ∧ ∀ v ∈ s.1, v.rule < g.rules.length) → (l.foldl (ruleF x M p) s).1.length ≤ (l.foldl (ruleF x M p) s).2 ∧ ∀ v ∈ (l.foldl (ruleF x M p) s).1, v.rule < g.rules.length := by
    intro l
    induction l with
    | nil => intro s _ h; exact h
    | cons q l ih =>
      intro s hq h
      rw [List.foldl_cons]
      apply ih _ (fun q' h' => hq q' (List.mem_cons_of_mem _ h'))
      have hr := hq q (List.mem_cons_self ..)
      unfold ruleF
      split
      · obtain ⟨ws, hw⟩ := splitF_many (x := x) (M := M) (rule := q.2) (j := p.j) q.1.r p.i [] s
        refine ⟨by rw [hw]; simp only [List.length_append]; omega, fun v hv => ?_⟩
        rcases splitF_rule q.1.r p.i [] s v hv with h2 | h2
        · exact h.2 v h2
        · omega
      · exact h
  exact key _ _ (fun q hq => by have := List.snd_lt_of_mem_zipIdx hq; simpa using this) ⟨Nat.zero_le _, by simp⟩

theorem rulesF_le {p : Part} {m : Nat} (hm : m ≤ maxPacks) (h32 : g.rules.length ≤ 32) : (rulesF g x M p m).2 ≤ maxPacks + 33 := by
  have := rules_le (x := x) (M := M) (p := p) (l := g.rules.zipIdx) hm g.rules.length
  rw [List.take_of_length_le (by simp)] at this
  unfold rulesF; omega

theorem foldlM_inv {α σ : Type} {f : σ → α → Option σ} {P : σ → Prop} : ∀ (l : List α) (s s' : σ), l.foldlM f s = some s' → P s → (∀ s a s1, P s → a ∈ l → f s a = some s1 → P s1) → P s'
  | [], s, s', h, hp, _ => by injection h with h; rw [← h]; exact hp
  | a :: l, s, s', h, hp, hf => by
    rw [List.foldlM_cons] at h
    cases h1 : f s a with
    | none => rw [h1] at h; cases h
    | some s1 =>
      rw [h1] at h
      exact foldlM_inv l s1 s' h (hf s a s1 hp (List.mem_cons_self ..) h1) (fun s b s1 hs hb => hf s b s1 hs (List.mem_cons_of_mem _ hb))

theorem reachF_inv {U : List Part} (hU : ∀ p ∈ U, p.y.t = false → ∀ m, ∀ v ∈ (rulesF g x M p m).1, ∀ k ∈ v.kids, k ∈ U) {P : RS → Prop}
    (ht : ∀ p s, P s → p ∈ U → alook s.ways p = none → s.many ≤ maxPacks → P ⟨aput s.ways p [], s.many⟩) (hn : ∀ p s, P s → p ∈ U → p.y.t = false → alook s.ways p = none → s.many ≤ maxPacks → P ⟨aput s.ways p (rulesF g x M p s.many).1, (rulesF g x M p s.many).2⟩) :
    ∀ (f : Nat) (p : Part) (s s' : RS), reachF g x M f p s = some s' → p ∈ U → P s → P s'
  | 0, p, s, s', h, _, _ => by rw [reachF] at h; cases h
  | f + 1, p, s, s', h, hp, hs => by
    rw [reachF] at h
    by_cases h1 : (alook s.ways p).isSome = true ∨ maxPacks < s.many
    · rw [if_pos h1] at h; injection h with h; rw [← h]; exact hs
    · rw [if_neg h1] at h
      have hnn : alook s.ways p = none := by
        cases h2 : alook s.ways p with
        | none => rfl
        | some v => exact absurd (.inl (by rw [h2]; rfl)) h1
      have hmm : s.many ≤ maxPacks := by
        rcases Nat.lt_or_ge maxPacks s.many with h2 | h2
        · exact absurd (.inr h2) h1
        · exact h2
      by_cases h2 : p.y.t = true
      · rw [if_pos h2] at h; injection h with h; rw [← h]; exact ht p s hs hp hnn hmm
      · rw [if_neg h2] at h
        have h2' : p.y.t = false := by simpa using h2
        have hp2 := hU p hp h2' s.many
        have h3 := hn p s hs hp h2' hnn hmm
        generalize rulesF g x M p s.many = r at h hp2 h3
        refine foldlM_inv r.1 _ s' h h3 fun s1 v s2 hs1 hv h4 => ?_
        exact foldlM_inv v.kids s1 s2 h4 hs1 fun s3 k s4 hs3 hk h5 => reachF_inv hU ht hn f k s3 s4 h5 (hp2 v hv k hk) hs3

/-- all parts -/
def symsF (g : Gram) : List Sym := (List.range g.terms.toNat).map (fun n => ⟨true, (n : Int)⟩) ++ (List.range g.nons.toNat).map (fun n => ⟨false, (n : Int)⟩)
def partsF (g : Gram) (x : List Int) : List Part := (symsF g).flatMap fun y => (List.range (x.length + 1)).flatMap fun i => (List.range (x.length + 1)).map fun j => ⟨y, i, j⟩
theorem mem_partsF {p : Part} (h : OkPart g x p) : p ∈ partsF g x := by
  obtain ⟨⟨t, n⟩, i, j⟩ := p
  have h1 := h.sym.n0
  have h2 := h.i
  have h3 := h.j
  simp only at h1 h2 h3
  unfold partsF symsF
  simp only [List.mem_flatMap, List.mem_append, List.mem_map, List.mem_range]
  refine ⟨⟨t, n⟩, ?_, i, by omega, j, by omega, rfl⟩
  cases t
  · right
    have := h.sym.nn rfl
    simp only at this
    exact ⟨n.toNat, by omega, by congr 1; omega⟩
  · left
    have := h.sym.nt rfl
    simp only at this
    exact ⟨n.toNat, by omega, by congr 1; omega⟩
theorem of_partsF {p : Part} (h : p ∈ partsF g x) : 0 ≤ p.y.n ∧ (p.y.n < g.terms ∨ p.y.n < g.nons) ∧ p.i ≤ x.length ∧ p.j ≤ x.length := by
  unfold partsF symsF at h
  simp only [List.mem_flatMap, List.mem_append, List.mem_map, List.mem_range] at h
  obtain ⟨y, hy, i, hi, j, hj, rfl⟩ := h
  simp only
  rcases hy with ⟨n, hn, rfl⟩ | ⟨n, hn, rfl⟩ <;> simp only <;> omega
theorem partsF_len (hv : Valid g) (hx : x.length ≤ 12) : (partsF g x).length ≤ 3042 := by
  have key : ∀ (l : List Sym), (l.flatMap fun y => (List.range (x.length + 1)).flatMap fun i => (List.range (x.length + 1)).map fun j => (⟨y, i, j⟩ : Part)).length = l.length * ((x.length + 1) * (x.length + 1)) := by
    intro l
    induction l with
    | nil => simp
    | cons a l ih =>
      have hin : ∀ (l1 : List Nat), (l1.flatMap fun i => (List.range (x.length + 1)).map fun j => (⟨a, i, j⟩ : Part)).length = l1.length * (x.length + 1) := by
        intro l1
        induction l1 with
        | nil => simp
        | cons b l1 ih1 => rw [List.flatMap_cons, List.length_append, ih1, List.length_map, List.length_range, List.length_cons, Nat.add_mul, Nat.one_mul, Nat.add_comm]
      rw [List.flatMap_cons, List.length_append, ih, List.length_cons, hin, List.length_range, Nat.add_mul l.length, Nat.one_mul, Nat.add_comm]
  unfold partsF
  rw [key]
  have hs : (symsF g).length ≤ 18 := by
    unfold symsF
    have := hv.t8
    have := hv.n10
    simp; omega
  have h1 : (x.length + 1) * (x.length + 1) ≤ 13 * 13 := Nat.mul_le_mul (by omega) (by omega)
  exact Nat.le_trans (Nat.mul_le_mul hs h1) (by decide)

def rootF (g : Gram) (x : List Int) : Part := ⟨⟨false, g.start⟩, 0, x.length⟩
/-- the forest of some ends, and the error -/
def madeF (g : Gram) (x : List Int) (M : List (List Nat)) : ForD × Int :=
  if (entry M g.start 0).testBit x.length = false then (⟨[], -1⟩, 0) else
    match reachF g x M 4000 (rootF g x) ⟨[], 0⟩ with
    | none => (⟨[], 0⟩, 2)
    | some s => if maxPacks < s.many then (⟨[], 0⟩, 2) else (forestF s (rootF g x), 0)

structure ReachOk (g : Gram) (x : List Int) (s : RS) : Prop where
  ne : s.ways ≠ []
  ok : ∀ p ∈ s.ways.map (·.1), OkB p
  len : s.ways.length ≤ 100000
  wys : ∀ k vs, alook s.ways k = some vs → vs.length ≤ 100000 ∧ ∀ v ∈ vs, v.rule ≤ 1000 ∧ v.kids.length ≤ 4

theorem root_ok (hv : Valid g) : OkPart g x (rootF g x) := ⟨⟨hv.s0, fun h => (by cases h), fun _ => hv.s1⟩, Nat.zero_le _, Nat.le_refl _⟩

theorem reach_root (hv : Valid g) (hx : x.length ≤ 12) : ∃ s, reachF g x M 4000 (rootF g x) ⟨[], 0⟩ = some s ∧ ReachOk g x s := by
  have hU : ∀ p ∈ partsF g x, p.y.t = false → ∀ m, ∀ v ∈ (rulesF g x M p m).1, ∀ k ∈ v.kids, k ∈ partsF g x := fun p hp _ m v hv2 k hk => by
    have h1 := of_partsF hp
    have h2 := (rulesF_ok hv h1.2.2.1 h1.2.2.2 m v hv2).ok k hk
    exact mem_partsF ⟨h2.1, h2.2.1, h2.2.2⟩
  have hl := partsF_len hv hx
  have hr := mem_partsF (root_ok (x := x) hv)
  obtain ⟨s, h1, h2, _⟩ := reachF_some (M := M) hU 4000 (rootF g x) ⟨[], 0⟩ hr ⟨by simp, by simp⟩ (by simp; omega)
  refine ⟨s, h1, ?_⟩
  have hkl := nodup_sub_len _ _ h2.nodup h2.sub
  rw [List.length_map] at hkl
  have hlen := hv.len
  have hw : ∀ k vs, alook s.ways k = some vs → vs.length ≤ 100000 ∧ ∀ v ∈ vs, v.rule ≤ 1000 ∧ v.kids.length ≤ 4 := by
    refine reachF_inv (M := M) hU (P := fun s => ∀ k vs, alook s.ways k = some vs → vs.length ≤ 100000 ∧ ∀ v ∈ vs, v.rule ≤ 1000 ∧ v.kids.length ≤ 4) ?_ ?_ 4000 (rootF g x) _ s h1 hr (by simp [alook])
    · intro p s hs _ _ _ k vs hk
      rw [alook_put] at hk
      split at hk
      · injection hk with hk; rw [← hk]; simp
      · exact hs k vs hk
    · intro p s hs hp _ _ hm k vs hk
      simp only at hk
      rw [alook_put] at hk
      split at hk
      · injection hk with hk
        rw [← hk]
        have h5 := rulesF_more (g := g) (x := x) (M := M) p s.many
        have h6 := rulesF_le (g := g) (x := x) (M := M) (p := p) hm hlen
        have h7 := of_partsF hp
        unfold maxPacks at h6
        exact ⟨by omega, fun v hv2 => ⟨by have := h5.2 v hv2; omega, (rulesF_ok hv h7.2.2.1 h7.2.2.2 s.many v hv2).short⟩⟩
      · exact hs k vs hk
  refine ⟨?_, fun p hp => ?_, by omega, hw⟩
  · intro e
    rw [show (4000 : Nat) = 3999 + 1 from rfl, reachF, if_neg (by simp [alook, maxPacks]), if_neg (by simp [rootF])] at h1
    have := foldlM_inv (P := fun s : RS => s.ways ≠ []) _ _ s h1 (by simp [aput]) fun s1 v s2 hs1 _ h4 => foldlM_inv (P := fun s : RS => s.ways ≠ []) v.kids s1 s2 h4 hs1 fun s3 k s4 hs3 _ h5 => ?_
    · exact this e
    · clear h1 h2 hw
      have hg : ∀ (f : Nat) (p : Part) (s s' : RS), reachF g x M f p s = some s' → s.ways ≠ [] → s'.ways ≠ [] := by
        intro f
        induction f with
        | zero => intro p s s' h; rw [reachF] at h; cases h
        | succ f ih =>
          intro p s s' h hs
          have hap : ∀ {ν : Type} (l : List (Part × ν)) (k : Part) (v : ν), aput l k v ≠ [] := fun l k v => by cases l with
            | nil => simp [aput]
            | cons a l => obtain ⟨a, b⟩ := a; unfold aput; split <;> simp
          rw [reachF] at h
          split at h
          · injection h with h; rw [← h]; exact hs
          · split at h
            · injection h with h; rw [← h]; exact hap _ _ _
            · exact foldlM_inv (P := fun s : RS => s.ways ≠ []) _ _ s' h (hap _ _ _) fun s1 v s2 hs1 _ h4 => foldlM_inv (P := fun s : RS => s.ways ≠ []) v.kids s1 s2 h4 hs1 fun s3 k s4 hs3 _ h5 => ih k s3 s4 h5 hs3
      exact hg _ k s3 s4 h5 hs3
  · have h3 := of_partsF (h2.sub p hp)
    have := hv.t8
    have := hv.n10
    exact ⟨h3.1, by omega, by omega, by omega⟩
end
end Go.Proofs.YtdbkbkopcnkgcaaGreat

open Go Go.RowKit
open Go.ChangeMaps (setBlock)
namespace Go.Proofs.YtdbkbkopcnkgcaaGreat

section
variable {bm : Nat} {g : Gram} {x : List Int} {M : List (List Nat)} {A : Option Addr} {c : Nat} {B : Option Addr} {d : Nat} {C : Option Addr} {q : Nat}

/-- what made leaves -/
def MEnd (w w' : World) (bm : Nat) (e : Ending) (r : ForD × Int) : Prop := ∃ N cn, e = .returned (.tuple #[.agg #[.slice N r.1.nodes.length cn, .int .i64 r.1.root], .int .i64 r.2]) ∧ Away w.heap.size (fun b => b = bm) w w' ∧ IsSl Elt.node (fun b => w.heap.size ≤ b) w' (.slice N r.1.nodes.length cn) r.1.nodes

set_option maxRecDepth 100000 in
set_option maxHeartbeats 800000 in
theorem maker_made_any (hv : Valid g) (hxl : x.length ≤ 12) (hsh : MShape g x M) (hlow : MLow M) (w : World) (hs : MkAt (fun b => b ≠ bm) w bm g x M A c B d C q (.map none) 0) :
    Calls Tryz.prog 18 #[.pointer (some ⟨bm, 0, none⟩)] w fun e w' => MEnd w w' bm e (madeF g x M) := by
  have hbm := blk_lt hs.blk
  have hbA : Below w.heap.size w (w.alloc (.cells #[.slice none 0 0, .int .i64 0] 31)) := (Below.refl _ _).alloc (Nat.le_refl _) _
  have hfo := heap_alloc_new w (.cells #[.slice none 0 0, .int .i64 0] 31)
  have hs1 := hs.below hbA
  have hk2 := blk_cell hs1.blk (i := 2) rfl
  have hk4 := blk_cell hs1.blk (i := 4) rfl
  have hk5 := blk_cell hs1.blk (i := 5) rfl
  have hs0 := hv.s0
  have hs1' := hv.s1
  have hMl : (M.length : Int) = g.nons := hsh.len
  go_enter Tryz.func18, Tryz.ntmps18
  go_wp2_with fail
  go_region
  have hbB : Below w.heap.size w ((w.alloc (.cells #[.slice none 0 0, .int .i64 0] 31)).alloc (.cells #[.bool false, .int .i64 g.start, .int .i64 0, .int .i64 x.length] 106)).drew := ((hbA.alloc hbA.size _)).drew
  have hfo2 : ((w.alloc (.cells #[.slice none 0 0, .int .i64 0] 31)).alloc (.cells #[.bool false, .int .i64 g.start, .int .i64 0, .int .i64 x.length] 106)).drew.heap[w.heap.size]? = some (.cells #[.slice none 0 0, .int .i64 0] 31) := by
    rw [drew_heap, Below.heap_alloc _ _ _ (by simp), heap_alloc_new]
  have hbx2 : ((w.alloc (.cells #[.slice none 0 0, .int .i64 0] 31)).alloc (.cells #[.bool false, .int .i64 g.start, .int .i64 0, .int .i64 x.length] 106)).drew.heap[w.heap.size + 1]? = some (.cells #[.bool false, .int .i64 g.start, .int .i64 0, .int .i64 x.length] 106) := by
    rw [drew_heap, show w.heap.size + 1 = (w.alloc (.cells #[.slice none 0 0, .int .i64 0] 31)).heap.size by simp, heap_alloc_new]
  generalize ((w.alloc (.cells #[.slice none 0 0, .int .i64 0] 31)).alloc (.cells #[.bool false, .int .i64 g.start, .int .i64 0, .int .i64 x.length] 106)).drew = W2 at hbB hfo2 hbx2 ⊢
  clear hk2 hk4 hk5 hfo hs1 hbA
  have hs2 := hs.below hbB
  obtain ⟨b, o, rfl, hF, hl2, A2, c2, hc6, hro⟩ := hs2.mat.rowAt g.start.toNat (by omega)
  have hrl := hsh.row M[g.start.toNat] (by simp)
  obtain ⟨b3, o3, rfl, hF3, hl3, hc7⟩ := hro.oneAt 0 (by omega)
  have hen : entry M g.start 0 = M[g.start.toNat][0] := by simp [entry, List.getD_eq_getElem?_getD, List.getElem?_eq_getElem (show g.start.toNat < M.length by omega), List.getElem?_eq_getElem (show 0 < M[g.start.toNat].length by omega)]
  have hlt32 := entry_lt hsh g.start 0
  rw [← hen] at hc7
  have q2 := cell_behind (blk_cell hs2.blk (i := 2) rfl)
  have q4 := cell_behind (blk_cell hs2.blk (i := 4) rfl)
  have q5 := cell_behind (blk_cell hs2.blk (i := 5) rfl)
  have q6 := cell_behind hc6
  have q7 := cell_behind hc7
  have hrl0 : 0 < M[g.start.toNat].length := by omega
  have hstz : g.start < (M.length : Int) := by omega
  simp only [Nat.add_zero] at q7
  clear hen
  have hbt := bit_test (entry M g.start 0) x.length hlt32
  cases hbit : (entry M g.start 0).testBit x.length
  · rw [hbit] at hbt
    have HMF := Lib.hid (show madeF g x M = (⟨[], -1⟩, 0) by unfold madeF; rw [if_pos hbit])
    clear hbit
    go_wp2_with fail
    refine wp_region_behind (by kernel_rfl) (by kernel_rfl) ?_
    repeat (go_big_quiet_step (fail))
    refine wpQuiet_nil ?_
    intro _ hw'
    obtain ⟨P2, hw''⟩ := hw'
    subst hw''
    have hbP := P2.h
    generalize P2.w' = W3 at hbP ⊢
    clear q2 q4 q5 q6 q7 hbt
    have hfo3 := blk_below hbP (blk_lt hfo2) hfo2
    have hf0 : W3.frozen? ⟨w.heap.size, 0, none⟩ = false := blk_free hfo3
    have hf1 : W3.frozen? ⟨w.heap.size, 1, none⟩ = false := blk_free hfo3
    have hc0 := blk_cell hfo3 (i := 0) rfl
    have hc1 := blk_cell hfo3 (i := 1) rfl
    have hb3 := hbB.trans (hbP.mono hbB.size)
    have hfin : ((W3.setCell ⟨w.heap.size, 0, none⟩ (.slice none 0 0)).setCell ⟨w.heap.size, 1, none⟩ (.int .i64 (-1))).heap[w.heap.size]? = some (.cells #[.slice none 0 0, .int .i64 (-1)] 31 (0, 0)) := by
      rw [heap_set (heap_set hfo3 _ _)]; rfl
    go_wp2_with fail
    refine bodyPost_ret (results_cell_tmp rfl rfl (run_loadVar_row _ w.heap.size 31 31 #[.slice none 0 0, .int .i64 (-1)] (0, 0) _ hfin Tryz.underlying31 rfl (by kernel_rfl))) rfl ?_
    rw [HMF.out]
    exact ⟨none, 0, rfl, (Away.ofBelow ((hb3.setCell (Nat.le_refl _) _).setCell (Nat.le_refl _) _)), none, 0, rfl, by simp, fun k hk => absurd hk (by simp)⟩
  · rw [hbit] at hbt
    obtain ⟨s, hrs, hok⟩ := reach_root (M := M) hv hxl
    have hmf : madeF g x M = if maxPacks < s.many then (⟨[], 0⟩, 2) else (forestF s (rootF g x), 0) := by unfold madeF; rw [if_neg (by rw [hbit]; simp), hrs]
    have HMF := Lib.hid hmf
    clear hbit hmf
    go_wp2_with fail
    refine wp_region_behind (by kernel_rfl) (by kernel_rfl) ?_
    repeat (go_big_quiet_step (fail))
    refine wpQuiet_nil ?_
    intro _ hw'
    obtain ⟨P2, hw''⟩ := hw'
    subst hw''
    have hbP := P2.h
    generalize P2.w' = W3 at hbP ⊢
    clear q2 q4 q5 q6 q7 hbt hro hc6 hc7
    have hfo3 := blk_below hbP (blk_lt hfo2) hfo2
    have hbx3 := blk_below hbP (blk_lt hbx2) hbx2
    have hb3 : Below w.heap.size w W3 := hbB.trans (hbP.mono hbB.size)
    have hs3 := hs.below hb3
    have hx3 := blk_lt hbx3
    have hmm : (Instr.makeMap 54 none).run Tryz.prog W3 = .ok (.map (some W3.heap.size)) (W3.alloc (.map #[] 0)) := rfl
    have hk6 : (W3.alloc (.map #[] 0)).cell? ⟨bm, 6, none⟩ = some (.map none) := cell_alloc_old (blk_cell hs3.blk (i := 6) rfl) _
    have hf6 : (W3.alloc (.map #[] 0)).frozen? ⟨bm, 6, none⟩ = false := blk_free ((Below.heap_alloc _ _ _ (blk_lt hs3.blk)).trans hs3.blk)
    have hbm3 := blk_lt hs3.blk
    have hk4 : ∀ b, b ≠ bm → b < W3.heap.size → ((W3.setCell ⟨bm, 6, none⟩ (.map (some W3.heap.size))).alloc (.map #[] 0)).heap[b]? = W3.heap[b]? := fun b hb hl => (Below.heap_alloc _ _ _ (by rw [size_setCell]; exact hl)).trans (heap_set_ne hb _ _)
    have hle4 : W3.heap.size ≤ ((W3.setCell ⟨bm, 6, none⟩ (.map (some W3.heap.size))).alloc (.map #[] 0)).heap.size := by rw [World.size_alloc, size_setCell]; omega
    have hR : RAt ((W3.setCell ⟨bm, 6, none⟩ (.map (some W3.heap.size))).alloc (.map #[] 0)) bm W3.heap.size g x M A c B d (some ⟨b, o, none⟩) q ⟨[], 0⟩ := by
      have hap : ∀ {α : Type} {e : Elt α} {u : Value} {l : List α}, IsSl e (fun b => b ≠ bm) W3 u l → IsSl e (fun b => b ≠ bm ∧ b ≠ W3.heap.size) ((W3.setCell ⟨bm, 6, none⟩ (.map (some W3.heap.size))).alloc (.map #[] 0)) u l := fun h => (h.old.keep (fun b hb => hk4 b hb.1 hb.2) hle4).weak fun b hb => ⟨hb.1, by omega⟩
      refine ⟨by omega, ⟨?_, hap hs3.rules, hap hs3.word, hap hs3.mat⟩, ⟨[], ?_, rfl, by simp [alook]⟩, by simp⟩
      · rw [Below.heap_alloc _ _ _ (by rw [size_setCell]; exact hbm3), heap_set hs3.blk]; rfl
      · have := IsMap.new partV hdrV (W3.setCell ⟨bm, 6, none⟩ (.map (some W3.heap.size)))
        rw [size_setCell] at this
        exact this
    have hbx4 : ((W3.setCell ⟨bm, 6, none⟩ (.map (some W3.heap.size))).alloc (.map #[] 0)).heap[w.heap.size + 1]? = _ := (hk4 _ (by omega) hx3).trans hbx3
    have hfo4 : ((W3.setCell ⟨bm, 6, none⟩ (.map (some W3.heap.size))).alloc (.map #[] 0)).heap[w.heap.size]? = _ := (hk4 _ (by omega) (blk_lt hfo3)).trans hfo3
    have ha4 : Away w.heap.size (fun b => b = bm) w ((W3.setCell ⟨bm, 6, none⟩ (.map (some W3.heap.size))).alloc (.map #[] 0)) := ((Away.ofBelow hb3).trans (Away.setCell (F := fun b => b = bm) W3 bm 6 (.map (some W3.heap.size)) (.inl rfl))).trans (Away.ofBelow ((Below.refl _ _).alloc (by rw [size_setCell]; exact hb3.size) _))
    have v0 := blk_cell hbx4 (i := 0) rfl
    have v1 := blk_cell hbx4 (i := 1) rfl
    have v2 := blk_cell hbx4 (i := 2) rfl
    have v3 := blk_cell hbx4 (i := 3) rfl
    have hreach := reach_any (A := A) (c := c) (B := B) (d := d) (C := some ⟨b, o, none⟩) (q := q) (bm := bm) (r := W3.heap.size) hv hxl hsh hlow 4000 (rootF g x) ⟨[], 0⟩ s _ hrs (root_ok hv) hR
    unfold partV rootF at hreach
    rw [show ((0 : Nat) : Int) = 0 from rfl] at hreach
    clear hk4 hbx3 hfo3
    go_wp2_with fail
    with_reducible refine hreach.mono ?_
    rintro e5 w5 ⟨rfl, hs5, ha5⟩
    have hF5 : ∀ b, b < W3.heap.size → b ≠ bm → ¬ (b = bm ∨ b = W3.heap.size) := fun b h1 h2 => by omega
    have hfo5 := (ha5.block _ (blk_lt hfo4) (hF5 _ (by omega) (by omega))).trans hfo4
    have hbx5 := (ha5.block _ (blk_lt hbx4) (hF5 _ (by omega) (by omega))).trans hbx4
    have hk7 := blk_cell hs5.mker.blk (i := 7) rfl
    have hf0 : w5.frozen? ⟨w.heap.size, 0, none⟩ = false := blk_free hfo5
    have hf1 : w5.frozen? ⟨w.heap.size, 1, none⟩ = false := blk_free hfo5
    have hc0 := blk_cell hfo5 (i := 0) rfl
    have hc1 := blk_cell hfo5 (i := 1) rfl
    have ha6 : Away w.heap.size (fun b => b = bm) w w5 := ha4.trans (ha5.mono (Nat.le_trans hb3.size hle4) (fun j hj e => by rcases e with e | e; exact e; omega))
    have u0 := blk_cell hbx5 (i := 0) rfl
    have u1 := blk_cell hbx5 (i := 1) rfl
    have u2 := blk_cell hbx5 (i := 2) rfl
    have u3 := blk_cell hbx5 (i := 3) rfl
    clear v0 v1 v2 v3 hreach hk6 hf6 hmm
    by_cases hgt : maxPacks < s.many
    · have hgz : (20000 : Int) < (s.many : Int) := by unfold maxPacks at hgt; omega
      have HGT := Lib.hid hgt
      clear hgt
      have hfin : ((w5.setCell ⟨w.heap.size, 0, none⟩ (.slice none 0 0)).setCell ⟨w.heap.size, 1, none⟩ (.int .i64 0)).heap[w.heap.size]? = some (.cells #[.slice none 0 0, .int .i64 0] 31 (0, 0)) := by
        rw [heap_set (heap_set hfo5 _ _)]; rfl
      go_wp2_with fail
      refine bodyPost_ret (results_cell_tmp rfl rfl (run_loadVar_row _ w.heap.size 31 31 #[.slice none 0 0, .int .i64 0] (0, 0) _ hfin Tryz.underlying31 rfl (by kernel_rfl))) rfl ?_
      rw [HMF.out, if_pos HGT.out]
      exact ⟨none, 0, rfl, (ha6.trans (Away.setCell _ _ _ _ (.inr (Nat.le_refl _)))).trans (Away.setCell _ _ _ _ (.inr (Nat.le_refl _))), none, 0, rfl, by simp, fun k hk => absurd hk (by simp)⟩
    · have hgz : decide ((20000 : Int) < (s.many : Int)) = false := by unfold maxPacks at hgt; simp; omega
      have HGT := Lib.hid hgt
      clear hgt
      have hfor := forest_any (rootF g x) w5 hs5 hok.ne hok.ok hok.len hok.wys
      unfold partV rootF at hfor
      rw [show ((0 : Nat) : Int) = 0 from rfl] at hfor
      go_wp2_with fail
      with_reducible refine hfor.mono ?_
      rintro e7 w7 ⟨N, cn, rfl, hb7, hsl7⟩
      have hfo7 := blk_below hb7 (blk_lt hfo5) hfo5
      have hg0 : w7.frozen? ⟨w.heap.size, 0, none⟩ = false := blk_free hfo7
      have hg1 : w7.frozen? ⟨w.heap.size, 1, none⟩ = false := blk_free hfo7
      have hd0 := blk_cell hfo7 (i := 0) rfl
      have hd1 := blk_cell hfo7 (i := 1) rfl
      have hws5 : w.heap.size < w5.heap.size := blk_lt hfo5
      have HFF := Lib.hid (show forestF s (rootF g x) = forestF s ⟨⟨false, g.start⟩, 0, x.length⟩ from rfl)
      generalize forestF s ⟨⟨false, g.start⟩, 0, x.length⟩ = fd at hsl7 HFF ⊢
      have hfin : ((w7.setCell ⟨w.heap.size, 0, none⟩ (.slice N fd.nodes.length cn)).setCell ⟨w.heap.size, 1, none⟩ (.int .i64 fd.root)).heap[w.heap.size]? = some (.cells #[.slice N fd.nodes.length cn, .int .i64 fd.root] 31 (0, 0)) := by
        rw [heap_set (heap_set hfo7 _ _)]; rfl
      go_wp2_with fail
      refine bodyPost_ret (results_cell_tmp rfl rfl (run_loadVar_row _ w.heap.size 31 31 #[.slice N fd.nodes.length cn, .int .i64 fd.root] (0, 0) _ hfin Tryz.underlying31 rfl (by kernel_rfl))) rfl ?_
      rw [HMF.out, if_neg HGT.out, HFF.out]
      refine ⟨N, cn, rfl, ((ha6.trans ((Away.ofBelow hb7).mono ha6.size (fun _ _ h => h))).trans (Away.setCell _ _ _ _ (.inr (Nat.le_refl _)))).trans (Away.setCell _ _ _ _ (.inr (Nat.le_refl _))), ?_⟩
      exact (hsl7.keep (fun b hb => by rw [heap_set_ne (by omega), heap_set_ne (by omega)]) (by rw [size_setCell, size_setCell]; exact Nat.le_refl _)).weak fun b hb => by omega
end
end Go.Proofs.YtdbkbkopcnkgcaaGreat
