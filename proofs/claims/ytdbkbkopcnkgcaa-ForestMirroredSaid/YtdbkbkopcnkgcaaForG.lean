import Derived.Test.YtdbkbkopcnkgcaaForF
open Go Go.RowKit
open Go.ChangeMaps (setBlock)
namespace Go.Proofs.Ytdbkbkopcnkgcaa

theorem Try.zeroWays (w : World) : (zeroValue 204).run Try.prog w = .ok (.slice none 0 0) w := by kernel_rfl

/-- reach's state -/
structure RAt (w : World) (bm r : Nat) (g : Gram) (x : List Int) (M : List (List Nat)) (A : Option Addr) (c : Nat) (B : Option Addr) (d : Nat) (C : Option Addr) (q : Nat) (s : RS) : Prop where
  ne : bm ≠ r
  mker : MkAt (fun b => b ≠ bm ∧ b ≠ r) w bm g x M A c B d C q (.map (some r)) s.many
  map : ∃ l : List (Part × Hdr), IsMap partV hdrV w r l ∧ l.map (·.1) = s.ways.map (·.1) ∧ ∀ k h v, alook l k = some h → alook s.ways k = some v → IsSl Elt.way (fun b => b ≠ bm ∧ b ≠ r) w (hdrV h) v
  small : s.many ≤ maxPacks + 33

section
variable {w w' : World} {bm r : Nat} {g : Gram} {x : List Int} {M : List (List Nat)} {A : Option Addr} {c : Nat} {B : Option Addr} {d : Nat} {C : Option Addr} {q : Nat} {s : RS} {p : Part}

theorem RAt.below (hs : RAt w bm r g x M A c B d C q s) (hb : Below w.heap.size w w') : RAt w' bm r g x M A c B d C q s := by
  obtain ⟨l, h1, h2, h3⟩ := hs.map
  exact ⟨hs.ne, hs.mker.below hb, ⟨l, h1.below hb, h2, fun k h v hk hv => (h3 k h v hk hv).below hb⟩, hs.small⟩

theorem alook_keys {κ ν μ : Type} [DecidableEq κ] : ∀ (l : List (κ × ν)) (m : List (κ × μ)), l.map (·.1) = m.map (·.1) → ∀ k, (alook l k).isSome = (alook m k).isSome
  | [], [], _, _ => rfl
  | [], _ :: _, h, _ => by simp at h
  | _ :: _, [], h, _ => by simp at h
  | (a, b) :: l, (a', b') :: m, h, k => by
    simp only [List.map_cons, List.cons.injEq] at h
    obtain ⟨rfl, h⟩ := h
    unfold alook
    by_cases e : a = k
    · simp [e]
    · simp only [e, if_false]; exact alook_keys l m h k

/-- what reach leaves -/
def REnd (w w' : World) (bm r : Nat) (g : Gram) (x : List Int) (M : List (List Nat)) (A : Option Addr) (c : Nat) (B : Option Addr) (d : Nat) (C : Option Addr) (q : Nat) (s : RS) : Prop := RAt w' bm r g x M A c B d C q s ∧ Away w.heap.size (fun b => b = bm ∨ b = r) w w'

/-- reach, at a part that is known, or with too many packs -/
theorem reach_known (p : Part) (w : World) (hs : RAt w bm r g x M A c B d C q s) (hk : (alook s.ways p).isSome = true ∨ maxPacks < s.many) :
    Calls Try.prog 100 #[.pointer (some ⟨bm, 0, none⟩), partV p] w fun e w' => e = .returned (.tuple #[]) ∧ REnd w w' bm r g x M A c B d C q s := by
  obtain ⟨l, hm, hkeys, hrd⟩ := hs.map
  have hkk := alook_keys l s.ways hkeys p
  have hbA : Below w.heap.size w (w.alloc (.cells #[.bool p.y.t, .int .i64 p.y.n, .int .i64 p.i, .int .i64 p.j] 177)) := (Below.refl _ _).alloc (Nat.le_refl _) _
  have hs1 := hs.below hbA
  have hbx := heap_alloc_new w (.cells #[.bool p.y.t, .int .i64 p.y.n, .int .i64 p.i, .int .i64 p.j] 177)
  have hk6 := cell_behind (blk_cell hs1.mker.blk (i := 6) rfl)
  have hb0 := cell_behind (blk_cell hbx (i := 0) rfl)
  have hb1 := cell_behind (blk_cell hbx (i := 1) rfl)
  have hb2 := cell_behind (blk_cell hbx (i := 2) rfl)
  have hb3 := cell_behind (blk_cell hbx (i := 3) rfl)
  have hlook : ∀ P : Behind (w.alloc (.cells #[.bool p.y.t, .int .i64 p.y.n, .int .i64 p.i, .int .i64 p.j] 177)), (Instr.lookup 107 (.map (some r)) (partV p) true).run Try.prog P.w' = .ok (.tuple #[((alook l p).map hdrV).getD (.slice none 0 0), .bool (alook l p).isSome]) P.w' := fun P => run_look_ok Try.partKey Try.underlying107 Try.zeroWays ((hm.below hbA).below P.h) p
  unfold partV at hlook ⊢
  have h7 := blk_cell hs1.mker.blk (i := 7) rfl
  cases hp : (alook l p).isSome
  · rw [hkk] at hp
    have hgt : maxPacks < s.many := by rcases hk with h | h; · rw [hp] at h; cases h
                                       · exact h
    have hgz : (20000 : Int) < (s.many : Int) := by unfold maxPacks at hgt; omega
    rw [← hkk] at hp
    rw [hp] at hlook
    generalize ((alook l p).map hdrV).getD (.slice none 0 0) = u at hlook
    clear hk hkk hp hkeys hrd hm hgt
    go_enter Try.func100, Try.ntmps100
    go_wp2_with fail
    refine wp_region_behind (by kernel_rfl) (by kernel_rfl) ?_
    repeat (go_big_quiet_step (fail))
    refine wpQuiet_nil ?_
    intro _ hw'
    obtain ⟨P2, hw''⟩ := hw'
    subst hw''
    have hbP := P2.h
    have h7P := cell_behind h7 P2
    clear hlook hk6 hb0 hb1 hb2 hb3 h7
    generalize P2.w' = W3 at hbP h7P ⊢
    go_wp2_with fail
    exact bodyPost_ret (v := .tuple #[]) (by kernel_rfl) rfl ⟨rfl, hs1.below hbP, Away.ofBelow (hbA.trans (hbP.mono (by simp)))⟩
  · rw [hp] at hlook
    generalize ((alook l p).map hdrV).getD (.slice none 0 0) = u at hlook
    clear hk hkk hp hkeys hrd hm
    go_enter Try.func100, Try.ntmps100
    go_wp2_with fail
    refine wp_region_behind (by kernel_rfl) (by kernel_rfl) ?_
    repeat (go_big_quiet_step (fail))
    refine wpQuiet_nil ?_
    intro _ hw'
    obtain ⟨P2, hw''⟩ := hw'
    subst hw''
    have hbP := P2.h
    clear hlook hk6 hb0 hb1 hb2 hb3 h7
    generalize P2.w' = W3 at hbP ⊢
    go_wp2_with fail
    exact bodyPost_ret (v := .tuple #[]) (by kernel_rfl) rfl ⟨rfl, hs1.below hbP, Away.ofBelow (hbA.trans (hbP.mono (by simp)))⟩

theorem IsSl.wayAt {F : Nat → Prop} {w : World} {A : Option Addr} {n c : Nat} {xs : List Way} (h : IsSl Elt.way F w (.slice A n c) xs) (k : Nat) (hk : k < xs.length) :
    ∃ b o, A = some ⟨b, o, none⟩ ∧ F b ∧ b < w.heap.size ∧ w.cell? ⟨b, o + k * 2, none⟩ = some (.int .i64 xs[k].rule) ∧
      ∃ A' c', w.cell? ⟨b, o + k * 2 + 1, none⟩ = some (.slice A' xs[k].kids.length c') ∧ IsSl Elt.fpart F w (.slice A' xs[k].kids.length c') xs[k].kids := by
  obtain ⟨A', c', he, hl, h⟩ := h
  injection he with h1 h2 h3
  subst h1
  obtain ⟨b, o, rfl, hb, hlt, he⟩ := h k hk
  obtain ⟨⟨_, h1⟩, _, A2, c2, h2, _, h3⟩ := he
  exact ⟨b, o, rfl, hb, hlt, h1, A2, c2, h2, h3⟩
/-- what lies apart from the two blocks is read as before -/
theorem sl_away {α : Type} {e : Elt α} {v : Value} {l : List α} (ha : Away w.heap.size (fun b => b = bm ∨ b = r) w w') (h : IsSl e (fun b => b ≠ bm ∧ b ≠ r) w v l) : IsSl e (fun b => b ≠ bm ∧ b ≠ r) w' v l :=
  (h.old.keep (fun b hb => ha.block b hb.2 (by rintro (e | e); exact hb.1.1 e; exact hb.1.2 e)) ha.size).weak fun b hb => hb.1
theorem drop_foldlM {α σ : Type} {f : σ → α → Option σ} {l : List α} {n : Nat} (h : n < l.length) {t s' : σ} (hd : (l.drop n).foldlM f t = some s') : ∃ t1, f t l[n] = some t1 ∧ (l.drop (n + 1)).foldlM f t1 = some s' := by
  rw [List.drop_eq_getElem_cons h, List.foldlM_cons] at hd
  cases h1 : f t l[n] with
  | none => rw [h1] at hd; cases hd
  | some t1 => rw [h1] at hd; exact ⟨t1, rfl, hd⟩

theorem foldl_take_snoc {α σ : Type} (f : σ → α → σ) (s : σ) (l : List α) (n : Nat) (h : n < l.length) : (l.take (n + 1)).foldl f s = f ((l.take n).foldl f s) l[n] := by
  rw [List.take_succ_eq_append_getElem h, List.foldl_append]; rfl
theorem ruleF_le {rn : Rule × Nat} {s : List Way × Nat} {n : Nat} (h : s.2 ≤ maxPacks + 1 + n) : (ruleF x M p s rn).2 ≤ maxPacks + 1 + (n + 1) := by
  unfold ruleF
  split
  · by_cases h2 : s.2 ≤ maxPacks
    · exact Nat.le_trans (splitF_le _ _ _ _ h2) (by omega)
    · cases hr : rn.1.r with
      | nil => rw [splitF_nil]; simp only; omega
      | cons y l => rw [splitF_cons, splitAt_stop (by omega)]; omega
  · omega
theorem rules_le {l : List (Rule × Nat)} {m : Nat} (hm : m ≤ maxPacks) : ∀ n, ((l.take n).foldl (ruleF x M p) ([], m)).2 ≤ maxPacks + 1 + n
  | 0 => by simp; omega
  | n + 1 => by
    by_cases h : n < l.length
    · rw [foldl_take_snoc _ _ _ _ h]; exact ruleF_le (rules_le hm n)
    · have h1 := rules_le (l := l) hm n
      rw [List.take_of_length_le (by omega)] at h1 ⊢; omega

/-- from reach's state to split's -/
theorem RAt.toSp {l : List (Part × Hdr)} {o : Obj} (hs : RAt w bm r g x M A c B d C q s) (_hm : IsMap partV hdrV w r l) (hput : IsMap partV hdrV (setBlock w r o) r (aput l p ((none, 0, 0) : Hdr))) : SpAt (setBlock w r o) bm r w.heap.size g x M A c B d C q l p [] s.many (none, 0, 0) := by
  have hk : ∀ b, b ≠ r → (setBlock w r o).heap[b]? = w.heap[b]? := fun b hb => setBlock_other _ _ _ hb
  have hle : w.heap.size ≤ (setBlock w r o).heap.size := by rw [setBlock_size]; exact Nat.le_refl _
  refine ⟨blk_lt hs.mker.blk, _hm.lt, hs.ne, hle, ⟨(hk _ hs.ne).trans hs.mker.blk, ?_, ?_, ?_⟩, hput, ⟨[], OwnWays.nil _ _⟩, by simp⟩
  · exact (hs.mker.rules.old.keep (fun b hb => hk b hb.1.2) hle).weak fun b hb => ⟨hb.2, hb.1.1, hb.1.2⟩
  · exact (hs.mker.word.old.keep (fun b hb => hk b hb.1.2) hle).weak fun b hb => ⟨hb.2, hb.1.1, hb.1.2⟩
  · exact (hs.mker.mat.old.keep (fun b hb => hk b hb.1.2) hle).weak fun b hb => ⟨hb.2, hb.1.1, hb.1.2⟩

/-- from split's state back to reach's -/
theorem SpAt.toR {l : List (Part × Hdr)} {o : Obj} {cur : List Way} {many : Nat} {h : Hdr} (hs : RAt w bm r g x M A c B d C q s) (hkeys : l.map (·.1) = s.ways.map (·.1)) (hrd : ∀ k h v, alook l k = some h → alook s.ways k = some v → IsSl Elt.way (fun b => b ≠ bm ∧ b ≠ r) w (hdrV h) v)
    (hst : SpStep (setBlock w r o) w' bm r (none, 0, 0) h) (hsp : SpAt w' bm r w.heap.size g x M A c B d C q l p cur many h) (hp : alook s.ways p = none) (hsm : many ≤ maxPacks + 33) :
    REnd w w' bm r g x M A c B d C q ⟨aput s.ways p cur, many⟩ := by
  have haw : Away w.heap.size (fun b => b = bm ∨ b = r) w w' := by
    have h1 : Away w.heap.size (fun b => b = bm ∨ b = r) w (setBlock w r o) := ⟨rfl, rfl, rfl, by rw [setBlock_size]; exact Nat.le_refl _, fun j _ hF => setBlock_other _ _ _ fun e => hF (.inr e)⟩
    refine h1.trans (hst.away.mono (by rw [setBlock_size]; exact Nat.le_refl _) fun j _ hF => ?_)
    rcases hF with hF | hF | hF
    · exact .inl hF
    · exact .inr hF
    · cases hF
  have hpl : alook l p = none := by
    have := alook_keys l s.ways hkeys p
    rw [hp] at this
    cases h : alook l p with
    | none => rfl
    | some v => rw [h] at this; cases this
  refine ⟨⟨hs.ne, ⟨hsp.mker.blk, hsp.mker.rules.weak (fun b hb => hb.2), hsp.mker.word.weak (fun b hb => hb.2), hsp.mker.mat.weak (fun b hb => hb.2)⟩, ⟨_, hsp.map, ?_, ?_⟩, hsm⟩, haw⟩
  · simp only
    rw [aput_new (alook_none.1 hpl), aput_new (alook_none.1 hp), List.map_append, List.map_append, hkeys]
    rfl
  · intro k h' v hk hv
    simp only at hv
    rw [alook_put] at hk hv
    by_cases e : p = k
    · rw [if_pos e] at hk hv
      injection hk with hk; injection hv with hv
      subst hk; subst hv
      obtain ⟨xs, ho⟩ := hsp.own
      have h1 := hsp.bml
      have h2 := hsp.rl
      exact ho.isSl.weak fun b hb => by omega
    · rw [if_neg e] at hk hv
      exact ((hrd k h' v hk hv).old.keep (fun b hb => haw.block b hb.2 (by rintro (e | e); exact hb.1.1 e; exact hb.1.2 e)) haw.size).weak fun b hb => hb.1

structure OkPart (g : Gram) (x : List Int) (p : Part) : Prop where
  sym : OkSym g p.y
  i : p.i ≤ x.length
  j : p.j ≤ x.length

set_option maxRecDepth 100000 in
set_option maxHeartbeats 3200000 in
theorem reach_any (hv : Valid g) (hxl : x.length ≤ 12) (hsh : MShape g x M) (hlow : MLow M) : ∀ (f : Nat) (p : Part) (s s' : RS) (w : World), reachF g x M f p s = some s' → OkPart g x p → RAt w bm r g x M A c B d C q s →
    Calls Try.prog 100 #[.pointer (some ⟨bm, 0, none⟩), partV p] w fun e w' => e = .returned (.tuple #[]) ∧ REnd w w' bm r g x M A c B d C q s' := by
  intro f
  induction f with
  | zero => intro p s s' w h; rw [reachF] at h; cases h
  | succ f ih =>
    intro p s s' w hf hok hs
    by_cases hk : (alook s.ways p).isSome = true ∨ maxPacks < s.many
    · rw [reachF, if_pos hk] at hf
      injection hf with hf
      subst hf
      exact reach_known p w hs hk
    · rw [reachF, if_neg hk] at hf
      have hp : alook s.ways p = none := by
        cases h : alook s.ways p with
        | none => rfl
        | some v => exact absurd (.inl (by rw [h]; rfl)) hk
      have hmm : s.many ≤ maxPacks := by
        rcases Nat.lt_or_ge maxPacks s.many with h | h
        · exact absurd (.inr h) hk
        · exact h
      obtain ⟨l, hm, hkeys, hrd⟩ := hs.map
      have hpl : alook l p = none := by
        have := alook_keys l s.ways hkeys p
        rw [hp] at this
        cases h : alook l p with
        | none => rfl
        | some v => rw [h] at this; cases this
      have hbA : Below w.heap.size w (w.alloc (.cells #[.bool p.y.t, .int .i64 p.y.n, .int .i64 p.i, .int .i64 p.j] 177)) := (Below.refl _ _).alloc (Nat.le_refl _) _
      have hs1 := hs.below hbA
      have hbx := heap_alloc_new w (.cells #[.bool p.y.t, .int .i64 p.y.n, .int .i64 p.i, .int .i64 p.j] 177)
      have hk6 := cell_behind (blk_cell hs1.mker.blk (i := 6) rfl)
      have hb0 := cell_behind (blk_cell hbx (i := 0) rfl)
      have hb1 := cell_behind (blk_cell hbx (i := 1) rfl)
      have hb2 := cell_behind (blk_cell hbx (i := 2) rfl)
      have hb3 := cell_behind (blk_cell hbx (i := 3) rfl)
      have hlook : ∀ P : Behind (w.alloc (.cells #[.bool p.y.t, .int .i64 p.y.n, .int .i64 p.i, .int .i64 p.j] 177)), (Instr.lookup 107 (.map (some r)) (partV p) true).run Try.prog P.w' = .ok (.tuple #[.slice none 0 0, .bool false]) P.w' := fun P => by
        have := run_look_ok Try.partKey Try.underlying107 Try.zeroWays ((hm.below hbA).below P.h) p
        rw [hpl] at this
        exact this
      unfold partV at hlook ⊢
      have h7 := blk_cell hs1.mker.blk (i := 7) rfl
      have hmz : decide ((20000 : Int) < (s.many : Int)) = false := by unfold maxPacks at hmm; simp; omega
      clear hk
      go_enter Try.func100, Try.ntmps100
      go_wp2_with fail
      refine wp_region_behind (by kernel_rfl) (by kernel_rfl) ?_
      repeat (go_big_quiet_step (fail))
      refine wpQuiet_nil ?_
      intro _ hw'
      obtain ⟨P2, hw''⟩ := hw'
      subst hw''
      have hbP := P2.h
      have h7P := cell_behind h7 P2
      clear hlook hk6 hb0 hb1 hb2 hb3 h7
      generalize P2.w' = W3 at hbP h7P ⊢
      have hb3 : Below w.heap.size w W3 := hbA.trans (hbP.mono (by simp))
      have hs3 := hs1.below hbP
      have hm3 := (hm.below hbA).below hbP
      have hrd3 : ∀ k h v, alook l k = some h → alook s.ways k = some v → IsSl Elt.way (fun b => b ≠ bm ∧ b ≠ r) W3 (hdrV h) v := fun k h v h1 h2 => (hrd k h v h1 h2).below hb3
      have hbx3 := blk_below hbP (by simp) hbx
      go_wp2_with fail
      clear h7P hmz
      have hk6 := blk_cell hs3.mker.blk (i := 6) rfl
      have hb30 := blk_cell hbx3 (i := 0) rfl
      have hb31 := blk_cell hbx3 (i := 1) rfl
      have hb32 := blk_cell hbx3 (i := 2) rfl
      have hb33 := blk_cell hbx3 (i := 3) rfl
      obtain ⟨o4, hput, hm4⟩ := (hm3.same (w' := W3.drew) rfl).put (P := Try.prog) Try.partKey Try.underlying107 p ((none, 0, 0) : Hdr)
      unfold partV hdrV at hput
      go_region
      have hs4 := hs3.below (w' := W3.drew) ((Below.refl _ _).drew)
      have hsp4 := hs4.toSp (hm3.same (w' := W3.drew) rfl) hm4
      have hb4 : Below w.heap.size w W3.drew := hb3.trans ((Below.refl _ _).drew.mono hb3.size)
      have hrd4 : ∀ k h v, alook l k = some h → alook s.ways k = some v → IsSl Elt.way (fun b => b ≠ bm ∧ b ≠ r) W3.drew (hdrV h) v := fun k h v h1 h2 => (hrd3 k h v h1 h2).below ((Below.refl _ _).drew)
      have hrne : w.heap.size ≠ r := fun e => by have := hm.lt; omega
      have hbx4 : (setBlock W3.drew r o4).heap[w.heap.size]? = _ := (setBlock_other _ _ _ hrne).trans hbx3
      have hrl := hm3.lt
      clear hk6 hb30 hb31 hb32 hb33 hput hs1 hbx hbA hm3 hrd3 hs3
      generalize hW4 : W3.drew = W4 at hm4 hs4 hsp4 hb4 hrd4 hbx4 ⊢
      have hW4l : r < W4.heap.size := by rw [← hW4]; exact hrl
      clear hW4 hbx3 hbP hb3
      have hb40 := blk_cell hbx4 (i := 0) rfl
      have hb41 := blk_cell hbx4 (i := 1) rfl
      have hb42 := blk_cell hbx4 (i := 2) rfl
      have hb43 := blk_cell hbx4 (i := 3) rfl
      have hk43 := blk_cell hsp4.mker.blk (i := 3) rfl
      cases hyt : p.y.t
      · rw [hyt] at hb40
        have hyn : p.y.n < (M.length : Int) := by have := hok.sym.nn hyt; have := hsh.len; omega
        rw [if_neg (by rw [hyt]; decide)] at hf
        have hi12 : p.i ≤ x.length := hok.i
        have hj12 : p.j ≤ x.length := hok.j
        have hbml := blk_lt hs.mker.blk
        have hrl0 := hm.lt
        have hws : w.heap.size ≤ W4.heap.size := hb4.size
        have hxW := blk_lt hbx4
        rw [setBlock_size] at hxW
        have h32 := hv.len
        clear hb41 hb42 hb43
        go_wp2_with fail
        clear hk43 hb40
        go_loopg [43] g.rules.length (fun gk i wr => ∃ n, n ≤ g.rules.length ∧ gk = g.rules.length - n ∧ i = .int .i64 n ∧ SpEnd (setBlock W4 r o4) wr bm r W4.heap.size g x M A c B d C q l p ((g.rules.zipIdx.take n).foldl (ruleF x M p) ([], s.many)) (none, 0, 0))
        case atStart => exact ⟨0, by omega, by omega, rfl, ⟨(none, 0, 0), SpStep.refl _ _ _ _, hsp4⟩⟩
        case round =>
          obtain ⟨n, hn, rfl, rfl, h2, hst2, hsp⟩ := hrel
          by_cases hlt : n < g.rules.length
          · have hstep := Lib.hid (foldl_take_snoc (ruleF x M p) ([], s.many) g.rules.zipIdx n (by simpa using hlt))
            have hle := rules_le (x := x) (M := M) (p := p) (l := g.rules.zipIdx) hmm n
            generalize (g.rules.zipIdx.take n).foldl (ruleF x M p) ([], s.many) = st at hsp hstep hle
            obtain ⟨sc, sm⟩ := st
            simp only at hsp hle
            obtain ⟨b, o, hA, hF, hl, hc1, A', c', hc2, hsy, hcap⟩ := hsp.mker.rules.ruleCap n hlt
            have hRn : g.rules[n]? = some g.rules[n] := List.getElem?_eq_getElem hlt
            have hokR := hv.ok g.rules[n] (by simp)
            rw [List.getElem_zipIdx, Nat.zero_add] at hstep
            have hnz : (n : Int) < (g.rules.length : Int) := by omega
            generalize g.rules[n] = R at hc1 hc2 hsy hcap hRn hokR hstep
            subst hA
            have hbxr := hst2.blk hbx4 (by
              rintro (hF | hF | hF)
              · omega
              · omega
              · cases hF)
            have hbA : Below wr.heap.size wr (wr.alloc (.cells #[.int .i64 R.l, .slice A' R.r.length c'] 47)) := (Below.refl _ _).alloc (Nat.le_refl _) _
            have hst3 := hst2.trans (SpStep.ofBelow bm r h2 hbA)
            have hsp3 := hsp.below hbA
            have hbx3 := blk_below hbA (blk_lt hbxr) hbxr
            have hrb := heap_alloc_new wr (.cells #[.int .i64 R.l, .slice A' R.r.length c'] 47)
            have hsy3 := hsy.below hbA
            have q0 := cell_behind (blk_cell hbx3 (i := 0) rfl)
            have q1 := cell_behind (blk_cell hbx3 (i := 1) rfl)
            have q2 := cell_behind (blk_cell hbx3 (i := 2) rfl)
            have q3 := cell_behind (blk_cell hbx3 (i := 3) rfl)
            have r0 := cell_behind (blk_cell hrb (i := 0) rfl)
            have r1 := cell_behind (blk_cell hrb (i := 1) rfl)
            have hss : ∀ z ∈ R.r, 0 ≤ z.n ∧ (z.t = false → z.n < (M.length : Int)) := fun z hz => ⟨(hokR.syms z hz).n0, fun ht => by have := (hokR.syms z hz).nn ht; have := hsh.len; omega⟩
            have hr32 := seqEnds_lt hsh.small hxl R.r (2 ^ p.i) (pow_lt13 (by omega))
            have hnot : ¬ (R.l = p.y.n ∧ (seqEnds x M R.r (2 ^ p.i)).testBit p.j = true) → (g.rules.zipIdx.take (n + 1)).foldl (ruleF x M p) ([], s.many) = (sc, sm) := fun h => by rw [hstep.out]; unfold ruleF; rw [if_neg h]
            have hyes : (R.l = p.y.n ∧ (seqEnds x M R.r (2 ^ p.i)).testBit p.j = true) → (g.rules.zipIdx.take (n + 1)).foldl (ruleF x M p) ([], s.many) = splitF x M n p.j R.r p.i [] (sc, sm) := fun h => by rw [hstep.out]; unfold ruleF; rw [if_pos h]
            clear hstep
            by_cases hlf : R.l = p.y.n
            · have hlz : (R.l == p.y.n) = true := by simp [hlf]
              cases hbit : (seqEnds x M R.r (2 ^ p.i)).testBit p.j
              · have hN := Lib.hid (hnot (by simp [hbit]))
                have hbt2 : (bits BinOp.and IntKind.u32 (((seqEnds x M R.r (2 ^ p.i) : Nat) : Int) / 2 ^ p.j) 1 == 1) = false := by rw [bit_test1 _ p.j hr32, hbit]
                clear hnot hyes hbit hlf
                go_wp2_with fail
                refine wp_region_behind (by kernel_rfl) (by kernel_rfl) ?_
                repeat (go_big_quiet_step ((exact Calls.behind (run_any _ R.r A' _ c' p.i _ (hsp3.mker.below (Behind.h _)) (hsy3.below (Behind.h _)) hxl hi12 hss hsh.row hsh.small hlow))))
                refine wpQuiet_nil ?_
                intro _ hw'
                obtain ⟨P2, hw''⟩ := hw'
                subst hw''
                go_wp2_with fail
                go_roundg (g.rules.length - (n + 1))
                case measure => omega
                case rel => exact ⟨n + 1, by omega, rfl, by go_num, by rw [hN.out]; exact ⟨h2, hst3.trans (SpStep.ofBelow bm r h2 P2.h), hsp3.below P2.h⟩⟩
              · have hN := Lib.hid (hyes ⟨hlf, hbit⟩)
                have hbt2 : (bits BinOp.and IntKind.u32 (((seqEnds x M R.r (2 ^ p.i) : Nat) : Int) / 2 ^ p.j) 1 == 1) = true := by rw [bit_test1 _ p.j hr32, hbit]
                clear hnot hyes hbit hlf
                go_wp2_with fail
                refine wp_region_behind (by kernel_rfl) (by kernel_rfl) ?_
                repeat (go_big_quiet_step ((exact Calls.behind (run_any _ R.r A' _ c' p.i _ (hsp3.mker.below (Behind.h _)) (hsy3.below (Behind.h _)) hxl hi12 hss hsh.row hsh.small hlow))))
                refine wpQuiet_nil ?_
                intro _ hw'
                obtain ⟨P2, hw''⟩ := hw'
                subst hw''
                have hbP := P2.h
                have v0 := q0 P2
                have v1 := q1 P2
                have v2 := q2 P2
                have v3 := q3 P2
                generalize P2.w' = W6 at hbP v0 v1 v2 v3 ⊢
                clear q0 q1 q2 q3 r0 r1 hbt2
                have hst6 := hst3.trans (SpStep.ofBelow bm r h2 hbP)
                have hsp6 := hsp3.below hbP
                have hsplit : Calls Try.prog 123 #[.pointer (some ⟨bm, 0, none⟩), .agg #[.bool p.y.t, .int .i64 p.y.n, .int .i64 p.i, .int .i64 p.j], .int .i64 n, .int .i64 0, .int .i64 p.i, .slice none 0 0] W6 fun e w' => e = .returned (.tuple #[]) ∧ SpEnd W6 w' bm r W4.heap.size g x M (some ⟨b, o, none⟩) c B d C q l p (splitF x M n p.j R.r p.i [] (sc, sm)) h2 :=
                  split_any hv hxl hsh hlow hRn hj12 R.r 0 p.i [] none 0 sc sm h2 W6 rfl (Nat.zero_le _) hi12 rfl (Nat.le_refl _) hsp6 ⟨none, 0, rfl, by simp, fun k hk => absurd hk (by simp)⟩ (by have := hv.len; omega)
                rw [hyt] at hsplit
                go_wp2_with fail
                refine hsplit.mono ?_
                rintro e7 w7 ⟨rfl, hend⟩
                go_wp2_with fail
                go_roundg (g.rules.length - (n + 1))
                case measure => omega
                case rel => exact ⟨n + 1, by omega, rfl, by go_num, by rw [hN.out]; exact SpEnd.step hst6 hend⟩
            · have hlz : (R.l == p.y.n) = false := by simp [hlf]
              have hN := Lib.hid (hnot (fun h => hlf h.1))
              clear hnot hyes hlf
              go_wp2_with fail
              refine wp_region_behind (by kernel_rfl) (by kernel_rfl) ?_
              repeat (go_big_quiet_step (fail))
              refine wpQuiet_nil ?_
              intro _ hw'
              obtain ⟨P2, hw''⟩ := hw'
              subst hw''
              go_wp2_with fail
              go_roundg (g.rules.length - (n + 1))
              case measure => omega
              case rel => exact ⟨n + 1, by omega, rfl, by go_num, by rw [hN.out]; exact ⟨h2, hst3.trans (SpStep.ofBelow bm r h2 P2.h), hsp3.below P2.h⟩⟩
          · obtain rfl : n = g.rules.length := by omega
            have hle := rules_le (x := x) (M := M) (p := p) (l := g.rules.zipIdx) hmm g.rules.length
            rw [List.take_of_length_le (by simp)] at hsp hle
            have hfin := SpAt.toR hs4 hkeys hrd4 hst2 hsp hp (by have := hv.len; omega)
            change REnd W4 wr bm r g x M A c B d C q ⟨aput s.ways p (rulesF g x M p s.many).1, (rulesF g x M p s.many).2⟩ at hfin
            have hwok := rulesF_ok hv hi12 hj12 (M := M) s.many
            have hbxr := hst2.blk hbx4 (by
              rintro (hF | hF | hF)
              · omega
              · omega
              · cases hF)
            have hb7 : Away w.heap.size (fun b => b = bm ∨ b = r) w wr := (Away.ofBelow hb4).trans (hfin.2.mono hb4.size (fun _ _ h => h))
            have hs7 := hfin.1
            clear hfin hst2 hsp hle hwok
            have hwok := rulesF_ok hv hi12 hj12 (M := M) s.many
            generalize rulesF g x M p s.many = rr at hf hs7 hwok
            obtain ⟨l7, hm7, hkeys7, hrd7⟩ := hs7.map
            have hl7 : ∃ h7, alook l7 p = some h7 := by
              have := alook_keys l7 _ hkeys7 p
              simp only [alook_aput_same] at this
              cases h : alook l7 p with
              | none => rw [h] at this; cases this
              | some v => exact ⟨v, rfl⟩
            obtain ⟨h7, hl7⟩ := hl7
            have hways := hrd7 p h7 rr.1 hl7 (alook_aput_same _ _ _)
            obtain ⟨H1, H3, hH⟩ := hways.form
            rw [hH] at hways
            have hlook : ∀ P : Behind wr, (Instr.lookup 107 (.map (some r)) (.agg #[.bool p.y.t, .int .i64 p.y.n, .int .i64 p.i, .int .i64 p.j]) false).run Try.prog P.w' = .ok (.slice H1 rr.1.length H3) P.w' := fun P => by
              have := run_look Try.partKey Try.underlying107 Try.zeroWays (hm7.below P.h) p
              rw [hl7, Option.map_some, Option.getD_some, hH] at this
              exact this
            rw [hyt] at hlook
            have q6 := cell_behind (blk_cell hs7.mker.blk (i := 6) rfl)
            have q0 := cell_behind (blk_cell hbxr (i := 0) rfl)
            have q1 := cell_behind (blk_cell hbxr (i := 1) rfl)
            have q2 := cell_behind (blk_cell hbxr (i := 2) rfl)
            have q3 := cell_behind (blk_cell hbxr (i := 3) rfl)
            rw [hyt] at q0
            have hwl := hways.len.2
            clear hm7 hkeys7 hrd7 hl7 hH
            go_wp2_with fail
            refine wp_region_behind (by kernel_rfl) (by kernel_rfl) ?_
            repeat (go_big_quiet_step (fail))
            refine wpQuiet_nil ?_
            intro _ hw'
            obtain ⟨P2, hw''⟩ := hw'
            subst hw''
            have hbP := P2.h
            generalize P2.w' = W8 at hbP ⊢
            clear hlook q6 q0 q1 q2 q3
            have hs8 := hs7.below hbP
            have hways8 := hways.below hbP
            have hb8 : Away w.heap.size (fun b => b = bm ∨ b = r) w W8 := hb7.trans ((Away.ofBelow hbP).mono hb7.size (fun _ _ h => h))
            clear hs7 hways hbP hb7 hbxr
            go_wp2_with fail
            go_loopg [81] rr.1.length (fun gk i wr => ∃ n t, n ≤ rr.1.length ∧ gk = rr.1.length - n ∧ i = .int .i64 n ∧ (rr.1.drop n).foldlM (fun s v => v.kids.foldlM (fun s k => reachF g x M f k s) s) t = some s' ∧ REnd W8 wr bm r g x M A c B d C q t)
            case atStart => exact ⟨0, _, by omega, by omega, rfl, hf, hs8, Away.refl _ _ _⟩
            case round =>
              clear hf hs8
              obtain ⟨n, t, hn, rfl, rfl, hf, hs9, ha9⟩ := hrel
              by_cases hlt : n < rr.1.length
              · obtain ⟨t1, hf1, hf2⟩ := drop_foldlM hlt hf
                obtain ⟨b, o, rfl, hF, hl, hc1, A', c', hc2, hkd⟩ := (sl_away ha9 hways8).wayAt n hlt
                have hokv := hwok rr.1[n] (by simp)
                have hnz : (n : Int) < (rr.1.length : Int) := by omega
                generalize rr.1[n] = v at hc1 hc2 hkd hf1 hokv
                obtain ⟨wo, rfl⟩ : ∃ wo : World, wo = wr := ⟨_, rfl⟩
                go_wp2_with fail
                have hbA : Below wo.heap.size wo (wo.alloc (.cells #[.int .i64 v.rule, .slice A' v.kids.length c'] 209)) := (Below.refl _ _).alloc (Nat.le_refl _) _
                have hs10 := hs9.below hbA
                have hkd10 := hkd.below hbA
                have ha10 : Away W8.heap.size (fun b => b = bm ∨ b = r) W8 (wo.alloc (.cells #[.int .i64 v.rule, .slice A' v.kids.length c'] 209)) := ha9.trans ((Away.ofBelow hbA).mono ha9.size (fun _ _ h => h))
                generalize (wo.alloc (.cells #[.int .i64 v.rule, .slice A' v.kids.length c'] 209)) = W10 at hs10 hkd10 ha10 ⊢
                clear hc1 hc2 hkd hs9 hbA
                have hk4 := hokv.short
                go_loopg [88] v.kids.length (fun gk i wr => ∃ m t, m ≤ v.kids.length ∧ gk = v.kids.length - m ∧ i = .int .i64 m ∧ (v.kids.drop m).foldlM (fun s k => reachF g x M f k s) t = some t1 ∧ REnd W10 wr bm r g x M A c B d C q t)
                case atStart => exact ⟨0, t, by omega, by omega, rfl, hf1, hs10, Away.refl _ _ _⟩
                case round =>
                  clear hf1 hs10
                  obtain ⟨m, t2, hm2, rfl, rfl, hf1, hs11, ha11⟩ := hrel
                  by_cases hlt2 : m < v.kids.length
                  · obtain ⟨t3, hf3, hf4⟩ := drop_foldlM hlt2 hf1
                    obtain ⟨b2, o2, rfl, hF2, hl2, hd0, hd1, hd2, hd3⟩ := (sl_away ha11 hkd10).partAt m hlt2
                    have hokk := hokv.ok v.kids[m] (by simp)
                    have hmz : (m : Int) < (v.kids.length : Int) := by omega
                    generalize v.kids[m] = k at hd0 hd1 hd2 hd3 hf3 hokk
                    have hbB : Below wr.heap.size wr (wr.alloc (.cells #[.bool k.y.t, .int .i64 k.y.n, .int .i64 k.i, .int .i64 k.j] 177)) := (Below.refl _ _).alloc (Nat.le_refl _) _
                    have hcall := ih k t2 t3 (wr.alloc (.cells #[.bool k.y.t, .int .i64 k.y.n, .int .i64 k.i, .int .i64 k.j] 177)) hf3 ⟨hokk.1, hokk.2.1, hokk.2.2⟩ (hs11.below hbB)
                    unfold partV at hcall
                    go_wp2_with fail
                    refine hcall.mono ?_
                    rintro e12 w12 ⟨rfl, hs12, ha12⟩
                    go_wp2_with fail
                    go_roundg (v.kids.length - (m + 1))
                    case measure => omega
                    case rel => exact ⟨m + 1, t3, by omega, rfl, by go_num, hf4, hs12, ha11.trans (((Away.ofBelow hbB).trans (ha12.mono hbB.size (fun _ _ h => h))).mono ha11.size (fun _ _ h => h))⟩
                  · obtain rfl : m = v.kids.length := by omega
                    rw [List.drop_length] at hf1
                    obtain rfl : t2 = t1 := by injection hf1
                    go_wp2_with fail
                    go_roundg (rr.1.length - (n + 1))
                    case measure => omega
                    case rel => exact ⟨n + 1, t2, by omega, rfl, by go_num, hf2, hs11, ha10.trans (ha11.mono ha10.size (fun _ _ h => h))⟩
              · obtain rfl : n = rr.1.length := by omega
                rw [List.drop_length] at hf
                obtain rfl : t = s' := by injection hf
                go_wp2_with fail
                exact bodyPost_end (v := .tuple #[]) (by kernel_rfl) rfl ⟨rfl, hs9, hb8.trans (ha9.mono hb8.size (fun _ _ h => h))⟩
      · rw [hyt] at hb40
        rw [if_pos hyt] at hf
        injection hf with hf
        subst hf
        have hfin := SpAt.toR hs4 hkeys hrd4 (SpStep.refl _ bm r (none, 0, 0)) hsp4 hp (by omega)
        go_wp2_with fail
        exact bodyPost_ret (v := .tuple #[]) (by kernel_rfl) rfl ⟨rfl, hfin.1, (Away.ofBelow hb4).trans (hfin.2.mono hb4.size (fun _ _ h => h))⟩
end
end Go.Proofs.Ytdbkbkopcnkgcaa
