import Derived.Test.YtcndbohiiodndaaForO
import Derived.Test.YtcndbohiiodndaaFeeds
import Derived.Test.YtcndbohiiodndaaOwnLt
open Go Go.RowKit
namespace Go.Proofs.Ytcndbohiiodndaa

/-- what the forest of a feed leaves, in the result's own cells -/
def FOut (w wx : World) (s3 : Value) (g : Gram) (x : List Int) : Prop :=
  ∃ M N cn, IsM g x M ∧ s3 = .int .i64 (madeF g x M).2 ∧ Below w.heap.size w wx ∧ wx.heap[w.heap.size]? = some (.cells #[.slice N (madeF g x M).1.nodes.length cn, .int .i64 (madeF g x M).1.root] 101 (0, 0)) ∧ IsSl Elt.node (fun b => w.heap.size ≤ b) wx (.slice N (madeF g x M).1.nodes.length cn) (madeF g x M).1.nodes

theorem fout {w WA wd w3 : World} {g : Gram} {x : List Int} {M : List (List Nat)} {N : Option Addr} {cn : Nat} (hb1 : Below w.heap.size w WA) (hd : Below (w.heap.size + 1) WA wd) (hsz : WA.heap.size = w.heap.size + 1) (hfo : WA.heap[w.heap.size]? = some (.cells #[.slice none 0 0, .int .i64 0] 101 (0, 0)))
    (hM : IsM g x M) (hb : Below wd.heap.size wd w3) (hs : IsSl Elt.node (fun b => wd.heap.size ≤ b) w3 (.slice N (madeF g x M).1.nodes.length cn) (madeF g x M).1.nodes) :
    FOut w ((w3.setCell ⟨w.heap.size, 0, none⟩ (.slice N (madeF g x M).1.nodes.length cn)).setCell ⟨w.heap.size, 1, none⟩ (.int .i64 (madeF g x M).1.root)) (.int .i64 (madeF g x M).2) g x := by
  have hds := hd.size
  have hb3 : Below (w.heap.size + 1) WA w3 := hd.trans (hb.mono (by omega))
  have hfo3 := blk_below hb3 (by omega) hfo
  refine ⟨M, N, cn, hM, rfl, (((hb1.trans (hb3.mono (by omega))).setCell (Nat.le_refl _) _).setCell (Nat.le_refl _) _), by rw [heap_set (heap_set hfo3 _ _)]; rfl, ?_⟩
  exact (hs.keep (fun b hb => by rw [heap_set_ne (by omega), heap_set_ne (by omega)]) (by rw [size_setCell, size_setCell]; exact Nat.le_refl _)).weak fun b hb => by omega

section
variable {D : Nat → Prop} {bf lim : Nat} {g : Gram} {gd : List Bool} {x : List Int} {S : Nat → Item → Prop} {A : Option Addr} {cr : Nat} {B : Option Addr} {cg : Nat} {C : Option Addr} {cw : Nat} {E : Option Addr} {cs : Nat} {rs : List Nat}

set_option maxRecDepth 100000 in
set_option maxHeartbeats 800000 in
theorem forestOf_any (w : World) (h : FeedAt D w bf lim g gd x S A cr B cg C cw E cs rs) (hv : Valid g) (hx : x.length ≤ 12) (ho : OkWord g x) (hcr : g.rules.length ≤ cr) :
    Calls Try.prog 63 #[.pointer (some ⟨bf, 0, none⟩)] w fun e w' => OfEnd w w' e g x := by
  have hsl := own_ints h.word
  have hlt := blk_lt h.blk
  go_enter Try.func63, Try.ntmps63
  go_wp2_with fail
  have hb1 : Below w.heap.size w (w.alloc (.cells #[.slice none 0 0, .int .i64 0] 101)) := (Below.refl _ _).alloc (Nat.le_refl _) _
  have hfo := heap_alloc_new w (.cells #[.slice none 0 0, .int .i64 0] 101)
  have hk1 := blk_below hb1 hlt h.blk
  have c0 := blk_cell hk1 (i := 0) rfl
  have c1 := blk_cell hk1 (i := 1) rfl
  have c2 := blk_cell hk1 (i := 2) rfl
  have c3 := blk_cell hk1 (i := 3) rfl
  have c5 := blk_cell hk1 (i := 5) rfl
  have hsz : (w.alloc (.cells #[.slice none 0 0, .int .i64 0] 101)).heap.size = w.heap.size + 1 := World.size_alloc _ _
  have hof : ∀ W : World, Below (w.heap.size + 1) (w.alloc (.cells #[.slice none 0 0, .int .i64 0] 101)) W → Calls Try.prog 65 #[gramV g (.slice A g.rules.length cr), .slice C x.length cw] W fun e w' => OfEnd W w' e g x := fun W hW =>
    of_any (fun _ => True) hv hx W hcr ho (((h.rules.below hb1).weak fun _ _ => trivial).below (hsz ▸ hW)) (((hsl.below hb1).weak fun _ _ => trivial).below (hsz ▸ hW))
  unfold gramV at hof
  generalize hWA : (w.alloc (.cells #[.slice none 0 0, .int .i64 0] 101)) = WA at hb1 hfo hk1 c0 c1 c2 c3 c5 hsz hof ⊢
  go_cut [3] (fun s3 wx => FOut w wx s3 g x)
  case first =>
    have hbd : ∀ k, Below (w.heap.size + 1) WA (WA.drewN k) := fun k => below_drewN (hsz ▸ Below.refl _ _) k
    go_region_law (first | (refine step_call rfl 65 Try.f65 Try.func65 (by kernel_rfl) (by kernel_rfl) [_, _] _ rfl [.agg #[.int .i64 g.terms, .int .i64 g.nons, .int .i64 g.start, .slice A g.rules.length cr], .slice C x.length cw] rfl _ (hof _ (hbd 1)) ?_; rintro e3 w3 ⟨M, N, cn, hM, rfl, hb3, hs3⟩; refine ⟨_, rfl, ?_⟩; have hfo3 := blk_below hb3 (blk_lt hfo) hfo; have hg0 : w3.frozen? ⟨w.heap.size, 0, none⟩ = false := blk_free hfo3; have hg1 : w3.frozen? ⟨w.heap.size, 1, none⟩ = false := blk_free hfo3; have hd0 := blk_cell hfo3 (i := 0) rfl; have hd1 := blk_cell hfo3 (i := 1) rfl))
    all_goals
      go_wp2_with fail
      go_meet
      exact fout hb1 (hbd 1) hsz hfo hM hb3 hs3
  case rest =>
  obtain ⟨M, N, cn, hM, rfl, hb, hk, hs⟩ := hcut
  go_wp2_with fail
  refine bodyPost_ret (results_cell_tmp rfl rfl (run_loadVar_row _ w.heap.size 101 101 #[.slice N (madeF g x M).1.nodes.length cn, .int .i64 (madeF g x M).1.root] (0, 0) _ hk Try.underlying101 rfl (by kernel_rfl))) rfl ?_
  exact ⟨M, N, cn, hM, rfl, hb, hs⟩
end

theorem forest_feed {D : Nat → Prop} {bf lim : Nat} {g : Gram} {gd : List Bool} {x : List Int} (w : World) (h : IsFeed D w bf lim g gd x) (hv : Valid g) (hx : x.length ≤ 12) (ho : OkWord g x) :
    Calls Try.prog 63 #[.pointer (some ⟨bf, 0, none⟩)] w fun e w' => OfEnd w w' e g x := by
  obtain ⟨hg, A, cr, B, cg, C, cw, E, cs, rs, hcr, h⟩ := h
  exact forestOf_any w h hv hx ho hcr

/-- a feed in memory that has read x; all that it owns lies in the blocks U -/
def FeedIn (U : Nat → Prop) (w : World) (bf : Nat) (g : Gram) (gd : List Bool) (x : List Int) : Prop :=
  Good g gd ∧ ∃ lim A cr B cg C cw E cs rs, g.rules.length ≤ cr ∧ FeedAt U w bf lim g gd x (EI g gd x) A cr B cg C cw E cs rs ∧
    IsSl Elt.rule (fun b => U b ∧ b < lim ∧ b ≠ bf) w (.slice A g.rules.length cr) g.rules ∧ IsSl Elt.bool (fun b => U b ∧ b < lim ∧ b ≠ bf) w (.slice B gd.length cg) gd ∧ U bf ∧ ∀ b, U b → b < w.heap.size

section
variable {U V : Nat → Prop} {w w' : World} {bf : Nat} {g : Gram} {gd : List Bool} {x : List Int}

theorem FeedIn.away (h : FeedIn U w bf g gd x) (ha : Away w.heap.size V w w') (hV : ∀ b, U b → ¬ V b) : FeedIn U w' bf g gd x := by
  obtain ⟨hg, lim, A, cr, B, cg, C, cw, E, cs, rs, hcr, h, hr, hd, hb, hU⟩ := h
  have hk : ∀ b, U b → w'.heap[b]? = w.heap[b]? := fun b hb => ha.block b (hU b hb) (hV b hb)
  have hr' : IsSl Elt.rule (fun b => U b ∧ b < lim ∧ b ≠ bf) w' (.slice A g.rules.length cr) g.rules := hr.keep (fun b hb => hk b hb.1) ha.size
  have hd' : IsSl Elt.bool (fun b => U b ∧ b < lim ∧ b ≠ bf) w' (.slice B gd.length cg) gd := hd.keep (fun b hb => hk b hb.1) ha.size
  refine ⟨hg, lim, A, cr, B, cg, C, cw, E, cs, rs, hcr, ⟨(hk bf hb).trans h.blk, h.lt, Nat.le_trans h.le ha.size, hr'.weak fun b hb => hb.2, hd'.weak fun b hb => hb.2, h.gdlen, own_same h.word ?_, h.wordD, own_same h.sets ?_, h.setsD, h.len, h.dist, fun k hkk => ⟨(h.maps k hkk).1.same (hk _ (h.maps k hkk).2.1), (h.maps k hkk).2⟩, h.ok⟩, hr', hd', hb, fun b hb => Nat.lt_of_lt_of_le (hU b hb) ha.size⟩
  · intro j hj
    cases C with
    | none => cases hj
    | some a => injection hj with hj; subst hj; exact hk _ (h.wordD a rfl)
  · intro j hj
    cases E with
    | none => cases hj
    | some a => injection hj with hj; subst hj; exact hk _ (h.setsD a rfl)

theorem FeedIn.below (h : FeedIn U w bf g gd x) (hb : Below w.heap.size w w') : FeedIn U w' bf g gd x := h.away (V := fun _ => False) (Away.ofBelow hb) (fun _ _ h => h)
theorem FeedIn.feed (h : FeedIn U w bf g gd x) : ∃ lim, IsFeed U w bf lim g gd x := by
  obtain ⟨hg, lim, A, cr, B, cg, C, cw, E, cs, rs, hcr, h, hr, hd, hb, hU⟩ := h
  exact ⟨lim, hg, A, cr, B, cg, C, cw, E, cs, rs, hcr, h⟩

theorem new_in (F : Nat → Prop) (g : Gram) (A0 : Option Addr) (n c : Nat) (w : World) (hr : IsSl Elt.rule F w (.slice A0 n c) g.rules) (hv : Valid g) (hnc : n ≤ c) :
    Calls Try.prog 18 #[gramV g (.slice A0 n c)] w fun e w' => ∃ bf gd, e = .returned (.tuple #[.pointer (some ⟨bf, 0, none⟩), .int .i64 0]) ∧ Below w.heap.size w w' ∧ FeedIn (fun b => w.heap.size ≤ b ∧ b < w'.heap.size) w' bf g gd [] := by
  refine (new_any F g A0 n c w hr hv hnc).mono ?_
  rintro e w' ⟨bf, lim, gd, A, cr, B, cg, C, cw, E, cs, rs, rfl, hb, hbf, hcr, hg, h, hlo1, hlo2⟩
  have hlt := h.lt
  refine ⟨bf, gd, rfl, hb, hg, lim, A, cr, B, cg, C, cw, E, cs, rs, hcr, (h.congr (S' := EI g gd []) fun k z hk => ?_).weakD fun b hb => ⟨by omega, hb.2⟩, hlo1.old.weak fun b hb => ⟨⟨hb.1.1, hb.2⟩, hb.1.2⟩, hlo2.old.weak fun b hb => ⟨⟨hb.1.1, hb.2⟩, hb.1.2⟩, ⟨hbf, blk_lt h.blk⟩, fun b hb => hb.2⟩
  obtain rfl : k = 0 := by simpa using hk
  rw [updS_same, ei_first]

theorem put_in (t : Nat) (h : FeedIn U w bf g gd x) (hv : Valid g) (hx : x.length < 12) (ht : (t : Int) < g.terms) :
    Calls Try.prog 22 #[.pointer (some ⟨bf, 0, none⟩), .int .i64 t] w fun e w' => (¬ NextT g (EI g gd x x.length) t ∧ e = .returned (.int .i64 10) ∧ Below w.heap.size w w') ∨ (NextT g (EI g gd x x.length) t ∧ e = .returned (.int .i64 0) ∧ Away w.heap.size U w w' ∧ FeedIn (fun b => U b ∨ (w.heap.size ≤ b ∧ b < w'.heap.size)) w' bf g gd (x ++ [(t : Int)])) := by
  obtain ⟨hg, lim, A, cr, B, cg, C, cw, E, cs, rs, hcr, h, hr, hd, hb, hU⟩ := h
  refine (put_any t w h hv hx ht).mono ?_
  rintro e w' (h1 | ⟨h1, h2, h3, C', cw', E', cs', rs', h4⟩)
  · exact .inl h1
  · have hk : ∀ b, U b ∧ b < lim ∧ b ≠ bf → w'.heap[b]? = w.heap[b]? := fun b hb => h3.block b (hU b hb.1) (by omega)
    have hs := h3.size
    refine .inr ⟨h1, h2, h3.mono (Nat.le_refl _) (fun j _ hj => by rcases hj with rfl | hj; exact hb; exact hj.2), hg, lim, A, cr, B, cg, C', cw', E', cs', rs', hcr, (h4.congr fun k z hk => ?_).capD.weakD fun b hb => ?_, (hr.keep hk hs).weak fun b hb => ⟨.inl hb.1, hb.2⟩, (hd.keep hk hs).weak fun b hb => ⟨.inl hb.1, hb.2⟩, .inl hb, fun b hb => ?_⟩
    · by_cases e : k = x.length + 1
      · subst e
        rw [updS_same]
        exact (ei_next _ z).symm
      · rw [updS_other _ _ _ e]
        exact (ei_snoc _ (by simp at hk; omega) z).symm
    · rcases hb with ⟨hb | hb, hb2⟩
      · exact .inl hb
      · exact .inr ⟨hb, hb2⟩
    · rcases hb with hb | hb
      · have := hU b hb; omega
      · exact hb.2

theorem back_in (n m : Nat) (h : FeedIn U w bf g gd x) (hx : x.length ≤ 12) (hn : n + m = x.length) :
    Calls Try.prog 60 #[.pointer (some ⟨bf, 0, none⟩), .int .i64 n] w fun e w' => e = .returned (.int .i64 0) ∧ Away w.heap.size U w w' ∧ FeedIn U w' bf g gd (x.take m) := by
  obtain ⟨hg, lim, A, cr, B, cg, C, cw, E, cs, rs, hcr, h, hr, hd, hb, hU⟩ := h
  refine (back_any n m w h hx hn).mono ?_
  rintro e w' ⟨h1, h2, h3⟩
  have hk : ∀ b, U b ∧ b < lim ∧ b ≠ bf → w'.heap[b]? = w.heap[b]? := fun b hb => h2.block b (hU b hb.1) (by omega)
  have hs := h2.size
  refine ⟨h1, h2.mono (Nat.le_refl _) (fun j _ hj => by subst hj; exact hb), hg, lim, A, cr, B, cg, C, cw, E, cs, _, hcr, h3.congr fun k z hk => ?_, hr.keep hk hs, hd.keep hk hs, hb, fun b hb => Nat.lt_of_lt_of_le (hU b hb) hs⟩
  have hm : (x.take m).length = m := by rw [List.length_take]; omega
  rw [hm] at hk
  exact ⟨fun h => ei_prefix (n := m) (fun j hj => by rw [List.getElem?_take, if_pos hj]) h hk, fun h => ei_prefix (n := m) (fun j hj => by rw [List.getElem?_take, if_pos hj]) h hk⟩

set_option maxRecDepth 100000 in
set_option maxHeartbeats 800000 in
/-- more than was read cannot be forgotten -/
theorem back_much (n : Nat) (h : FeedIn U w bf g gd x) (hn : x.length < n) :
    Calls Try.prog 60 #[.pointer (some ⟨bf, 0, none⟩), .int .i64 n] w fun e w' => e = .returned (.int .i64 1) ∧ Below w.heap.size w w' := by
  obtain ⟨hg, lim, A, cr, B, cg, C, cw, E, cs, rs, hcr, h, hr, hd, hb, hU⟩ := h
  have hc5 := blk_cell h.blk (i := 5) rfl
  have hn1 : decide ((n : Int) < 0) = false := by simp
  have hn2 : decide ((x.length : Int) < (n : Int)) = true := by simp; omega
  go_enter Try.func60, Try.ntmps60
  go_wp2_with fail
  go_ret
  exact ⟨rfl, Below.refl _ _⟩

theorem next_in (h : FeedIn U w bf g gd x) (hv : Valid g) (hx : x.length ≤ 12) :
    Calls Try.prog 21 #[.pointer (some ⟨bf, 0, none⟩)] w fun e w' => ∃ (b : Nat) (o : List Bool), e = .returned (.slice (some ⟨b, 0, none⟩) o.length o.length) ∧ Outs g (EI g gd x x.length) o ∧ Below w.heap.size w w' ∧ w.heap.size ≤ b ∧ w'.heap[b]? = some (.cells (o.map Value.bool).toArray 4 (0, 0)) := by
  obtain ⟨lim, h⟩ := h.feed
  exact next_feed w h hv hx
theorem word_in (h : FeedIn U w bf g gd x) (hx : x.length ≤ 12) :
    Calls Try.prog 61 #[.pointer (some ⟨bf, 0, none⟩)] w fun e w' => ∃ (C' : Option Addr) (c' : Nat), e = .returned (.slice C' x.length c') ∧ Below w.heap.size w w' ∧ IsSl Elt.int (fun b => w.heap.size ≤ b) w' (.slice C' x.length c') x := by
  obtain ⟨lim, h⟩ := h.feed
  exact word_feed w h hx
theorem word_own (h : FeedIn U w bf g gd x) (hx : x.length ≤ 12) :
    Calls Try.prog 61 #[.pointer (some ⟨bf, 0, none⟩)] w fun e w' => ∃ (C' : Option Addr) (c' : Nat), e = .returned (.slice C' x.length c') ∧ Below w.heap.size w w' ∧ w'.ownsRow w.heap.size 3 1 (.slice C' x.length c') x.length (x.map (Value.int .i64)) := by
  obtain ⟨hg, lim, A, cr, B, cg, C, cw, E, cs, rs, hcr, h, hr, hd, hb, hU⟩ := h
  exact wordOwn_any w h hx
theorem forest_in (h : FeedIn U w bf g gd x) (hv : Valid g) (hx : x.length ≤ 12) (ho : OkWord g x) :
    Calls Try.prog 63 #[.pointer (some ⟨bf, 0, none⟩)] w fun e w' => OfEnd w w' e g x := by
  obtain ⟨lim, h⟩ := h.feed
  exact forest_feed w h hv hx ho
theorem outs_uniq {T : Item → Prop} {a b : List Bool} (ha : Outs g T a) (hb : Outs g T b) : a = b := by
  have h1 := ha.len
  have h2 := hb.len
  apply List.ext_getElem (by omega)
  intro i h3 h4
  have key : a[i]? = some true ↔ b[i]? = some true := by
    by_cases hi : (i : Int) < g.terms
    · exact (ha.term i hi).trans (hb.term i hi).symm
    · have e : i = g.terms.toNat := by omega
      subst e
      exact ha.fin.trans hb.fin.symm
  rw [List.getElem?_eq_getElem h3, List.getElem?_eq_getElem h4] at key
  cases ea : a[i] <;> cases eb : b[i] <;> simp_all
end
end Go.Proofs.Ytcndbohiiodndaa
