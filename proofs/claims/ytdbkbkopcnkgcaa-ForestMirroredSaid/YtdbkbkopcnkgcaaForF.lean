import Derived.Test.YtdbkbkopcnkgcaaForE
import Derived.Test.YtdbkbkopcnkgcaaBehind
open Go Go.RowKit
open Go.ChangeMaps (setBlock)
namespace Go.Proofs.Ytdbkbkopcnkgcaa

theorem Try.sizeSym (w : World) : (sizeOf 37).run Try.prog w = .ok 2 w := by kernel_rfl

theorem Try.sizeFpart (w : World) : (sizeOf 177).run Try.prog w = .ok 4 w := by kernel_rfl
/-- s[:len(s):len(s)] -/
theorem run_cut_sl {P : Program} {t E : TypeId} (ht : P.underlying t = some (.slice E)) {size : Nat} (hz : ∀ w, (sizeOf E).run P w = .ok size w) {α : Type} {d : Elt α} {F : Nat → Prop} {w0 : World} {A : Option Addr} {n c : Nat} {xs : List α} (h : IsSl d F w0 (.slice A n c) xs) (hc : n ≤ c) :
    ∃ A', (∀ w : World, (Instr.slice t (.slice A n c) none (some (.int .i64 n)) (some (.int .i64 n))).run P w = .ok (.slice A' n n) w) ∧ IsSl d F w0 (.slice A' n n) xs := by
  obtain ⟨rfl, hn⟩ := h.len
  refine ⟨if xs.length = 0 then A else A.map (·.add (0 * size)), fun w => ?_, ?_⟩
  · have hii : (0 : Int) ≤ xs.length ∧ (xs.length : Int) ≤ c := ⟨by omega, by omega⟩
    simp [Instr.slice, run_underlying ht, hz, Instr.sliceBounds, Instr.sliceBound, asIntOf, hc]
  · obtain ⟨A', c', he, hl, h⟩ := h
    injection he with h1 h2 h3
    subst h1
    refine ⟨_, xs.length, rfl, hl, fun k hk => ?_⟩
    obtain ⟨b, o, rfl, hb, hlt, he⟩ := h k hk
    rw [if_neg (by omega)]
    exact ⟨b, o, by simp [add_lit], hb, hlt, he⟩

theorem SpStep.cell {w w' : World} {bm r : Nat} {h h' : Hdr} {b i : Nat} {v : Value} (hs : SpStep w w' bm r h h') (hF : ¬ SpF bm r h b) (hc : w.cell? ⟨b, i, none⟩ = some v) : w'.cell? ⟨b, i, none⟩ = some v :=
  (World.cell?_of_block (w := w) (hs.away.block b (cell_lt hc) hF)).trans hc

section
variable {bm r base : Nat} {g : Gram} {x : List Int} {M : List (List Nat)} {A : Option Addr} {c : Nat} {B : Option Addr} {d : Nat} {C : Option Addr} {q : Nat} {l0 : List (Part × Hdr)} {p : Part}

theorem SpEnd.step {w w1 w2 : World} {h h1 : Hdr} {s : List Way × Nat} (hs : SpStep w w1 bm r h h1) (he : SpEnd w1 w2 bm r base g x M A c B d C q l0 p s h1) : SpEnd w w2 bm r base g x M A c B d C q l0 p s h := by
  obtain ⟨h', h2, h3⟩ := he
  exact ⟨h', hs.trans h2, h3⟩

/-- a part of the loop -/
def spFold (x : List Int) (M : List (List Nat)) (rule j a : Nat) (y : Sym) (l : List Sym) (kids : List Part) (s : List Way × Nat) (n : Nat) : List Way × Nat :=
  (List.range' a n).foldl (splitAt x M j a y l fun p s => splitF x M rule j l p (kids ++ [⟨y, a, p⟩]) s) s
theorem spFold_snoc {rule j a : Nat} {y : Sym} {l : List Sym} {kids : List Part} {s : List Way × Nat} {n : Nat} : spFold x M rule j a y l kids s (n + 1) = splitAt x M j a y l (fun p s => splitF x M rule j l p (kids ++ [⟨y, a, p⟩]) s) (spFold x M rule j a y l kids s n) (a + n) := by
  unfold spFold
  rw [range'_snoc, List.foldl_append]; rfl
theorem spFold_stop {rule j a : Nat} {y : Sym} {l : List Sym} {kids : List Part} {s : List Way × Nat} {n m : Nat} (h : maxPacks < (spFold x M rule j a y l kids s n).2) (hm : n ≤ m) : spFold x M rule j a y l kids s m = spFold x M rule j a y l kids s n := by
  obtain ⟨k, rfl⟩ : ∃ k, m = n + k := ⟨m - n, by omega⟩
  induction k with
  | zero => rfl
  | succ k ih =>
    rw [← Nat.add_assoc, spFold_snoc, ih (by omega)]
    unfold splitAt
    rw [if_neg (by omega)]
theorem spFold_le {rule j a : Nat} {y : Sym} {l : List Sym} {kids : List Part} {s : List Way × Nat} (hs : s.2 ≤ maxPacks + 50) : ∀ n, (spFold x M rule j a y l kids s n).2 ≤ maxPacks + 50
  | 0 => hs
  | n + 1 => by
    rw [spFold_snoc]
    unfold splitAt
    split
    · rename_i h
      exact Nat.le_trans (splitF_le (x := x) (M := M) (rule := rule) (j := j) l (a + n) (kids ++ [⟨y, a, a + n⟩]) _ h.1) (by omega)
    · exact spFold_le hs n

/-- one kid more, in memory of its own -/
theorem split_kids {w w1 w2 : World} {cur : List Way} {many : Nat} {h : Hdr} {kids : List Part} {y : Sym} {a m : Nat} {A9 : Option Addr} {c9 : Nat} (hs : SpAt w bm r base g x M A c B d C q l0 p cur many h) (hb : Below w.heap.size w w1)
    (hown : w2.ownsRow w1.heap.size 177 4 (.slice A9 (kids.length + 1) c9) (kids.length + 1) (partCells kids ++ partC ⟨y, a, m⟩)) (hg : w1.grownBy w2 none) :
    Below w.heap.size w w2 ∧ IsSl Elt.fpart (fun b => ¬ SpF bm r h b) w2 (.slice A9 (kids.length + 1) c9) (kids ++ [⟨y, a, m⟩]) := by
  refine ⟨hb.grown hg hb.size (fun k hk => by cases hk), ?_⟩
  rw [← partCells_snoc] at hown
  exact (own_parts hown).weak fun b hb2 => hs.new (by have := hb.size; omega)

set_option maxRecDepth 100000 in
set_option maxHeartbeats 3200000 in
theorem split_any (hv : Valid g) (hxl : x.length ≤ 12) (hsh : MShape g x M) (hlow : MLow M) {rule : Nat} {R : Rule} (hR : g.rules[rule]? = some R) (hpj : p.j ≤ x.length) :
    ∀ (l : List Sym) (k a : Nat) (kids : List Part) (K : Option Addr) (ck : Nat) (cur : List Way) (many : Nat) (h : Hdr) (w : World), R.r.drop k = l → k ≤ R.r.length → a ≤ x.length → kids.length = k → kids.length ≤ ck → SpAt w bm r base g x M A c B d C q l0 p cur many h → IsSl Elt.fpart (fun b => ¬ SpF bm r h b) w (.slice K kids.length ck) kids → many ≤ maxPacks + 49 →
    Calls Try.prog 123 #[.pointer (some ⟨bm, 0, none⟩), partV p, .int .i64 rule, .int .i64 k, .int .i64 a, .slice K kids.length ck] w fun e w' => e = .returned (.tuple #[]) ∧ SpEnd w w' bm r base g x M A c B d C q l0 p (splitF x M rule p.j l a kids (cur, many)) h := by
  intro l
  have hok := hv.ok R (List.mem_of_getElem? hR)
  have hrlen := hok.len
  induction l with
  | nil =>
    intro k a kids K ck cur many h w hd hk ha hkl hck hs hkids hmany
    have hkR : k = R.r.length := by
      have := congrArg List.length hd
      simp at this; omega
    subst hkR
    rw [splitF_nil]
    exact split_end hv hR a kids K ck cur many h w hs hkids (by omega) (by omega)
  | cons y l ih =>
    intro k a kids K ck cur many h w hd hk ha hkl hck hs hkids hmany
    have hkR : k < R.r.length := by
      rcases Nat.lt_or_ge k R.r.length with h1 | h1
      · exact h1
      · rw [List.drop_eq_nil_of_le h1] at hd; cases hd
    have hd2 : R.r[k] = y ∧ R.r.drop (k + 1) = l := by
      rw [List.drop_eq_getElem_cons hkR] at hd
      injection hd with h1 h2
      exact ⟨h1, h2⟩
    obtain ⟨hy, hdl⟩ := hd2
    have hosy := hok.syms y (by rw [← hy]; simp)
    have hoss : ∀ z ∈ l, OkSym g z := fun z hz => hok.syms z (by rw [← hdl] at hz; exact List.mem_of_mem_drop hz)
    have hML : (M.length : Int) = g.nons := hsh.len
    subst hkl
    obtain ⟨hr1, hr2⟩ := List.getElem?_eq_some_iff.1 hR
    obtain ⟨b, o, rfl, hF, hl, hc1, A', c', hc2, hsy, hcc⟩ := hs.mker.rules.ruleCap rule hr1
    rw [hr2] at hc1 hc2 hsy hcc
    obtain ⟨R', hslice, hrest⟩ := run_drop_sl (P := Try.prog) Try.underlying45 Try.sizeSym rfl hsy hcc (kids.length + 1) (by omega)
    rw [hdl] at hrest
    obtain ⟨b2, o2, rfl, hF2, hl2, hc3, hc4⟩ := hsy.symAt kids.length hkR
    rw [hy] at hc3 hc4
    have hlc : R.r.length - (kids.length + 1) = l.length := by rw [← hdl, List.length_drop]
    rw [hlc] at hrest
    have hslice2 : ∀ w : World, (Instr.slice 45 (.slice (some ⟨b2, o2, none⟩) R.r.length c') (some (.int .i64 ((kids.length : Int) + 1))) none none).run Try.prog w = .ok (.slice R' l.length (c' - (kids.length + 1))) w := fun w => by
      have := hslice w
      rw [hlc] at this
      exact this
    generalize c' - (kids.length + 1) = cR at hslice2 hrest
    clear hslice hlc
    obtain ⟨K', hcut, hkcut⟩ := run_cut_sl (P := Try.prog) (t := 207) Try.underlying207 Try.sizeFpart hkids hck
    have hk3 := blk_cell hs.mker.blk (i := 3) rfl
    have hbm := blk_lt hs.mker.blk
    have hrz : (rule : Int) < (g.rules.length : Int) := by omega
    have hkz : ((kids.length : Int) == (R.r.length : Int)) = false := by simp; omega
    have hkz2 : (kids.length : Int) < (R.r.length : Int) := by omega
    have hk4 : kids.length ≤ 3 := by omega
    obtain ⟨ip, hip, hp0, hp2, hp3⟩ := info_parts Try.infoFpart
    have HD := Lib.hid hd
    have HDL := Lib.hid hdl
    clear hd hy hdl hc1
    have hs1 := hs.below (w' := w.alloc (.cells #[.bool p.y.t, .int .i64 p.y.n, .int .i64 p.i, .int .i64 p.j] 177)) ((Below.refl _ _).alloc (Nat.le_refl _) _)
    have hbx0 := heap_alloc_new w (.cells #[.bool p.y.t, .int .i64 p.y.n, .int .i64 p.i, .int .i64 p.j] 177)
    obtain ⟨yt, yn⟩ := y
    have hyN : yt = false → yn < (M.length : Int) := fun ht => by have := hosy.nn ht; simp only at this; omega
    have hy0 : 0 ≤ yn := hosy.n0
    unfold partV
    go_enter Try.func123, Try.ntmps123
    go_wp2_with fail
    refine (fafter_any ⟨yt, yn⟩ a _ hs1.mker hxl ha hy0 hyN hsh.row).mono ?_
    rintro e1 w1 ⟨rfl, hb1⟩
    have hb01 : Below w.heap.size w w1 := ((Below.refl _ _).alloc (Nat.le_refl _) _).trans (hb1.mono (by simp))
    have hs2 := hs.below hb01
    have hst1 : SpStep w w1 bm r h h := SpStep.ofBelow bm r h hb01
    have hkids1 := hst1.keep hkcut
    have hbx1 := blk_below hb1 (by simp) hbx0
    have hrest1 : IsSl Elt.sym (fun b => ¬ SpF bm r h b) w1 (.slice R' l.length cR) l := hst1.keep (hrest.weak fun b hb hF => by
      rcases hF with hF | hF | hF
      · exact hb.2.1 hF
      · exact hb.2.2 hF
      · have := (hs.hown hF).1; omega)
    have hnx := aft1_lt x M ⟨yt, yn⟩ a (by omega) hsh.small
    have hbxw : w.heap.size < w1.heap.size := blk_lt hbx1
    have hoss2 : ∀ z ∈ l, 0 ≤ z.n ∧ (z.t = false → z.n < (M.length : Int)) := fun z hz => ⟨(hoss z hz).n0, fun ht => by have := (hoss z hz).nn ht; omega⟩
    have hc34 := hb01.cell (p := ⟨b2, o2 + kids.length * 2, none⟩) hl2
    have hc44 := hb01.cell (p := ⟨b2, o2 + kids.length * 2 + 1, none⟩) hl2
    rw [hc3] at hc34
    rw [hc4] at hc44
    clear hk3 hc3 hc4 hs1 hb1 hbx0
    go_wp2_with fail
    go_loopg [14] (p.j + 1 - a) (fun gk i wr => ∃ m, a ≤ m ∧ m - a ≤ p.j + 1 - a ∧ gk = p.j + 1 - a - (m - a) ∧ i = .int .i64 m ∧ SpEnd w1 wr bm r base g x M (some ⟨b, o, none⟩) c B d C q l0 p (spFold x M rule p.j a ⟨yt, yn⟩ l kids (cur, many) (m - a)) h)
    case atStart => exact ⟨a, by omega, by omega, by omega, rfl, by rw [Nat.sub_self]; exact ⟨h, SpStep.refl _ _ _ _, hs2⟩⟩
    case round =>
      obtain ⟨m, ham, hm, rfl, rfl, h2, hst2, hsp⟩ := hrel
      have hstep := Lib.hid (spFold_snoc (x := x) (M := M) (rule := rule) (j := p.j) (a := a) (y := ⟨yt, yn⟩) (l := l) (kids := kids) (s := (cur, many)) (n := m - a))
      have hstop := Lib.hid (fun n (h : maxPacks < (spFold x M rule p.j a ⟨yt, yn⟩ l kids (cur, many) (m - a)).2) (hn : m - a ≤ n) => spFold_stop (x := x) (M := M) h hn)
      have hmany2 := spFold_le (x := x) (M := M) (rule := rule) (j := p.j) (a := a) (y := ⟨yt, yn⟩) (l := l) (kids := kids) (s := (cur, many)) (by simp only; omega) (m - a)
      have HS0 := Lib.hid (rfl : spFold x M rule p.j a ⟨yt, yn⟩ l kids (cur, many) (m - a) = spFold x M rule p.j a ⟨yt, yn⟩ l kids (cur, many) (m - a))
      generalize hsg : spFold x M rule p.j a ⟨yt, yn⟩ l kids (cur, many) (m - a) = s at hsp hstep hstop hmany2 HS0
      have HSG := Lib.hid hsg
      clear hsg HS0
      obtain ⟨sc, sm⟩ := s
      simp only at hsp hmany2
      have hbxr := hst2.blk hbx1 (by
        rintro (hF | hF | hF)
        · have := hs2.bml; have := hs.le; omega
        · have := hs2.rl; have := hs.le; omega
        · have := (hs.hown hF).2; omega)
      have hk7 := blk_cell hsp.mker.blk (i := 7) rfl
      have hkb0 := blk_cell hbxr (i := 0) rfl
      have hkb1 := blk_cell hbxr (i := 1) rfl
      have hkb2 := blk_cell hbxr (i := 2) rfl
      have hkb3 := blk_cell hbxr (i := 3) rfl
      have hbmr := blk_lt hsp.mker.blk
      have hbxl := blk_lt hbxr
      by_cases hmj : m ≤ p.j
      · by_cases hmm : sm ≤ maxPacks
        · have hmz : (m : Int) ≤ (p.j : Int) := by omega
          have hmmz : (sm : Int) ≤ 20000 := by unfold maxPacks at hmm; omega
          have hma : m - a + 1 = m + 1 - a := by omega
          have hstep2 := hstep.out
          rw [hma, show a + (m - a) = m by omega] at hstep2
          unfold splitAt at hstep2
          have HST := Lib.hid hstep2
          clear hstep2 hstep hstop
          cases hbit : (aft1 x M ⟨yt, yn⟩ a).testBit m
          · have hbt : (bits BinOp.and IntKind.u32 (((aft1 x M ⟨yt, yn⟩ a : Nat) : Int) / 2 ^ m) 1 == 1) = false := by rw [bit_test1 _ m hnx, hbit]
            have hnew : spFold x M rule p.j a ⟨yt, yn⟩ l kids (cur, many) (m + 1 - a) = (sc, sm) := by rw [HST.out, if_neg (by simp [hbit])]
            have HN := Lib.hid hnew
            clear hnew hbit
            go_wp2_with fail
            go_quiet (fail)
            go_wp2_with fail
            go_roundg (p.j + 1 - a - (m + 1 - a))
            case measure => omega
            case rel => exact ⟨m + 1, by omega, by omega, rfl, by go_num, by rw [HN.out]; exact ⟨h2, hst2.trans (SpStep.ofBelow bm r h2 (below_drewN (Below.refl _ _) _)), hsp.below (below_drewN (Below.refl _ _) _)⟩⟩
          · have hbt : (bits BinOp.and IntKind.u32 (((aft1 x M ⟨yt, yn⟩ a : Nat) : Int) / 2 ^ m) 1 == 1) = true := by rw [bit_test1 _ m hnx, hbit]
            have hr32 := seqEnds_lt hsh.small hxl l (2 ^ m) (pow_lt13 (by omega))
            have hrestr := hst2.keep hrest1
            cases hbit2 : (seqEnds x M l (2 ^ m)).testBit p.j
            · have hbt2 : (bits BinOp.and IntKind.u32 (((seqEnds x M l (2 ^ m) : Nat) : Int) / 2 ^ p.j) 1 == 1) = false := by rw [bit_test1 _ p.j hr32, hbit2]
              have hnew : spFold x M rule p.j a ⟨yt, yn⟩ l kids (cur, many) (m + 1 - a) = (sc, sm) := by rw [HST.out, if_neg (by simp [hbit2])]
              have HN := Lib.hid hnew
              clear hnew hbit hbit2
              go_wp2_with fail
              have p7 := cell_behind hk7
              have p0 := cell_behind hkb0
              have p1 := cell_behind hkb1
              have p2 := cell_behind hkb2
              have p3 := cell_behind hkb3
              refine wp_region_behind (by kernel_rfl) (by kernel_rfl) ?_
              repeat (go_big_quiet_step ((exact Calls.behind (run_any _ l R' _ cR m _ (hsp.mker.below (Behind.h _)) (hrestr.below (Behind.h _)) hxl (by omega) hoss2 hsh.row hsh.small hlow))))
              refine wpQuiet_nil ?_
              intro _ hw'
              obtain ⟨P2, hw''⟩ := hw'
              subst hw''
              go_wp2_with fail
              go_roundg (p.j + 1 - a - (m + 1 - a))
              case measure => omega
              case rel => exact ⟨m + 1, by omega, by omega, rfl, by go_num, by rw [HN.out]; exact ⟨h2, hst2.trans (SpStep.ofBelow bm r h2 P2.h), hsp.below P2.h⟩⟩
            · have hbt2 : (bits BinOp.and IntKind.u32 (((seqEnds x M l (2 ^ m) : Nat) : Int) / 2 ^ p.j) 1 == 1) = true := by rw [bit_test1 _ p.j hr32, hbit2]
              have hnew : spFold x M rule p.j a ⟨yt, yn⟩ l kids (cur, many) (m + 1 - a) = splitF x M rule p.j l m (kids ++ [⟨⟨yt, yn⟩, a, m⟩]) (sc, sm) := by rw [HST.out, if_pos ⟨hmm, hbit, hbit2⟩]
              have HN := Lib.hid hnew
              clear hnew hbit hbit2
              have p7 := cell_behind hk7
              have p0 := cell_behind hkb0
              have p1 := cell_behind hkb1
              have p2 := cell_behind hkb2
              have p3 := cell_behind hkb3
              go_wp2_with fail
              refine wp_region_behind (by kernel_rfl) (by kernel_rfl) ?_
              repeat (go_big_quiet_step ((exact Calls.behind (run_any _ l R' _ cR m _ (hsp.mker.below (Behind.h _)) (hrestr.below (Behind.h _)) hxl (by omega) hoss2 hsh.row hsh.small hlow))))
              refine wpQuiet_nil ?_
              intro _ hw'
              obtain ⟨P2, hw''⟩ := hw'
              subst hw''
              have hbP := P2.h
              generalize P2.w' = W3 at hbP ⊢
              clear p7 p0 p1 p2 p3
              have hst3 := hst2.trans (SpStep.ofBelow bm r h2 hbP)
              have hs3 := hsp.below hbP
              have hbx3 := blk_below hbP hbxl hbxr
              have hk30 := blk_cell hbx3 (i := 0) rfl
              have hk31 := blk_cell hbx3 (i := 1) rfl
              have hk32 := blk_cell hbx3 (i := 2) rfl
              have hk33 := blk_cell hbx3 (i := 3) rfl
              have hkids3 := hst3.keep hkids1
              clear hkb0 hkb1 hkb2 hkb3 hk7 hbt hbt2
              go_wp2_with fail
              have hfb2 : ¬ SpF bm r h b2 := by
                rintro (hF | hF | hF)
                · exact hF2.2.1 hF
                · exact hF2.2.2 hF
                · have := (hs.hown hF).1; omega
              have hy30 := hst3.cell hfb2 hc34
              have hy31 := hst3.cell hfb2 hc44
              have hbA : Below W3.heap.size W3 (W3.alloc (.cells #[.bool yt, .int .i64 yn, .int .i64 a, .int .i64 m] 177)).drew := ((Below.refl _ _).alloc (Nat.le_refl _) _).drew
              have hkA := hkids3.below hbA
              have hbxA := blk_below hbA (blk_lt hbx3) hbx3
              have hkA0 := blk_cell hbxA (i := 0) rfl
              have hkA1 := blk_cell hbxA (i := 1) rfl
              have hkA2 := blk_cell hbxA (i := 2) rfl
              have hkA3 := blk_cell hbxA (i := 3) rfl
              have hwr : IntKind.i64.wrap ((kids.length : Int) + 1) = (kids.length : Int) + 1 := IntWalk.i64_in _ (by omega)
              go_region_law (first | (refine step_append_full _ rfl (.tmp 98) (.tmp 106) 207 rfl 177 ip (.agg #[.bool false, .int .i64 0, .int .i64 0, .int .i64 0]) 4 32 Try.underlying207 hip hp0 hp2 hp3 rfl (by decide) K' kids.length (partCells kids) rfl (partCells_length kids) (fun h => sl_none hkA h) (fun a ha => sl_parts hkA a ha) ⟨W3.heap.size, 0, none⟩ 1 1 [.bool yt, .int .i64 yn, .int .i64 a, .int .i64 m] rfl rfl (fun j u hj => cells_new W3 _ _ _ _ hj) (partC_one ⟨⟨yt, yn⟩, a, m⟩) (by omega) (by unfold maxLen; omega) (by omega) ?_; intro A9 c9 w9 hown9 hg9; obtain ⟨hb9, hk9⟩ := split_kids (y := ⟨yt, yn⟩) hs3 hbA hown9 hg9; have hs9 := hs3.below hb9; have hbx9 := blk_below hb9 (blk_lt hbx3) hbx3; have hk90 := blk_cell hbx9 (i := 0) rfl; have hk91 := blk_cell hbx9 (i := 1) rfl; have hk92 := blk_cell hbx9 (i := 2) rfl; have hk93 := blk_cell hbx9 (i := 3) rfl; have hih := ih (kids.length + 1) m (kids ++ [⟨⟨yt, yn⟩, a, m⟩]) A9 c9 sc sm h2 w9 HDL.out (by omega) (by omega) (by simp) (by rw [List.length_append]; exact own_cap hown9) hs9 (by rw [List.length_append]; exact hk9) (by omega); simp only [List.length_append, List.length_singleton, Int.natCast_add, Int.natCast_one] at hih; unfold partV at hih) | (refine step_call rfl 123 Try.f123 Try.func123 (by kernel_rfl) (by kernel_rfl) [_, _, _, _, _, _] _ rfl [.pointer (some ⟨bm, 0, none⟩), .agg #[.bool p.y.t, .int .i64 p.y.n, .int .i64 p.i, .int .i64 p.j], .int .i64 rule, .int .i64 ((kids.length : Int) + 1), .int .i64 m, .slice A9 (kids.length + 1) c9] rfl _ hih ?_; rintro e10 w10 ⟨rfl, hend⟩; refine ⟨_, rfl, ?_⟩))
              all_goals
                go_wp2_with fail
                go_roundg (p.j + 1 - a - (m + 1 - a))
                case measure => omega
                case rel => exact ⟨m + 1, by omega, by omega, rfl, by go_num, by rw [HN.out]; exact SpEnd.step (hst3.trans (SpStep.ofBelow bm r h2 hb9)) hend⟩
        · have hmmz : decide ((sm : Int) ≤ 20000) = false := by unfold maxPacks at hmm; simp; omega
          have hmz : (m : Int) ≤ (p.j : Int) := by omega
          have hnew := hstop.out (p.j + 1 - a) (by simp only; omega) (by omega)
          have HN := Lib.hid hnew
          clear hnew hstop hstep
          go_wp2_with fail
          refine bodyPost_end (v := .tuple #[]) (by kernel_rfl) rfl ⟨rfl, ?_⟩
          rw [splitF_cons]
          exact SpEnd.step hst1 ⟨h2, hst2, by show SpAt _ _ _ _ _ _ _ _ _ _ _ _ _ _ _ (spFold x M rule p.j a ⟨yt, yn⟩ l kids (cur, many) (p.j + 1 - a)).1 (spFold x M rule p.j a ⟨yt, yn⟩ l kids (cur, many) (p.j + 1 - a)).2 _; rw [HN.out]; exact hsp⟩
      · have hmz : decide ((m : Int) ≤ (p.j : Int)) = false := by simp; omega
        have hma : m - a = p.j + 1 - a := by omega
        have HMA := Lib.hid hma
        clear hstop hstep hma
        go_wp2_with fail
        refine bodyPost_end (v := .tuple #[]) (by kernel_rfl) rfl ⟨rfl, ?_⟩
        rw [splitF_cons]
        exact SpEnd.step hst1 ⟨h2, hst2, by show SpAt _ _ _ _ _ _ _ _ _ _ _ _ _ _ _ (spFold x M rule p.j a ⟨yt, yn⟩ l kids (cur, many) (p.j + 1 - a)).1 (spFold x M rule p.j a ⟨yt, yn⟩ l kids (cur, many) (p.j + 1 - a)).2 _; rw [← HMA.out, HSG.out]; exact hsp⟩
end
end Go.Proofs.Ytdbkbkopcnkgcaa
