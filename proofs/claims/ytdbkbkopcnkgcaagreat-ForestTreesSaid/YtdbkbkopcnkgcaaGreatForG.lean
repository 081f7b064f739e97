import Derived.Test.YtdbkbkopcnkgcaaGreatForE
import Derived.Test.YtdbkbkopcnkgcaaGreatWorld
open Go Go.RowKit
open Go.ChangeMaps (setBlock)
namespace Go.Proofs.YtdbkbkopcnkgcaaGreat

theorem Tryz.sizeSym (w : World) : (sizeOf 70).run Tryz.prog w = .ok 2 w := by kernel_rfl

theorem Tryz.sizeFpart (w : World) : (sizeOf 106).run Tryz.prog w = .ok 4 w := by kernel_rfl
/-- s[:len(s):len(s)] -/
theorem run_cut_sl {P : Program} {t E : TypeId} (ht : P.underlying t = some (.slice E)) {size : Nat} (hz : ∀ w, (sizeOf E).run P w = .ok size w) {α : Type} {d : Elt α} {F : Nat → Prop} {w0 : World} {A : Option Addr} {n c : Nat} {xs : List α} (h : IsSl d F w0 (.slice A n c) xs) (hc : n ≤ c) :
    ∃ A', (∀ w : World, (Instr.slice t (.slice A n c) none (some (.int .i64 n)) (some (.int .i64 n))).run P w = .ok (.slice A' n n) w) ∧ IsSl d F w0 (.slice A' n n) xs := by
  obtain ⟨rfl, hn⟩ := h.len
  refine ⟨if xs.length = 0 then A else A.map (·.add (0 * size)), fun w => ?_, ?_⟩
  · have hii : (0 : Int) ≤ xs.length ∧ (xs.length : Int) ≤ c := ⟨by omega, by omega⟩
    simp [Instr.slice, run_underlying ht, hz, Instr.sliceBounds, Instr.sliceBound, asIntOf, hc]
  · obtain ⟨A', c', he, hl, h⟩ := h
    injection he with h1 h2 h3
    subst h1
    refine ⟨_, xs.length, rfl, hl, fun k hk => ?_⟩
    obtain ⟨b, o, rfl, hb, hlt, he⟩ := h k hk
    rw [if_neg (by omega)]
    exact ⟨b, o, by simp [add_lit], hb, hlt, he⟩

theorem SpStep.cell {w w' : World} {bm r : Nat} {h h' : Hdr} {b i : Nat} {v : Value} (hs : SpStep w w' bm r h h') (hF : ¬ SpF bm r h b) (hc : w.cell? ⟨b, i, none⟩ = some v) : w'.cell? ⟨b, i, none⟩ = some v :=
  (World.cell?_of_block (w := w) (hs.away.block b (cell_lt hc) hF)).trans hc

section
variable {bm r base : Nat} {g : Gram} {x : List Int} {M : List (List Nat)} {A : Option Addr} {c : Nat} {B : Option Addr} {d : Nat} {C : Option Addr} {q : Nat} {l0 : List (Part × Hdr)} {p : Part}

theorem SpEnd.step {w w1 w2 : World} {h h1 : Hdr} {s : List Way × Nat} (hs : SpStep w w1 bm r h h1) (he : SpEnd w1 w2 bm r base g x M A c B d C q l0 p s h1) : SpEnd w w2 bm r base g x M A c B d C q l0 p s h := by
  obtain ⟨h', h2, h3⟩ := he
  exact ⟨h', hs.trans h2, h3⟩

/-- a part of the loop -/
def spFold (x : List Int) (M : List (List Nat)) (rule j a : Nat) (y : Sym) (l : List Sym) (kids : List Part) (s : List Way × Nat) (n : Nat) : List Way × Nat :=
  (List.range' a n).foldl (splitAt x M j a y l fun p s => splitF x M rule j l p (kids ++ [⟨y, a, p⟩]) s) s
theorem spFold_snoc {rule j a : Nat} {y : Sym} {l : List Sym} {kids : List Part} {s : List Way × Nat} {n : Nat} : spFold x M rule j a y l kids s (n + 1) = splitAt x M j a y l (fun p s => splitF x M rule j l p (kids ++ [⟨y, a, p⟩]) s) (spFold x M rule j a y l kids s n) (a + n) := by
  unfold spFold
  rw [range'_snoc, List.foldl_append]; rfl
theorem spFold_stop {rule j a : Nat} {y : Sym} {l : List Sym} {kids : List Part} {s : List Way × Nat} {n m : Nat} (h : maxPacks < (spFold x M rule j a y l kids s n).2) (hm : n ≤ m) : spFold x M rule j a y l kids s m = spFold x M rule j a y l kids s n := by
  obtain ⟨k, rfl⟩ : ∃ k, m = n + k := ⟨m - n, by omega⟩
  induction k with
  | zero => rfl
  | succ k ih =>
    rw [← Nat.add_assoc, spFold_snoc, ih (by omega)]
    unfold splitAt
    rw [if_neg (by omega)]
theorem spFold_le {rule j a : Nat} {y : Sym} {l : List Sym} {kids : List Part} {s : List Way × Nat} (hs : s.2 ≤ maxPacks + 50) : ∀ n, (spFold x M rule j a y l kids s n).2 ≤ maxPacks + 50
  | 0 => hs
  | n + 1 => by
    rw [spFold_snoc]
    unfold splitAt
    split
    · rename_i h
      exact Nat.le_trans (splitF_le (x := x) (M := M) (rule := rule) (j := j) l (a + n) (kids ++ [⟨y, a, a + n⟩]) _ h.1) (by omega)
    · exact spFold_le hs n

/-- one kid more, in memory of its own -/
theorem split_kids {w w1 w2 : World} {cur : List Way} {many : Nat} {h : Hdr} {kids : List Part} {y : Sym} {a m : Nat} {A9 : Option Addr} {c9 : Nat} (hs : SpAt w bm r base g x M A c B d C q l0 p cur many h) (hb : Below w.heap.size w w1)
    (hown : w2.ownsRow w1.heap.size 106 4 (.slice A9 (kids.length + 1) c9) (kids.length + 1) (partCells kids ++ partC ⟨y, a, m⟩)) (hg : w1.grownBy w2 none) :
    Below w.heap.size w w2 ∧ IsSl Elt.fpart (fun b => ¬ SpF bm r h b) w2 (.slice A9 (kids.length + 1) c9) (kids ++ [⟨y, a, m⟩]) := by
  refine ⟨hb.grown hg hb.size (fun k hk => by cases hk), ?_⟩
  rw [← partCells_snoc] at hown
  exact (own_parts hown).weak fun b hb2 => hs.new (by have := hb.size; omega)

set_option maxRecDepth 100000 in
set_option maxHeartbeats 3200000 in
theorem split_any (hv : Valid g) (hxl : x.length ≤ 12) (hsh : MShape g x M) (hlow : MLow M) {rule : Nat} {R : Rule} (hR : g.rules[rule]? = some R) (hpj : p.j ≤ x.length) :
    ∀ (l : List Sym) (k a : Nat) (kids : List Part) (K : Option Addr) (ck : Nat) (cur : List Way) (many : Nat) (h : Hdr) (w : World), R.r.drop k = l → k ≤ R.r.length → a ≤ x.length → kids.length = k → kids.length ≤ ck → SpAt w bm r base g x M A c B d C q l0 p cur many h → IsSl Elt.fpart (fun b => ¬ SpF bm r h b) w (.slice K kids.length ck) kids → many ≤ maxPacks + 49 →
    Calls Tryz.prog 55 #[.pointer (some ⟨bm, 0, none⟩), partV p, .int .i64 rule, .int .i64 k, .int .i64 a, .slice K kids.length ck] w fun e w' => e = .returned (.tuple #[]) ∧ SpEnd w w' bm r base g x M A c B d C q l0 p (splitF x M rule p.j l a kids (cur, many)) h := by
  intro l
  have hok := hv.ok R (List.mem_of_getElem? hR)
  have hrlen := hok.len
  induction l with
  | nil =>
    intro k a kids K ck cur many h w hd hk ha hkl hck hs hkids hmany
    have hkR : k = R.r.length := by
      have := congrArg List.length hd
      simp at this; omega
    subst hkR
    rw [splitF_nil]
    exact split_end hv hR a kids K ck cur many h w hs hkids (by omega) (by omega)
  | cons y l ih =>
    intro k a kids K ck cur many h w hd hk ha hkl hck hs hkids hmany
    have hkR : k < R.r.length := by
      rcases Nat.lt_or_ge k R.r.length with h1 | h1
      · exact h1
      · rw [List.drop_eq_nil_of_le h1] at hd; cases hd
    have hd2 : R.r[k] = y ∧ R.r.drop (k + 1) = l := by
      rw [List.drop_eq_getElem_cons hkR] at hd
      injection hd with h1 h2
      exact ⟨h1, h2⟩
    obtain ⟨hy, hdl⟩ := hd2
    have hosy := hok.syms y (by rw [← hy]; simp)
    have hoss : ∀ z ∈ l, OkSym g z := fun z hz => hok.syms z (by rw [← hdl] at hz; exact List.mem_of_mem_drop hz)
    have hML : (M.length : Int) = g.nons := hsh.len
    subst hkl
    obtain ⟨hr1, hr2⟩ := List.getElem?_eq_some_iff.1 hR
    obtain ⟨b, o, rfl, hF, hl, hc1, A', c', hc2, hsy, hcc⟩ := hs.mker.rules.ruleCap rule hr1
    rw [hr2] at hc1 hc2 hsy hcc
    obtain ⟨R', hslice, hrest⟩ := run_drop_sl (P := Tryz.prog) Tryz.underlying97 Tryz.sizeSym rfl hsy hcc (kids.length + 1) (by omega)
    rw [hdl] at hrest
    obtain ⟨b2, o2, rfl, hF2, hl2, hc3, hc4⟩ := hsy.symAt kids.length hkR
    rw [hy] at hc3 hc4
    have hlc : R.r.length - (kids.length + 1) = l.length := by rw [← hdl, List.length_drop]
    rw [hlc] at hrest
    have hslice2 : ∀ w : World, (Instr.slice 97 (.slice (some ⟨b2, o2, none⟩) R.r.length c') (some (.int .i64 ((kids.length : Int) + 1))) none none).run Tryz.prog w = .ok (.slice R' l.length (c' - (kids.length + 1))) w := fun w => by
      have := hslice w
      rw [hlc] at this
      exact this
    generalize c' - (kids.length + 1) = cR at hslice2 hrest
    clear hslice hlc
    obtain ⟨K', hcut, hkcut⟩ := run_cut_sl (P := Tryz.prog) (t := 135) Tryz.underlying135 Tryz.sizeFpart hkids hck
    have hk3 := blk_cell hs.mker.blk (i := 3) rfl
    have hbm := blk_lt hs.mker.blk
    have hrz : (rule : Int) < (g.rules.length : Int) := by omega
    have hkz : ((kids.length : Int) == (R.r.length : Int)) = false := by simp; omega
    have hkz2 : (kids.length : Int) < (R.r.length : Int) := by omega
    have hk4 : kids.length ≤ 3 := by omega
    obtain ⟨ip, hip, hp0, hp2, hp3⟩ := info_parts Tryz.infoFpart
    have HD := Lib.hid hd
    have HDL := Lib.hid hdl
    clear hd hy hdl hc1
    have hs1 := hs.below (w' := w.alloc (.cells #[.bool p.y.t, .int .i64 p.y.n, .int .i64 p.i, .int .i64 p.j] 106)) ((Below.refl _ _).alloc (Nat.le_refl _) _)
    have hbx0 := heap_alloc_new w (.cells #[.bool p.y.t, .int .i64 p.y.n, .int .i64 p.i, .int .i64 p.j] 106)
    obtain ⟨yt, yn⟩ := y
    have hyN : yt = false → yn < (M.length : Int) := fun ht => by have := hosy.nn ht; simp only at this; omega
    have hy0 : 0 ≤ yn := hosy.n0
    unfold partV
    go_enter Tryz.func55, Tryz.ntmps55
    go_wp2_with fail
    refine (fafter_any ⟨yt, yn⟩ a _ hs1.mker hxl ha hy0 hyN hsh.row).mono ?_
    rintro e1 w1 ⟨rfl, hb1⟩
    have hb01 : Below w.heap.size w w1 := ((Below.refl _ _).alloc (Nat.le_refl _) _).trans (hb1.mono (by simp))
    have hs2 := hs.below hb01
    have hst1 : SpStep w w1 bm r h h := SpStep.ofBelow bm r h hb01
    have hkids1 := hst1.keep hkcut
    have hbx1 := blk_below hb1 (by simp) hbx0
    have hrest1 : IsSl Elt.sym (fun b => ¬ SpF bm r h b) w1 (.slice R' l.length cR) l := hst1.keep (hrest.weak fun b hb hF => by
      rcases hF with hF | hF | hF
      · exact hb.2.1 hF
      · exact hb.2.2 hF
      · have := (hs.hown hF).1; omega)
    have hnx := aft1_lt x M ⟨yt, yn⟩ a (by omega) hsh.small
    have hbxw : w.heap.size < w1.heap.size := blk_lt hbx1
    have hoss2 : ∀ z ∈ l, 0 ≤ z.n ∧ (z.t = false → z.n < (M.length : Int)) := fun z hz => ⟨(hoss z hz).n0, fun ht => by have := (hoss z hz).nn ht; omega⟩
    have hc34 := hb01.cell (p := ⟨b2, o2 + kids.length * 2, none⟩) hl2
    have hc44 := hb01.cell (p := ⟨b2, o2 + kids.length * 2 + 1, none⟩) hl2
    rw [hc3] at hc34
    rw [hc4] at hc44
    clear hk3 hc3 hc4 hs1 hb1 hbx0
    go_wp2_with fail
    go_loopg [14] (p.j + 1 - a) (fun gk i wr => ∃ m, a ≤ m ∧ m - a ≤ p.j + 1 - a ∧ gk = p.j + 1 - a - (m - a) ∧ i = .int .i64 m ∧ SpEnd w1 wr bm r base g x M (some ⟨b, o, none⟩) c B d C q l0 p (spFold x M rule p.j a ⟨yt, yn⟩ l kids (cur, many) (m - a)) h)
    case atStart => exact ⟨a, by omega, by omega, by omega, rfl, by rw [Nat.sub_self]; exact ⟨h, SpStep.refl _ _ _ _, hs2⟩⟩
    case round =>
      obtain ⟨m, ham, hm, rfl, rfl, h2, hst2, hsp⟩ := hrel
      have hstep := Lib.hid (spFold_snoc (x := x) (M := M) (rule := rule) (j := p.j) (a := a) (y := ⟨yt, yn⟩) (l := l) (kids := kids) (s := (cur, many)) (n := m - a))
      have hstop := Lib.hid (fun n (h : maxPacks < (spFold x M rule p.j a ⟨yt, yn⟩ l kids (cur, many) (m - a)).2) (hn : m - a ≤ n) => spFold_stop (x := x) (M := M) h hn)
      have hmany2 := spFold_le (x := x) (M := M) (rule := rule) (j := p.j) (a := a) (y := ⟨yt, yn⟩) (l := l) (kids := kids) (s := (cur, many)) (by simp only; omega) (m - a)
      have HS0 := Lib.hid (rfl : spFold x M rule p.j a ⟨yt, yn⟩ l kids (cur, many) (m - a) = spFold x M rule p.j a ⟨yt, yn⟩ l kids (cur, many) (m - a))
      generalize hsg : spFold x M rule p.j a ⟨yt, yn⟩ l kids (cur, many) (m - a) = s at hsp hstep hstop hmany2 HS0
      have HSG := Lib.hid hsg
      clear hsg HS0
      obtain ⟨sc, sm⟩ := s
      simp only at hsp hmany2
      have hbxr := hst2.blk hbx1 (by
        rintro (hF | hF | hF)
        · have := hs2.bml; have := hs.le; omega
        · have := hs2.rl; have := hs.le; omega
        · have := (hs.hown hF).2; omega)
      have hk7 := blk_cell hsp.mker.blk (i := 7) rfl
      have hkb0 := blk_cell hbxr (i := 0) rfl
      have hkb1 := blk_cell hbxr (i := 1) rfl
      have hkb2 := blk_cell hbxr (i := 2) rfl
      have hkb3 := blk_cell hbxr (i := 3) rfl
      have hbmr := blk_lt hsp.mker.blk
      have hbxl := blk_lt hbxr
      by_cases hmj : m ≤ p.j
      · by_cases hmm : sm ≤ maxPacks
        · have hmz : (m : Int) ≤ (p.j : Int) := by omega
          have hmmz : (sm : Int) ≤ 20000 := by unfold maxPacks at hmm; omega
          have hma : m - a + 1 = m + 1 - a := by omega
          have hstep2 := hstep.out
          rw [hma, show a + (m - a) = m by omega] at hstep2
          unfold splitAt at hstep2
          have HST := Lib.hid hstep2
          clear hstep2 hstep hstop
          cases hbit : (aft1 x M ⟨yt, yn⟩ a).testBit m
          · have hbt : (bits BinOp.and IntKind.u32 (((aft1 x M ⟨yt, yn⟩ a : Nat) : Int) / 2 ^ m) 1 == 1) = false := by rw [bit_test1 _ m hnx, hbit]
            have hnew : spFold x M rule p.j a ⟨yt, yn⟩ l kids (cur, many) (m + 1 - a) = (sc, sm) := by rw [HST.out, if_neg (by simp [hbit])]
            have HN := Lib.hid hnew
            clear hnew hbit
            go_wp2_with fail
            go_quiet (fail)
            go_wp2_with fail
            go_roundg (p.j + 1 - a - (m + 1 - a))
            case measure => omega
            case rel => exact ⟨m + 1, by omega, by omega, rfl, by go_num, by rw [HN.out]; exact ⟨h2, hst2.trans (SpStep.ofBelow bm r h2 (below_drewN (Below.refl _ _) _)), hsp.below (below_drewN (Below.refl _ _) _)⟩⟩
          · have hbt : (bits BinOp.and IntKind.u32 (((aft1 x M ⟨yt, yn⟩ a : Nat) : Int) / 2 ^ m) 1 == 1) = true := by rw [bit_test1 _ m hnx, hbit]
            have hr32 := seqEnds_lt hsh.small hxl l (2 ^ m) (pow_lt13 (by omega))
            have hrestr := hst2.keep hrest1
            cases hbit2 : (seqEnds x M l (2 ^ m)).testBit p.j
            · have hbt2 : (bits BinOp.and IntKind.u32 (((seqEnds x M l (2 ^ m) : Nat) : Int) / 2 ^ p.j) 1 == 1) = false := by rw [bit_test1 _ p.j hr32, hbit2]
              have hnew : spFold x M rule p.j a ⟨yt, yn⟩ l kids (cur, many) (m + 1 - a) = (sc, sm) := by rw [HST.out, if_neg (by simp [hbit2])]
              have HN := Lib.hid hnew
              clear hnew hbit hbit2
              go_wp2_with fail
              have p7 := cell_behind hk7
              have p0 := cell_behind hkb0
              have p1 := cell_behind hkb1
              have p2 := cell_behind hkb2
              have p3 := cell_behind hkb3
              refine wp_region_behind (by kernel_rfl) (by kernel_rfl) ?_
              repeat (go_big_quiet_step ((exact Calls.behind (run_any _ l R' _ cR m _ (hsp.mker.below (Behind.h _)) (hrestr.below (Behind.h _)) hxl (by omega) hoss2 hsh.row hsh.small hlow))))
              refine wpQuiet_nil ?_
              intro _ hw'
              obtain ⟨P2, hw''⟩ := hw'
              subst hw''
              go_wp2_with fail
              go_roundg (p.j + 1 - a - (m + 1 - a))
              case measure => omega
              case rel => exact ⟨m + 1, by omega, by omega, rfl, by go_num, by rw [HN.out]; exact ⟨h2, hst2.trans (SpStep.ofBelow bm r h2 P2.h), hsp.below P2.h⟩⟩
            · have hbt2 : (bits BinOp.and IntKind.u32 (((seqEnds x M l (2 ^ m) : Nat) : Int) / 2 ^ p.j) 1 == 1) = true := by rw [bit_test1 _ p.j hr32, hbit2]
              have hnew : spFold x M rule p.j a ⟨yt, yn⟩ l kids (cur, many) (m + 1 - a) = splitF x M rule p.j l m (kids ++ [⟨⟨yt, yn⟩, a, m⟩]) (sc, sm) := by rw [HST.out, if_pos ⟨hmm, hbit, hbit2⟩]
              have HN := Lib.hid hnew
              clear hnew hbit hbit2
              have p7 := cell_behind hk7
              have p0 := cell_behind hkb0
              have p1 := cell_behind hkb1
              have p2 := cell_behind hkb2
              have p3 := cell_behind hkb3
              go_wp2_with fail
              refine wp_region_behind (by kernel_rfl) (by kernel_rfl) ?_
              repeat (go_big_quiet_step ((exact Calls.behind (run_any _ l R' _ cR m _ (hsp.mker.below (Behind.h _)) (hrestr.below (Behind.h _)) hxl (by omega) hoss2 hsh.row hsh.small hlow))))
              refine wpQuiet_nil ?_
              intro _ hw'
              obtain ⟨P2, hw''⟩ := hw'
              subst hw''
              have hbP := P2.h
              generalize P2.w' = W3 at hbP ⊢
              clear p7 p0 p1 p2 p3
              have hst3 := hst2.trans (SpStep.ofBelow bm r h2 hbP)
              have hs3 := hsp.below hbP
              have hbx3 := blk_below hbP hbxl hbxr
              have hk30 := blk_cell hbx3 (i := 0) rfl
              have hk31 := blk_cell hbx3 (i := 1) rfl
              have hk32 := blk_cell hbx3 (i := 2) rfl
              have hk33 := blk_cell hbx3 (i := 3) rfl
              have hkids3 := hst3.keep hkids1
              clear hkb0 hkb1 hkb2 hkb3 hk7 hbt hbt2
              go_wp2_with fail
              have hfb2 : ¬ SpF bm r h b2 := by
                rintro (hF | hF | hF)
                · exact hF2.2.1 hF
                · exact hF2.2.2 hF
                · have := (hs.hown hF).1; omega
              have hy30 := hst3.cell hfb2 hc34
              have hy31 := hst3.cell hfb2 hc44
              have hbA : Below W3.heap.size W3 (W3.alloc (.cells #[.bool yt, .int .i64 yn, .int .i64 a, .int .i64 m] 106)).drew := ((Below.refl _ _).alloc (Nat.le_refl _) _).drew
              have hkA := hkids3.below hbA
              have hbxA := blk_below hbA (blk_lt hbx3) hbx3
              have hkA0 := blk_cell hbxA (i := 0) rfl
              have hkA1 := blk_cell hbxA (i := 1) rfl
              have hkA2 := blk_cell hbxA (i := 2) rfl
              have hkA3 := blk_cell hbxA (i := 3) rfl
              have hwr : IntKind.i64.wrap ((kids.length : Int) + 1) = (kids.length : Int) + 1 := IntWalk.i64_in _ (by omega)
              go_region_law (first | (refine step_append_full _ rfl (.tmp 98) (.tmp 106) 135 rfl 106 ip (.agg #[.bool false, .int .i64 0, .int .i64 0, .int .i64 0]) 4 32 Tryz.underlying135 hip hp0 hp2 hp3 rfl (by decide) K' kids.length (partCells kids) rfl (partCells_length kids) (fun h => sl_none hkA h) (fun a ha => sl_parts hkA a ha) ⟨W3.heap.size, 0, none⟩ 1 1 [.bool yt, .int .i64 yn, .int .i64 a, .int .i64 m] rfl rfl (fun j u hj => cells_new W3 _ _ _ _ hj) (partC_one ⟨⟨yt, yn⟩, a, m⟩) (by omega) (by unfold maxLen; omega) (by omega) ?_; intro A9 c9 w9 hown9 hg9; obtain ⟨hb9, hk9⟩ := split_kids (y := ⟨yt, yn⟩) hs3 hbA hown9 hg9; have hs9 := hs3.below hb9; have hbx9 := blk_below hb9 (blk_lt hbx3) hbx3; have hk90 := blk_cell hbx9 (i := 0) rfl; have hk91 := blk_cell hbx9 (i := 1) rfl; have hk92 := blk_cell hbx9 (i := 2) rfl; have hk93 := blk_cell hbx9 (i := 3) rfl; have hih := ih (kids.length + 1) m (kids ++ [⟨⟨yt, yn⟩, a, m⟩]) A9 c9 sc sm h2 w9 HDL.out (by omega) (by omega) (by simp) (by rw [List.length_append]; exact own_cap hown9) hs9 (by rw [List.length_append]; exact hk9) (by omega); simp only [List.length_append, List.length_singleton, Int.natCast_add, Int.natCast_one] at hih; unfold partV at hih) | (refine step_call rfl 55 Tryz.f55 Tryz.func55 (by kernel_rfl) (by kernel_rfl) [_, _, _, _, _, _] _ rfl [.pointer (some ⟨bm, 0, none⟩), .agg #[.bool p.y.t, .int .i64 p.y.n, .int .i64 p.i, .int .i64 p.j], .int .i64 rule, .int .i64 ((kids.length : Int) + 1), .int .i64 m, .slice A9 (kids.length + 1) c9] rfl _ hih ?_; rintro e10 w10 ⟨rfl, hend⟩; refine ⟨_, rfl, ?_⟩))
              all_goals
                go_wp2_with fail
                go_roundg (p.j + 1 - a - (m + 1 - a))
                case measure => omega
                case rel => exact ⟨m + 1, by omega, by omega, rfl, by go_num, by rw [HN.out]; exact SpEnd.step (hst3.trans (SpStep.ofBelow bm r h2 hb9)) hend⟩
        · have hmmz : decide ((sm : Int) ≤ 20000) = false := by unfold maxPacks at hmm; simp; omega
          have hmz : (m : Int) ≤ (p.j : Int) := by omega
          have hnew := hstop.out (p.j + 1 - a) (by simp only; omega) (by omega)
          have HN := Lib.hid hnew
          clear hnew hstop hstep
          go_wp2_with fail
          refine bodyPost_end (v := .tuple #[]) (by kernel_rfl) rfl ⟨rfl, ?_⟩
          rw [splitF_cons]
          exact SpEnd.step hst1 ⟨h2, hst2, by show SpAt _ _ _ _ _ _ _ _ _ _ _ _ _ _ _ (spFold x M rule p.j a ⟨yt, yn⟩ l kids (cur, many) (p.j + 1 - a)).1 (spFold x M rule p.j a ⟨yt, yn⟩ l kids (cur, many) (p.j + 1 - a)).2 _; rw [HN.out]; exact hsp⟩
      · have hmz : decide ((m : Int) ≤ (p.j : Int)) = false := by simp; omega
        have hma : m - a = p.j + 1 - a := by omega
        have HMA := Lib.hid hma
        clear hstop hstep hma
        go_wp2_with fail
        refine bodyPost_end (v := .tuple #[]) (by kernel_rfl) rfl ⟨rfl, ?_⟩
        rw [splitF_cons]
        exact SpEnd.step hst1 ⟨h2, hst2, by show SpAt _ _ _ _ _ _ _ _ _ _ _ _ _ _ _ (spFold x M rule p.j a ⟨yt, yn⟩ l kids (cur, many) (p.j + 1 - a)).1 (spFold x M rule p.j a ⟨yt, yn⟩ l kids (cur, many) (p.j + 1 - a)).2 _; rw [← HMA.out, HSG.out]; exact hsp⟩
end
end Go.Proofs.YtdbkbkopcnkgcaaGreat

open Go Go.RowKit
open Go.ChangeMaps (setBlock)
namespace Go.Proofs.YtdbkbkopcnkgcaaGreat

theorem Tryz.zeroWays (w : World) : (zeroValue 132).run Tryz.prog w = .ok (.slice none 0 0) w := by kernel_rfl

/-- reach's state -/
structure RAt (w : World) (bm r : Nat) (g : Gram) (x : List Int) (M : List (List Nat)) (A : Option Addr) (c : Nat) (B : Option Addr) (d : Nat) (C : Option Addr) (q : Nat) (s : RS) : Prop where
  ne : bm ≠ r
  mker : MkAt (fun b => b ≠ bm ∧ b ≠ r) w bm g x M A c B d C q (.map (some r)) s.many
  map : ∃ l : List (Part × Hdr), IsMap partV hdrV w r l ∧ l.map (·.1) = s.ways.map (·.1) ∧ ∀ k h v, alook l k = some h → alook s.ways k = some v → IsSl Elt.way (fun b => b ≠ bm ∧ b ≠ r) w (hdrV h) v
  small : s.many ≤ maxPacks + 33

section
variable {w w' : World} {bm r : Nat} {g : Gram} {x : List Int} {M : List (List Nat)} {A : Option Addr} {c : Nat} {B : Option Addr} {d : Nat} {C : Option Addr} {q : Nat} {s : RS} {p : Part}

theorem RAt.below (hs : RAt w bm r g x M A c B d C q s) (hb : Below w.heap.size w w') : RAt w' bm r g x M A c B d C q s := by
  obtain ⟨l, h1, h2, h3⟩ := hs.map
  exact ⟨hs.ne, hs.mker.below hb, ⟨l, h1.below hb, h2, fun k h v hk hv => (h3 k h v hk hv).below hb⟩, hs.small⟩

theorem alook_keys {κ ν μ : Type} [DecidableEq κ] : ∀ (l : List (κ × ν)) (m : List (κ × μ)), l.map (·.1) = m.map (·.1) → ∀ k, (alook l k).isSome = (alook m k).isSome
  | [], [], _, _ => rfl
  | [], _ :: _, h, _ => by simp at h
  | _ :: _, [], h, _ => by simp at h
  | (a, b) :: l, (a', b') :: m, h, k => by
    simp only [List.map_cons, List.cons.injEq] at h
    obtain ⟨rfl, h⟩ := h
    unfold alook
    by_cases e : a = k
    · simp [e]
    · simp only [e, if_false]; exact alook_keys l m h k

/-- what reach leaves -/
def REnd (w w' : World) (bm r : Nat) (g : Gram) (x : List Int) (M : List (List Nat)) (A : Option Addr) (c : Nat) (B : Option Addr) (d : Nat) (C : Option Addr) (q : Nat) (s : RS) : Prop := RAt w' bm r g x M A c B d C q s ∧ Away w.heap.size (fun b => b = bm ∨ b = r) w w'

/-- reach, at a part that is known, or with too many packs -/
theorem reach_known (p : Part) (w : World) (hs : RAt w bm r g x M A c B d C q s) (hk : (alook s.ways p).isSome = true ∨ maxPacks < s.many) :
    Calls Tryz.prog 36 #[.pointer (some ⟨bm, 0, none⟩), partV p] w fun e w' => e = .returned (.tuple #[]) ∧ REnd w w' bm r g x M A c B d C q s := by
  obtain ⟨l, hm, hkeys, hrd⟩ := hs.map
  have hkk := alook_keys l s.ways hkeys p
  have hbA : Below w.heap.size w (w.alloc (.cells #[.bool p.y.t, .int .i64 p.y.n, .int .i64 p.i, .int .i64 p.j] 106)) := (Below.refl _ _).alloc (Nat.le_refl _) _
  have hs1 := hs.below hbA
  have hbx := heap_alloc_new w (.cells #[.bool p.y.t, .int .i64 p.y.n, .int .i64 p.i, .int .i64 p.j] 106)
  have hk6 := cell_behind (blk_cell hs1.mker.blk (i := 6) rfl)
  have hb0 := cell_behind (blk_cell hbx (i := 0) rfl)
  have hb1 := cell_behind (blk_cell hbx (i := 1) rfl)
  have hb2 := cell_behind (blk_cell hbx (i := 2) rfl)
  have hb3 := cell_behind (blk_cell hbx (i := 3) rfl)
  have hlook : ∀ P : Behind (w.alloc (.cells #[.bool p.y.t, .int .i64 p.y.n, .int .i64 p.i, .int .i64 p.j] 106)), (Instr.lookup 54 (.map (some r)) (partV p) true).run Tryz.prog P.w' = .ok (.tuple #[((alook l p).map hdrV).getD (.slice none 0 0), .bool (alook l p).isSome]) P.w' := fun P => run_look_ok Tryz.partKey Tryz.underlying54 Tryz.zeroWays ((hm.below hbA).below P.h) p
  unfold partV at hlook ⊢
  have h7 := blk_cell hs1.mker.blk (i := 7) rfl
  cases hp : (alook l p).isSome
  · rw [hkk] at hp
    have hgt : maxPacks < s.many := by rcases hk with h | h; · rw [hp] at h; cases h
                                       · exact h
    have hgz : (20000 : Int) < (s.many : Int) := by unfold maxPacks at hgt; omega
    rw [← hkk] at hp
    rw [hp] at hlook
    generalize ((alook l p).map hdrV).getD (.slice none 0 0) = u at hlook
    clear hk hkk hp hkeys hrd hm hgt
    go_enter Tryz.func36, Tryz.ntmps36
    go_wp2_with fail
    refine wp_region_behind (by kernel_rfl) (by kernel_rfl) ?_
    repeat (go_big_quiet_step (fail))
    refine wpQuiet_nil ?_
    intro _ hw'
    obtain ⟨P2, hw''⟩ := hw'
    subst hw''
    have hbP := P2.h
    have h7P := cell_behind h7 P2
    clear hlook hk6 hb0 hb1 hb2 hb3 h7
    generalize P2.w' = W3 at hbP h7P ⊢
    go_wp2_with fail
    exact bodyPost_ret (v := .tuple #[]) (by kernel_rfl) rfl ⟨rfl, hs1.below hbP, Away.ofBelow (hbA.trans (hbP.mono (by simp)))⟩
  · rw [hp] at hlook
    generalize ((alook l p).map hdrV).getD (.slice none 0 0) = u at hlook
    clear hk hkk hp hkeys hrd hm
    go_enter Tryz.func36, Tryz.ntmps36
    go_wp2_with fail
    refine wp_region_behind (by kernel_rfl) (by kernel_rfl) ?_
    repeat (go_big_quiet_step (fail))
    refine wpQuiet_nil ?_
    intro _ hw'
    obtain ⟨P2, hw''⟩ := hw'
    subst hw''
    have hbP := P2.h
    clear hlook hk6 hb0 hb1 hb2 hb3 h7
    generalize P2.w' = W3 at hbP ⊢
    go_wp2_with fail
    exact bodyPost_ret (v := .tuple #[]) (by kernel_rfl) rfl ⟨rfl, hs1.below hbP, Away.ofBelow (hbA.trans (hbP.mono (by simp)))⟩

theorem IsSl.wayAt {F : Nat → Prop} {w : World} {A : Option Addr} {n c : Nat} {xs : List Way} (h : IsSl Elt.way F w (.slice A n c) xs) (k : Nat) (hk : k < xs.length) :
    ∃ b o, A = some ⟨b, o, none⟩ ∧ F b ∧ b < w.heap.size ∧ w.cell? ⟨b, o + k * 2, none⟩ = some (.int .i64 xs[k].rule) ∧
      ∃ A' c', w.cell? ⟨b, o + k * 2 + 1, none⟩ = some (.slice A' xs[k].kids.length c') ∧ IsSl Elt.fpart F w (.slice A' xs[k].kids.length c') xs[k].kids := by
  obtain ⟨A', c', he, hl, h⟩ := h
  injection he with h1 h2 h3
  subst h1
  obtain ⟨b, o, rfl, hb, hlt, he⟩ := h k hk
  obtain ⟨⟨_, h1⟩, _, A2, c2, h2, _, h3⟩ := he
  exact ⟨b, o, rfl, hb, hlt, h1, A2, c2, h2, h3⟩
/-- what lies apart from the two blocks is read as before -/
theorem sl_away {α : Type} {e : Elt α} {v : Value} {l : List α} (ha : Away w.heap.size (fun b => b = bm ∨ b = r) w w') (h : IsSl e (fun b => b ≠ bm ∧ b ≠ r) w v l) : IsSl e (fun b => b ≠ bm ∧ b ≠ r) w' v l :=
  (h.old.keep (fun b hb => ha.block b hb.2 (by rintro (e | e); exact hb.1.1 e; exact hb.1.2 e)) ha.size).weak fun b hb => hb.1
theorem drop_foldlM {α σ : Type} {f : σ → α → Option σ} {l : List α} {n : Nat} (h : n < l.length) {t s' : σ} (hd : (l.drop n).foldlM f t = some s') : ∃ t1, f t l[n] = some t1 ∧ (l.drop (n + 1)).foldlM f t1 = some s' := by
  rw [List.drop_eq_getElem_cons h, List.foldlM_cons] at hd
  cases h1 : f t l[n] with
  | none => rw [h1] at hd; cases hd
  | some t1 => rw [h1] at hd; exact ⟨t1, rfl, hd⟩

theorem foldl_take_snoc {α σ : Type} (f : σ → α → σ) (s : σ) (l : List α) (n : Nat) (h : n < l.length) : (l.take (n + 1)).foldl f s = f ((l.take n).foldl f s) l[n] := by
  rw [List.take_succ_eq_append_getElem h, List.foldl_append]; rfl
theorem ruleF_le {rn : Rule × Nat} {s : List Way × Nat} {n : Nat} (h : s.2 ≤ maxPacks + 1 + n) : (ruleF x M p s rn).2 ≤ maxPacks + 1 + (n + 1) := by
  unfold ruleF
  split
  · by_cases h2 : s.2 ≤ maxPacks
    · exact Nat.le_trans (splitF_le _ _ _ _ h2) (by omega)
    · cases hr : rn.1.r with
      | nil => rw [splitF_nil]; simp only; omega
      | cons y l => rw [splitF_cons, splitAt_stop (by omega)]; omega
  · omega
theorem rules_le {l : List (Rule × Nat)} {m : Nat} (hm : m ≤ maxPacks) : ∀ n, ((l.take n).foldl (ruleF x M p) ([], m)).2 ≤ maxPacks + 1 + n
  | 0 => by simp; omega
  | n + 1 => by
    by_cases h : n < l.length
    · rw [foldl_take_snoc _ _ _ _ h]; exact ruleF_le (rules_le hm n)
    · have h1 := rules_le (l := l) hm n
      rw [List.take_of_length_le (by omega)] at h1 ⊢; omega

/-- from reach's state to split's -/
theorem RAt.toSp {l : List (Part × Hdr)} {o : Obj} (hs : RAt w bm r g x M A c B d C q s) (_hm : IsMap partV hdrV w r l) (hput : IsMap partV hdrV (setBlock w r o) r (aput l p ((none, 0, 0) : Hdr))) : SpAt (setBlock w r o) bm r w.heap.size g x M A c B d C q l p [] s.many (none, 0, 0) := by
  have hk : ∀ b, b ≠ r → (setBlock w r o).heap[b]? = w.heap[b]? := fun b hb => setBlock_other _ _ _ hb
  have hle : w.heap.size ≤ (setBlock w r o).heap.size := by rw [setBlock_size]; exact Nat.le_refl _
  refine ⟨blk_lt hs.mker.blk, _hm.lt, hs.ne, hle, ⟨(hk _ hs.ne).trans hs.mker.blk, ?_, ?_, ?_⟩, hput, ⟨[], OwnWays.nil _ _⟩, by simp⟩
  · exact (hs.mker.rules.old.keep (fun b hb => hk b hb.1.2) hle).weak fun b hb => ⟨hb.2, hb.1.1, hb.1.2⟩
  · exact (hs.mker.word.old.keep (fun b hb => hk b hb.1.2) hle).weak fun b hb => ⟨hb.2, hb.1.1, hb.1.2⟩
  · exact (hs.mker.mat.old.keep (fun b hb => hk b hb.1.2) hle).weak fun b hb => ⟨hb.2, hb.1.1, hb.1.2⟩

/-- from split's state back to reach's -/
theorem SpAt.toR {l : List (Part × Hdr)} {o : Obj} {cur : List Way} {many : Nat} {h : Hdr} (hs : RAt w bm r g x M A c B d C q s) (hkeys : l.map (·.1) = s.ways.map (·.1)) (hrd : ∀ k h v, alook l k = some h → alook s.ways k = some v → IsSl Elt.way (fun b => b ≠ bm ∧ b ≠ r) w (hdrV h) v)
    (hst : SpStep (setBlock w r o) w' bm r (none, 0, 0) h) (hsp : SpAt w' bm r w.heap.size g x M A c B d C q l p cur many h) (hp : alook s.ways p = none) (hsm : many ≤ maxPacks + 33) :
    REnd w w' bm r g x M A c B d C q ⟨aput s.ways p cur, many⟩ := by
  have haw : Away w.heap.size (fun b => b = bm ∨ b = r) w w' := by
    have h1 : Away w.heap.size (fun b => b = bm ∨ b = r) w (setBlock w r o) := ⟨rfl, rfl, rfl, by rw [setBlock_size]; exact Nat.le_refl _, fun j _ hF => setBlock_other _ _ _ fun e => hF (.inr e)⟩
    refine h1.trans (hst.away.mono (by rw [setBlock_size]; exact Nat.le_refl _) fun j _ hF => ?_)
    rcases hF with hF | hF | hF
    · exact .inl hF
    · exact .inr hF
    · cases hF
  have hpl : alook l p = none := by
    have := alook_keys l s.ways hkeys p
    rw [hp] at this
    cases h : alook l p with
    | none => rfl
    | some v => rw [h] at this; cases this
  refine ⟨⟨hs.ne, ⟨hsp.mker.blk, hsp.mker.rules.weak (fun b hb => hb.2), hsp.mker.word.weak (fun b hb => hb.2), hsp.mker.mat.weak (fun b hb => hb.2)⟩, ⟨_, hsp.map, ?_, ?_⟩, hsm⟩, haw⟩
  · simp only
    rw [aput_new (alook_none.1 hpl), aput_new (alook_none.1 hp), List.map_append, List.map_append, hkeys]
    rfl
  · intro k h' v hk hv
    simp only at hv
    rw [alook_put] at hk hv
    by_cases e : p = k
    · rw [if_pos e] at hk hv
      injection hk with hk; injection hv with hv
      subst hk; subst hv
      obtain ⟨xs, ho⟩ := hsp.own
      have h1 := hsp.bml
      have h2 := hsp.rl
      exact ho.isSl.weak fun b hb => by omega
    · rw [if_neg e] at hk hv
      exact ((hrd k h' v hk hv).old.keep (fun b hb => haw.block b hb.2 (by rintro (e | e); exact hb.1.1 e; exact hb.1.2 e)) haw.size).weak fun b hb => hb.1

structure OkPart (g : Gram) (x : List Int) (p : Part) : Prop where
  sym : OkSym g p.y
  i : p.i ≤ x.length
  j : p.j ≤ x.length

set_option maxRecDepth 100000 in
set_option maxHeartbeats 3200000 in
theorem reach_any (hv : Valid g) (hxl : x.length ≤ 12) (hsh : MShape g x M) (hlow : MLow M) : ∀ (f : Nat) (p : Part) (s s' : RS) (w : World), reachF g x M f p s = some s' → OkPart g x p → RAt w bm r g x M A c B d C q s →
    Calls Tryz.prog 36 #[.pointer (some ⟨bm, 0, none⟩), partV p] w fun e w' => e = .returned (.tuple #[]) ∧ REnd w w' bm r g x M A c B d C q s' := by
  intro f
  induction f with
  | zero => intro p s s' w h; rw [reachF] at h; cases h
  | succ f ih =>
    intro p s s' w hf hok hs
    by_cases hk : (alook s.ways p).isSome = true ∨ maxPacks < s.many
    · rw [reachF, if_pos hk] at hf
      injection hf with hf
      subst hf
      exact reach_known p w hs hk
    · rw [reachF, if_neg hk] at hf
      have hp : alook s.ways p = none := by
        cases h : alook s.ways p with
        | none => rfl
        | some v => exact absurd (.inl (by rw [h]; rfl)) hk
      have hmm : s.many ≤ maxPacks := by
        rcases Nat.lt_or_ge maxPacks s.many with h | h
        · exact absurd (.inr h) hk
        · exact h
      obtain ⟨l, hm, hkeys, hrd⟩ := hs.map
      have hpl : alook l p = none := by
        have := alook_keys l s.ways hkeys p
        rw [hp] at this
        cases h : alook l p with
        | none => rfl
        | some v => rw [h] at this; cases this
      have hbA : Below w.heap.size w (w.alloc (.cells #[.bool p.y.t, .int .i64 p.y.n, .int .i64 p.i, .int .i64 p.j] 106)) := (Below.refl _ _).alloc (Nat.le_refl _) _
      have hs1 := hs.below hbA
      have hbx := heap_alloc_new w (.cells #[.bool p.y.t, .int .i64 p.y.n, .int .i64 p.i, .int .i64 p.j] 106)
      have hk6 := cell_behind (blk_cell hs1.mker.blk (i := 6) rfl)
      have hb0 := cell_behind (blk_cell hbx (i := 0) rfl)
      have hb1 := cell_behind (blk_cell hbx (i := 1) rfl)
      have hb2 := cell_behind (blk_cell hbx (i := 2) rfl)
      have hb3 := cell_behind (blk_cell hbx (i := 3) rfl)
      have hlook : ∀ P : Behind (w.alloc (.cells #[.bool p.y.t, .int .i64 p.y.n, .int .i64 p.i, .int .i64 p.j] 106)), (Instr.lookup 54 (.map (some r)) (partV p) true).run Tryz.prog P.w' = .ok (.tuple #[.slice none 0 0, .bool false]) P.w' := fun P => by
        have := run_look_ok Tryz.partKey Tryz.underlying54 Tryz.zeroWays ((hm.below hbA).below P.h) p
        rw [hpl] at this
        exact this
      unfold partV at hlook ⊢
      have h7 := blk_cell hs1.mker.blk (i := 7) rfl
      have hmz : decide ((20000 : Int) < (s.many : Int)) = false := by unfold maxPacks at hmm; simp; omega
      clear hk
      go_enter Tryz.func36, Tryz.ntmps36
      go_wp2_with fail
      refine wp_region_behind (by kernel_rfl) (by kernel_rfl) ?_
      repeat (go_big_quiet_step (fail))
      refine wpQuiet_nil ?_
      intro _ hw'
      obtain ⟨P2, hw''⟩ := hw'
      subst hw''
      have hbP := P2.h
      have h7P := cell_behind h7 P2
      clear hlook hk6 hb0 hb1 hb2 hb3 h7
      generalize P2.w' = W3 at hbP h7P ⊢
      have hb3 : Below w.heap.size w W3 := hbA.trans (hbP.mono (by simp))
      have hs3 := hs1.below hbP
      have hm3 := (hm.below hbA).below hbP
      have hrd3 : ∀ k h v, alook l k = some h → alook s.ways k = some v → IsSl Elt.way (fun b => b ≠ bm ∧ b ≠ r) W3 (hdrV h) v := fun k h v h1 h2 => (hrd k h v h1 h2).below hb3
      have hbx3 := blk_below hbP (by simp) hbx
      go_wp2_with fail
      clear h7P hmz
      have hk6 := blk_cell hs3.mker.blk (i := 6) rfl
      have hb30 := blk_cell hbx3 (i := 0) rfl
      have hb31 := blk_cell hbx3 (i := 1) rfl
      have hb32 := blk_cell hbx3 (i := 2) rfl
      have hb33 := blk_cell hbx3 (i := 3) rfl
      obtain ⟨o4, hput, hm4⟩ := (hm3.same (w' := W3.drew) rfl).put (P := Tryz.prog) Tryz.partKey Tryz.underlying54 p ((none, 0, 0) : Hdr)
      unfold partV hdrV at hput
      go_region
      have hs4 := hs3.below (w' := W3.drew) ((Below.refl _ _).drew)
      have hsp4 := hs4.toSp (hm3.same (w' := W3.drew) rfl) hm4
      have hb4 : Below w.heap.size w W3.drew := hb3.trans ((Below.refl _ _).drew.mono hb3.size)
      have hrd4 : ∀ k h v, alook l k = some h → alook s.ways k = some v → IsSl Elt.way (fun b => b ≠ bm ∧ b ≠ r) W3.drew (hdrV h) v := fun k h v h1 h2 => (hrd3 k h v h1 h2).below ((Below.refl _ _).drew)
      have hrne : w.heap.size ≠ r := fun e => by have := hm.lt; omega
      have hbx4 : (setBlock W3.drew r o4).heap[w.heap.size]? = _ := (setBlock_other _ _ _ hrne).trans hbx3
      have hrl := hm3.lt
      clear hk6 hb30 hb31 hb32 hb33 hput hs1 hbx hbA hm3 hrd3 hs3
      generalize hW4 : W3.drew = W4 at hm4 hs4 hsp4 hb4 hrd4 hbx4 ⊢
      have hW4l : r < W4.heap.size := by rw [← hW4]; exact hrl
      clear hW4 hbx3 hbP hb3
      have hb40 := blk_cell hbx4 (i := 0) rfl
      have hb41 := blk_cell hbx4 (i := 1) rfl
      have hb42 := blk_cell hbx4 (i := 2) rfl
      have hb43 := blk_cell hbx4 (i := 3) rfl
      have hk43 := blk_cell hsp4.mker.blk (i := 3) rfl
      cases hyt : p.y.t
      · rw [hyt] at hb40
        have hyn : p.y.n < (M.length : Int) := by have := hok.sym.nn hyt; have := hsh.len; omega
        rw [if_neg (by rw [hyt]; decide)] at hf
        have hi12 : p.i ≤ x.length := hok.i
        have hj12 : p.j ≤ x.length := hok.j
        have hbml := blk_lt hs.mker.blk
        have hrl0 := hm.lt
        have hws : w.heap.size ≤ W4.heap.size := hb4.size
        have hxW := blk_lt hbx4
        rw [setBlock_size] at hxW
        have h32 := hv.len
        clear hb41 hb42 hb43
        go_wp2_with fail
        clear hk43 hb40
        go_loopg [43] g.rules.length (fun gk i wr => ∃ n, n ≤ g.rules.length ∧ gk = g.rules.length - n ∧ i = .int .i64 n ∧ SpEnd (setBlock W4 r o4) wr bm r W4.heap.size g x M A c B d C q l p ((g.rules.zipIdx.take n).foldl (ruleF x M p) ([], s.many)) (none, 0, 0))
        case atStart => exact ⟨0, by omega, by omega, rfl, ⟨(none, 0, 0), SpStep.refl _ _ _ _, hsp4⟩⟩
        case round =>
          obtain ⟨n, hn, rfl, rfl, h2, hst2, hsp⟩ := hrel
          by_cases hlt : n < g.rules.length
          · have hstep := Lib.hid (foldl_take_snoc (ruleF x M p) ([], s.many) g.rules.zipIdx n (by simpa using hlt))
            have hle := rules_le (x := x) (M := M) (p := p) (l := g.rules.zipIdx) hmm n
            generalize (g.rules.zipIdx.take n).foldl (ruleF x M p) ([], s.many) = st at hsp hstep hle
            obtain ⟨sc, sm⟩ := st
            simp only at hsp hle
            obtain ⟨b, o, hA, hF, hl, hc1, A', c', hc2, hsy, hcap⟩ := hsp.mker.rules.ruleCap n hlt
            have hRn : g.rules[n]? = some g.rules[n] := List.getElem?_eq_getElem hlt
            have hokR := hv.ok g.rules[n] (by simp)
            rw [List.getElem_zipIdx, Nat.zero_add] at hstep
            have hnz : (n : Int) < (g.rules.length : Int) := by omega
            generalize g.rules[n] = R at hc1 hc2 hsy hcap hRn hokR hstep
            subst hA
            have hbxr := hst2.blk hbx4 (by
              rintro (hF | hF | hF)
              · omega
              · omega
              · cases hF)
            have hbA : Below wr.heap.size wr (wr.alloc (.cells #[.int .i64 R.l, .slice A' R.r.length c'] 99)) := (Below.refl _ _).alloc (Nat.le_refl _) _
            have hst3 := hst2.trans (SpStep.ofBelow bm r h2 hbA)
            have hsp3 := hsp.below hbA
            have hbx3 := blk_below hbA (blk_lt hbxr) hbxr
            have hrb := heap_alloc_new wr (.cells #[.int .i64 R.l, .slice A' R.r.length c'] 99)
            have hsy3 := hsy.below hbA
            have q0 := cell_behind (blk_cell hbx3 (i := 0) rfl)
            have q1 := cell_behind (blk_cell hbx3 (i := 1) rfl)
            have q2 := cell_behind (blk_cell hbx3 (i := 2) rfl)
            have q3 := cell_behind (blk_cell hbx3 (i := 3) rfl)
            have r0 := cell_behind (blk_cell hrb (i := 0) rfl)
            have r1 := cell_behind (blk_cell hrb (i := 1) rfl)
            have hss : ∀ z ∈ R.r, 0 ≤ z.n ∧ (z.t = false → z.n < (M.length : Int)) := fun z hz => ⟨(hokR.syms z hz).n0, fun ht => by have := (hokR.syms z hz).nn ht; have := hsh.len; omega⟩
            have hr32 := seqEnds_lt hsh.small hxl R.r (2 ^ p.i) (pow_lt13 (by omega))
            have hnot : ¬ (R.l = p.y.n ∧ (seqEnds x M R.r (2 ^ p.i)).testBit p.j = true) → (g.rules.zipIdx.take (n + 1)).foldl (ruleF x M p) ([], s.many) = (sc, sm) := fun h => by rw [hstep.out]; unfold ruleF; rw [if_neg h]
            have hyes : (R.l = p.y.n ∧ (seqEnds x M R.r (2 ^ p.i)).testBit p.j = true) → (g.rules.zipIdx.take (n + 1)).foldl (ruleF x M p) ([], s.many) = splitF x M n p.j R.r p.i [] (sc, sm) := fun h => by rw [hstep.out]; unfold ruleF; rw [if_pos h]
            clear hstep
            by_cases hlf : R.l = p.y.n
            · have hlz : (R.l == p.y.n) = true := by simp [hlf]
              cases hbit : (seqEnds x M R.r (2 ^ p.i)).testBit p.j
              · have hN := Lib.hid (hnot (by simp [hbit]))
                have hbt2 : (bits BinOp.and IntKind.u32 (((seqEnds x M R.r (2 ^ p.i) : Nat) : Int) / 2 ^ p.j) 1 == 1) = false := by rw [bit_test1 _ p.j hr32, hbit]
                clear hnot hyes hbit hlf
                go_wp2_with fail
                refine wp_region_behind (by kernel_rfl) (by kernel_rfl) ?_
                repeat (go_big_quiet_step ((exact Calls.behind (run_any _ R.r A' _ c' p.i _ (hsp3.mker.below (Behind.h _)) (hsy3.below (Behind.h _)) hxl hi12 hss hsh.row hsh.small hlow))))
                refine wpQuiet_nil ?_
                intro _ hw'
                obtain ⟨P2, hw''⟩ := hw'
                subst hw''
                go_wp2_with fail
                go_roundg (g.rules.length - (n + 1))
                case measure => omega
                case rel => exact ⟨n + 1, by omega, rfl, by go_num, by rw [hN.out]; exact ⟨h2, hst3.trans (SpStep.ofBelow bm r h2 P2.h), hsp3.below P2.h⟩⟩
              · have hN := Lib.hid (hyes ⟨hlf, hbit⟩)
                have hbt2 : (bits BinOp.and IntKind.u32 (((seqEnds x M R.r (2 ^ p.i) : Nat) : Int) / 2 ^ p.j) 1 == 1) = true := by rw [bit_test1 _ p.j hr32, hbit]
                clear hnot hyes hbit hlf
                go_wp2_with fail
                refine wp_region_behind (by kernel_rfl) (by kernel_rfl) ?_
                repeat (go_big_quiet_step ((exact Calls.behind (run_any _ R.r A' _ c' p.i _ (hsp3.mker.below (Behind.h _)) (hsy3.below (Behind.h _)) hxl hi12 hss hsh.row hsh.small hlow))))
                refine wpQuiet_nil ?_
                intro _ hw'
                obtain ⟨P2, hw''⟩ := hw'
                subst hw''
                have hbP := P2.h
                have v0 := q0 P2
                have v1 := q1 P2
                have v2 := q2 P2
                have v3 := q3 P2
                generalize P2.w' = W6 at hbP v0 v1 v2 v3 ⊢
                clear q0 q1 q2 q3 r0 r1 hbt2
                have hst6 := hst3.trans (SpStep.ofBelow bm r h2 hbP)
                have hsp6 := hsp3.below hbP
                have hsplit : Calls Tryz.prog 55 #[.pointer (some ⟨bm, 0, none⟩), .agg #[.bool p.y.t, .int .i64 p.y.n, .int .i64 p.i, .int .i64 p.j], .int .i64 n, .int .i64 0, .int .i64 p.i, .slice none 0 0] W6 fun e w' => e = .returned (.tuple #[]) ∧ SpEnd W6 w' bm r W4.heap.size g x M (some ⟨b, o, none⟩) c B d C q l p (splitF x M n p.j R.r p.i [] (sc, sm)) h2 :=
                  split_any hv hxl hsh hlow hRn hj12 R.r 0 p.i [] none 0 sc sm h2 W6 rfl (Nat.zero_le _) hi12 rfl (Nat.le_refl _) hsp6 ⟨none, 0, rfl, by simp, fun k hk => absurd hk (by simp)⟩ (by have := hv.len; omega)
                rw [hyt] at hsplit
                go_wp2_with fail
                refine hsplit.mono ?_
                rintro e7 w7 ⟨rfl, hend⟩
                go_wp2_with fail
                go_roundg (g.rules.length - (n + 1))
                case measure => omega
                case rel => exact ⟨n + 1, by omega, rfl, by go_num, by rw [hN.out]; exact SpEnd.step hst6 hend⟩
            · have hlz : (R.l == p.y.n) = false := by simp [hlf]
              have hN := Lib.hid (hnot (fun h => hlf h.1))
              clear hnot hyes hlf
              go_wp2_with fail
              refine wp_region_behind (by kernel_rfl) (by kernel_rfl) ?_
              repeat (go_big_quiet_step (fail))
              refine wpQuiet_nil ?_
              intro _ hw'
              obtain ⟨P2, hw''⟩ := hw'
              subst hw''
              go_wp2_with fail
              go_roundg (g.rules.length - (n + 1))
              case measure => omega
              case rel => exact ⟨n + 1, by omega, rfl, by go_num, by rw [hN.out]; exact ⟨h2, hst3.trans (SpStep.ofBelow bm r h2 P2.h), hsp3.below P2.h⟩⟩
          · obtain rfl : n = g.rules.length := by omega
            have hle := rules_le (x := x) (M := M) (p := p) (l := g.rules.zipIdx) hmm g.rules.length
            rw [List.take_of_length_le (by simp)] at hsp hle
            have hfin := SpAt.toR hs4 hkeys hrd4 hst2 hsp hp (by have := hv.len; omega)
            change REnd W4 wr bm r g x M A c B d C q ⟨aput s.ways p (rulesF g x M p s.many).1, (rulesF g x M p s.many).2⟩ at hfin
            have hwok := rulesF_ok hv hi12 hj12 (M := M) s.many
            have hbxr := hst2.blk hbx4 (by
              rintro (hF | hF | hF)
              · omega
              · omega
              · cases hF)
            have hb7 : Away w.heap.size (fun b => b = bm ∨ b = r) w wr := (Away.ofBelow hb4).trans (hfin.2.mono hb4.size (fun _ _ h => h))
            have hs7 := hfin.1
            clear hfin hst2 hsp hle hwok
            have hwok := rulesF_ok hv hi12 hj12 (M := M) s.many
            generalize rulesF g x M p s.many = rr at hf hs7 hwok
            obtain ⟨l7, hm7, hkeys7, hrd7⟩ := hs7.map
            have hl7 : ∃ h7, alook l7 p = some h7 := by
              have := alook_keys l7 _ hkeys7 p
              simp only [alook_aput_same] at this
              cases h : alook l7 p with
              | none => rw [h] at this; cases this
              | some v => exact ⟨v, rfl⟩
            obtain ⟨h7, hl7⟩ := hl7
            have hways := hrd7 p h7 rr.1 hl7 (alook_aput_same _ _ _)
            obtain ⟨H1, H3, hH⟩ := hways.form
            rw [hH] at hways
            have hlook : ∀ P : Behind wr, (Instr.lookup 54 (.map (some r)) (.agg #[.bool p.y.t, .int .i64 p.y.n, .int .i64 p.i, .int .i64 p.j]) false).run Tryz.prog P.w' = .ok (.slice H1 rr.1.length H3) P.w' := fun P => by
              have := run_look Tryz.partKey Tryz.underlying54 Tryz.zeroWays (hm7.below P.h) p
              rw [hl7, Option.map_some, Option.getD_some, hH] at this
              exact this
            rw [hyt] at hlook
            have q6 := cell_behind (blk_cell hs7.mker.blk (i := 6) rfl)
            have q0 := cell_behind (blk_cell hbxr (i := 0) rfl)
            have q1 := cell_behind (blk_cell hbxr (i := 1) rfl)
            have q2 := cell_behind (blk_cell hbxr (i := 2) rfl)
            have q3 := cell_behind (blk_cell hbxr (i := 3) rfl)
            rw [hyt] at q0
            have hwl := hways.len.2
            clear hm7 hkeys7 hrd7 hl7 hH
            go_wp2_with fail
            refine wp_region_behind (by kernel_rfl) (by kernel_rfl) ?_
            repeat (go_big_quiet_step (fail))
            refine wpQuiet_nil ?_
            intro _ hw'
            obtain ⟨P2, hw''⟩ := hw'
            subst hw''
            have hbP := P2.h
            generalize P2.w' = W8 at hbP ⊢
            clear hlook q6 q0 q1 q2 q3
            have hs8 := hs7.below hbP
            have hways8 := hways.below hbP
            have hb8 : Away w.heap.size (fun b => b = bm ∨ b = r) w W8 := hb7.trans ((Away.ofBelow hbP).mono hb7.size (fun _ _ h => h))
            clear hs7 hways hbP hb7 hbxr
            go_wp2_with fail
            go_loopg [81] rr.1.length (fun gk i wr => ∃ n t, n ≤ rr.1.length ∧ gk = rr.1.length - n ∧ i = .int .i64 n ∧ (rr.1.drop n).foldlM (fun s v => v.kids.foldlM (fun s k => reachF g x M f k s) s) t = some s' ∧ REnd W8 wr bm r g x M A c B d C q t)
            case atStart => exact ⟨0, _, by omega, by omega, rfl, hf, hs8, Away.refl _ _ _⟩
            case round =>
              clear hf hs8
              obtain ⟨n, t, hn, rfl, rfl, hf, hs9, ha9⟩ := hrel
              by_cases hlt : n < rr.1.length
              · obtain ⟨t1, hf1, hf2⟩ := drop_foldlM hlt hf
                obtain ⟨b, o, rfl, hF, hl, hc1, A', c', hc2, hkd⟩ := (sl_away ha9 hways8).wayAt n hlt
                have hokv := hwok rr.1[n] (by simp)
                have hnz : (n : Int) < (rr.1.length : Int) := by omega
                generalize rr.1[n] = v at hc1 hc2 hkd hf1 hokv
                obtain ⟨wo, rfl⟩ : ∃ wo : World, wo = wr := ⟨_, rfl⟩
                go_wp2_with fail
                have hbA : Below wo.heap.size wo (wo.alloc (.cells #[.int .i64 v.rule, .slice A' v.kids.length c'] 137)) := (Below.refl _ _).alloc (Nat.le_refl _) _
                have hs10 := hs9.below hbA
                have hkd10 := hkd.below hbA
                have ha10 : Away W8.heap.size (fun b => b = bm ∨ b = r) W8 (wo.alloc (.cells #[.int .i64 v.rule, .slice A' v.kids.length c'] 137)) := ha9.trans ((Away.ofBelow hbA).mono ha9.size (fun _ _ h => h))
                generalize (wo.alloc (.cells #[.int .i64 v.rule, .slice A' v.kids.length c'] 137)) = W10 at hs10 hkd10 ha10 ⊢
                clear hc1 hc2 hkd hs9 hbA
                have hk4 := hokv.short
                go_loopg [88] v.kids.length (fun gk i wr => ∃ m t, m ≤ v.kids.length ∧ gk = v.kids.length - m ∧ i = .int .i64 m ∧ (v.kids.drop m).foldlM (fun s k => reachF g x M f k s) t = some t1 ∧ REnd W10 wr bm r g x M A c B d C q t)
                case atStart => exact ⟨0, t, by omega, by omega, rfl, hf1, hs10, Away.refl _ _ _⟩
                case round =>
                  clear hf1 hs10
                  obtain ⟨m, t2, hm2, rfl, rfl, hf1, hs11, ha11⟩ := hrel
                  by_cases hlt2 : m < v.kids.length
                  · obtain ⟨t3, hf3, hf4⟩ := drop_foldlM hlt2 hf1
                    obtain ⟨b2, o2, rfl, hF2, hl2, hd0, hd1, hd2, hd3⟩ := (sl_away ha11 hkd10).partAt m hlt2
                    have hokk := hokv.ok v.kids[m] (by simp)
                    have hmz : (m : Int) < (v.kids.length : Int) := by omega
                    generalize v.kids[m] = k at hd0 hd1 hd2 hd3 hf3 hokk
                    have hbB : Below wr.heap.size wr (wr.alloc (.cells #[.bool k.y.t, .int .i64 k.y.n, .int .i64 k.i, .int .i64 k.j] 106)) := (Below.refl _ _).alloc (Nat.le_refl _) _
                    have hcall := ih k t2 t3 (wr.alloc (.cells #[.bool k.y.t, .int .i64 k.y.n, .int .i64 k.i, .int .i64 k.j] 106)) hf3 ⟨hokk.1, hokk.2.1, hokk.2.2⟩ (hs11.below hbB)
                    unfold partV at hcall
                    go_wp2_with fail
                    refine hcall.mono ?_
                    rintro e12 w12 ⟨rfl, hs12, ha12⟩
                    go_wp2_with fail
                    go_roundg (v.kids.length - (m + 1))
                    case measure => omega
                    case rel => exact ⟨m + 1, t3, by omega, rfl, by go_num, hf4, hs12, ha11.trans (((Away.ofBelow hbB).trans (ha12.mono hbB.size (fun _ _ h => h))).mono ha11.size (fun _ _ h => h))⟩
                  · obtain rfl : m = v.kids.length := by omega
                    rw [List.drop_length] at hf1
                    obtain rfl : t2 = t1 := by injection hf1
                    go_wp2_with fail
                    go_roundg (rr.1.length - (n + 1))
                    case measure => omega
                    case rel => exact ⟨n + 1, t2, by omega, rfl, by go_num, hf2, hs11, ha10.trans (ha11.mono ha10.size (fun _ _ h => h))⟩
              · obtain rfl : n = rr.1.length := by omega
                rw [List.drop_length] at hf
                obtain rfl : t = s' := by injection hf
                go_wp2_with fail
                exact bodyPost_end (v := .tuple #[]) (by kernel_rfl) rfl ⟨rfl, hs9, hb8.trans (ha9.mono hb8.size (fun _ _ h => h))⟩
      · rw [hyt] at hb40
        rw [if_pos hyt] at hf
        injection hf with hf
        subst hf
        have hfin := SpAt.toR hs4 hkeys hrd4 (SpStep.refl _ bm r (none, 0, 0)) hsp4 hp (by omega)
        go_wp2_with fail
        exact bodyPost_ret (v := .tuple #[]) (by kernel_rfl) rfl ⟨rfl, hfin.1, (Away.ofBelow hb4).trans (hfin.2.mono hb4.size (fun _ _ h => h))⟩
end
end Go.Proofs.YtdbkbkopcnkgcaaGreat
