import Derived.Test.YtdbkbkopcnkgcaaGreatForB
import Derived.Test.YtdbkbkopcnkgcaaGreatFeedB
import Derived.WideKeyEntry
import Derived.Test.YtdbkbkopcnkgcaaGreatOwn
import Derived.Test.YtdbkbkopcnkgcaaGreatMakeW
open Go Go.RowKit
open Go.ChangeMaps (setBlock)
namespace Go.Proofs.YtdbkbkopcnkgcaaGreat

def partV (p : Part) : Value := .agg #[.bool p.y.t, .int .i64 p.y.n, .int .i64 p.i, .int .i64 p.j]
theorem partV_inj (a b : Part) (h : partV a = partV b) : a = b := by
  obtain ⟨⟨at_, an⟩, ai, aj⟩ := a
  obtain ⟨⟨bt, bn⟩, bi, bj⟩ := b
  simp [partV] at h
  obtain ⟨h1, h2, h3, h4⟩ := h
  simp only [Part.mk.injEq, Sym.mk.injEq]
  exact ⟨⟨h1, h2⟩, by omega, by omega⟩

theorem Tryz.fieldsFpart : Tryz.prog.fieldsOf 106 = #[{ name := "y", type := 70, offset := 0, embedded := false, tag := "", pkgPath := "parlance/forest", byteOffset := 0 }, { name := "i", type := 3, offset := 2, embedded := false, tag := "", pkgPath := "parlance/forest", byteOffset := 16 }, { name := "j", type := 3, offset := 3, embedded := false, tag := "", pkgPath := "parlance/forest", byteOffset := 24 }] := by
  simp only [Program.fieldsOf, Tryz.underlying106]
theorem Tryz.symEqD (n : Nat) (a b : Sym) (w : World) : (Op.equalIn (n + 1 + 1) 70 (.agg #[.bool a.t, .int .i64 a.n]) (.agg #[.bool b.t, .int .i64 b.n])).run Tryz.prog w = .ok (decide (a = b)) w := by
  obtain ⟨at_, an⟩ := a
  obtain ⟨bt, bn⟩ := b
  rw [run_equalIn_struct (P := Tryz.prog) w (n + 1) 70 _ _ (by rw [Tryz.fieldsSym]; exact Tryz.underlying70) (by kernel_rfl), Tryz.fieldsSym]
  by_cases h1 : at_ = bt <;> by_cases h2 : an = bn <;> simp [Op.eqFields, h1, h2, go_sem]
theorem Tryz.intEqD (n : Nat) (a b : Int) (w : World) : (Op.equalIn (n + 1) 3 (.int .i64 a) (.int .i64 b)).run Tryz.prog w = .ok (decide (a = b)) w := by
  simp [Op.equalIn, run_underlying Tryz.underlying3]
  rfl
theorem Tryz.partSym (a b c d : Value) (w : World) : (part 70 #[a, b, c, d] 0).run Tryz.prog w = .ok (.agg #[a, b]) w := by
  simp [part, go_sem]
theorem Tryz.partInt2 (a b c d : Value) (w : World) : (part 3 #[a, b, c, d] 2).run Tryz.prog w = .ok c w := by
  simp [part, go_sem]
theorem Tryz.partInt3 (a b c d : Value) (w : World) : (part 3 #[a, b, c, d] 3).run Tryz.prog w = .ok d w := by
  simp [part, go_sem]
theorem Tryz.eqPart (a b : Part) (w : World) : (Op.equal 106 (partV a) (partV b)).run Tryz.prog w = .ok (decide (a = b)) w := by
  obtain ⟨ay, ai, aj⟩ := a
  obtain ⟨yb, bi, bj⟩ := b
  unfold partV Op.equal Op.maxDepth
  rw [run_equalIn_struct (P := Tryz.prog) w 9999 106 _ _ (by rw [Tryz.fieldsFpart]; exact Tryz.underlying106) (by kernel_rfl), Tryz.fieldsFpart]
  by_cases h1 : ay = yb <;> by_cases h2 : ai = bi <;> by_cases h3 : aj = bj <;> simp [Op.eqFields, Tryz.symEqD 9997, Tryz.intEqD 9998, h1, h2, h3, go_sem] <;> omega
theorem Tryz.chkSym (b : Bool) (n : Nat) (x y : Value) (w : World) (hx : ∀ m w, (Instr.checkKey b (m + 1) 4 x).run Tryz.prog w = .ok () w) (hy : ∀ m w, (Instr.checkKey b (m + 1) 3 y).run Tryz.prog w = .ok () w) : (Instr.checkKey b (n + 1 + 1) 70 (.agg #[x, y])).run Tryz.prog w = .ok () w := by
  rw [Instr.checkKey]
  simp [run_underlying Tryz.underlying70, hx, hy, go_sem]
theorem Tryz.chkBool (b : Bool) (n : Nat) (x : Bool) (w : World) : (Instr.checkKey b (n + 1) 4 (.bool x)).run Tryz.prog w = .ok () w := by
  simp [Instr.checkKey, run_underlying Tryz.underlying4]
theorem Tryz.chkPart (b : Bool) (n : Nat) (a : Part) (w : World) : (Instr.checkKey b (n + 1 + 1 + 1) 106 (partV a)).run Tryz.prog w = .ok () w := by
  unfold partV
  rw [Instr.checkKey]
  have h1 := Tryz.chkSym b n (.bool a.y.t) (.int .i64 a.y.n) w (fun m w => Tryz.chkBool b m _ w) (fun m w => Tryz.chkInt b m _ w)
  simp [run_underlying Tryz.underlying106, Tryz.partSym, Tryz.partInt2, Tryz.partInt3, Tryz.chkInt, h1]
theorem Tryz.partKey : MKey Tryz.prog 106 partV where
  eq := Tryz.eqPart
  chk e a w := Tryz.chkPart e 9997 a w
  bits a := by unfold partV; simp [Instr.sameBits]
  und := ⟨_, Tryz.underlying106, fun a b => by simp [Instr.sameNow]⟩

/-! ### slices of parts -/
def Elt.fpart : Elt Part := ((Elt.bool.pair Elt.int).pair (Elt.int.pair Elt.int)).map fun p => ((p.y.t, p.y.n), ((p.i : Int), (p.j : Int)))
def Elt.way : Elt Way := (Elt.int.pair Elt.fpart.sl).map fun v => ((v.rule : Int), v.kids)
def partC (p : Part) : List Value := [.bool p.y.t, .int .i64 p.y.n, .int .i64 p.i, .int .i64 p.j]
def partCells (l : List Part) : List Value := l.flatMap partC
theorem partCells_length (l : List Part) : (partCells l).length = l.length * 4 := by
  induction l with
  | nil => rfl
  | cons a l ih => simp only [partCells, List.flatMap_cons, List.length_append] at *; rw [ih]; simp [partC]; omega
theorem partCells_snoc (l : List Part) (s : Part) : partCells (l ++ [s]) = partCells l ++ partC s := by simp [partCells]
theorem partCells_get : ∀ (l : List Part) (k : Nat) (h : k < l.length), (partCells l)[k * 4]? = some (.bool l[k].y.t) ∧ (partCells l)[k * 4 + 1]? = some (.int .i64 l[k].y.n) ∧ (partCells l)[k * 4 + 2]? = some (.int .i64 l[k].i) ∧ (partCells l)[k * 4 + 3]? = some (.int .i64 l[k].j)
  | [], k, h => by simp at h
  | a :: l, 0, h => by simp [partCells, partC]
  | a :: l, k + 1, h => by
    have := partCells_get l k (by simpa using h)
    have e : partCells (a :: l) = partC a ++ partCells l := by simp [partCells]
    have hl : (partC a).length = 4 := rfl
    rw [e, show (k + 1) * 4 = k * 4 + 4 by omega]
    refine ⟨?_, ?_, ?_, ?_⟩
    · rw [List.getElem?_append_right (by omega), show k * 4 + 4 - (partC a).length = k * 4 by omega]; simpa using this.1
    · rw [List.getElem?_append_right (by omega), show k * 4 + 4 + 1 - (partC a).length = k * 4 + 1 by omega]; simpa using this.2.1
    · rw [List.getElem?_append_right (by omega), show k * 4 + 4 + 2 - (partC a).length = k * 4 + 2 by omega]; simpa using this.2.2.1
    · rw [List.getElem?_append_right (by omega), show k * 4 + 4 + 3 - (partC a).length = k * 4 + 3 by omega]; simpa using this.2.2.2
theorem partC_one (p : Part) : ∀ u ∈ partC p, u.oneCell' = true := by
  intro u hu
  simp [partC] at hu
  rcases hu with rfl | rfl | rfl | rfl <;> rfl
theorem partCells_one (l : List Part) : ∀ u ∈ partCells l, u.oneCell' = true := by
  intro u hu
  simp only [partCells, List.mem_flatMap] at hu
  obtain ⟨s, _, hs⟩ := hu
  exact partC_one s u hs
theorem partCells_at (l : List Part) (j : Nat) (u : Value) (h : (partCells l)[j]? = some u) : ∃ k, ∃ hk : k < l.length, (j = k * 4 ∧ u = .bool l[k].y.t) ∨ (j = k * 4 + 1 ∧ u = .int .i64 l[k].y.n) ∨ (j = k * 4 + 2 ∧ u = .int .i64 l[k].i) ∨ (j = k * 4 + 3 ∧ u = .int .i64 l[k].j) := by
  have hj := (List.getElem?_eq_some_iff.1 h).1
  rw [partCells_length] at hj
  refine ⟨j / 4, by omega, ?_⟩
  obtain ⟨h1, h2, h3, h4⟩ := partCells_get l (j / 4) (by omega)
  have hm : j % 4 < 4 := Nat.mod_lt _ (by omega)
  rcases Nat.lt_or_ge (j % 4) 1 with h5 | h5
  · have e : j = j / 4 * 4 := by omega
    rw [← e, h] at h1; injection h1 with h1; exact .inl ⟨e, h1⟩
  · rcases Nat.lt_or_ge (j % 4) 2 with h6 | h6
    · have e : j = j / 4 * 4 + 1 := by omega
      rw [← e, h] at h2; injection h2 with h2; exact .inr (.inl ⟨e, h2⟩)
    · rcases Nat.lt_or_ge (j % 4) 3 with h7 | h7
      · have e : j = j / 4 * 4 + 2 := by omega
        rw [← e, h] at h3; injection h3 with h3; exact .inr (.inr (.inl ⟨e, h3⟩))
      · have e : j = j / 4 * 4 + 3 := by omega
        rw [← e, h] at h4; injection h4 with h4; exact .inr (.inr (.inr ⟨e, h4⟩))
theorem add_lit (b o j : Nat) : (⟨b, o, none⟩ : Addr).add j = ⟨b, o + j, none⟩ := by unfold Addr.add; split <;> simp_all

theorem IsSl.partAt {F : Nat → Prop} {w : World} {A : Option Addr} {n c : Nat} {xs : List Part} (h : IsSl Elt.fpart F w (.slice A n c) xs) (k : Nat) (hk : k < xs.length) :
    ∃ b o, A = some ⟨b, o, none⟩ ∧ F b ∧ b < w.heap.size ∧ w.cell? ⟨b, o + k * 4, none⟩ = some (.bool xs[k].y.t) ∧ w.cell? ⟨b, o + k * 4 + 1, none⟩ = some (.int .i64 xs[k].y.n) ∧ w.cell? ⟨b, o + k * 4 + 2, none⟩ = some (.int .i64 xs[k].i) ∧ w.cell? ⟨b, o + k * 4 + 3, none⟩ = some (.int .i64 xs[k].j) := by
  obtain ⟨A', c', he, hl, h⟩ := h
  injection he with h1 h2 h3
  subst h1
  obtain ⟨b, o, rfl, hb, hlt, he⟩ := h k hk
  exact ⟨b, o, rfl, hb, hlt, he.1.1.2, he.1.2.2, he.2.1.2, he.2.2.2⟩
/-- the cells of a slice of parts, as append wants them -/
theorem sl_parts {F : Nat → Prop} {w : World} {A : Option Addr} {n c : Nat} {l : List Part} (h : IsSl Elt.fpart F w (.slice A n c) l) (a : Addr) (ha : A = some a) (j : Nat) (u : Value) (hj : (partCells l)[j]? = some u) : w.cell? (a.add j) = some u := by
  obtain ⟨k, hk, h2⟩ := partCells_at l j u hj
  obtain ⟨b, o, rfl, hF, hl, h3, h4, h5, h6⟩ := h.partAt k hk
  injection ha with ha
  subst ha
  rw [add_lit]
  rcases h2 with ⟨rfl, rfl⟩ | ⟨rfl, rfl⟩ | ⟨rfl, rfl⟩ | ⟨rfl, rfl⟩
  · exact h3
  · rw [← Nat.add_assoc]; exact h4
  · rw [← Nat.add_assoc]; exact h5
  · rw [← Nat.add_assoc]; exact h6
theorem own_parts {w : World} {base n : Nat} {v : Value} {l : List Part} (h : w.ownsRow base 106 4 v n (partCells l)) : IsSl Elt.fpart (fun b => base ≤ b ∧ v.ownBlock = some b) w v l := by
  have hl := h.1
  rw [partCells_length] at hl
  obtain rfl : n = l.length := by omega
  have hm := own_max h
  obtain ⟨A, c, rfl⟩ := own_form h
  refine ⟨A, c, rfl, hm, fun k hk => ?_⟩
  obtain ⟨b, cap, he, hb1, hb2⟩ := h.form (by omega)
  injection he with he1 he2 he3
  subst he1
  obtain ⟨h1, h2, h3, h4⟩ := partCells_get l k hk
  have k1 := h.cells (g := b) rfl _ _ h1
  have k2 := h.cells (g := b) rfl _ _ h2
  have k3 := h.cells (g := b) rfl _ _ h3
  have k4 := h.cells (g := b) rfl _ _ h4
  rw [add_lit0] at k1 k2 k3 k4
  have hF : base ≤ b ∧ (Value.slice (some ⟨b, 0, none⟩) l.length c).ownBlock = some b := ⟨hb1, rfl⟩
  refine ⟨b, 0, rfl, hF, cell_lt k1, ⟨⟨hF, ?_⟩, ⟨hF, ?_⟩⟩, ⟨hF, ?_⟩, ⟨hF, ?_⟩⟩
  · show w.cell? ⟨b, 0 + k * 4, none⟩ = _
    rw [Nat.zero_add]; exact k1
  · show w.cell? ⟨b, 0 + k * 4 + 1, none⟩ = _
    rw [Nat.zero_add]; exact k2
  · show w.cell? ⟨b, 0 + k * 4 + 2, none⟩ = _
    rw [Nat.zero_add]; exact k3
  · show w.cell? ⟨b, 0 + k * 4 + 2 + 1, none⟩ = _
    rw [Nat.zero_add]; exact k4

/-! ### laws that the kit lacks -/
section
variable {P : Program}

/-- s[i:] -/
theorem run_drop_sl {t E : TypeId} (ht : P.underlying t = some (.slice E)) {size : Nat} (hz : ∀ w, (sizeOf E).run P w = .ok size w) {α : Type} {d : Elt α} (hd : d.sz = size) {F : Nat → Prop} {w0 : World} {A : Option Addr} {n c : Nat} {xs : List α} (h : IsSl d F w0 (.slice A n c) xs) (hc : n ≤ c) (i : Nat) (hi : i ≤ n) :
    ∃ A', (∀ w : World, (Instr.slice t (.slice A n c) (some (.int .i64 i)) none none).run P w = .ok (.slice A' (n - i) (c - i)) w) ∧ IsSl d F w0 (.slice A' (n - i) (c - i)) (xs.drop i) := by
  obtain ⟨rfl, hn⟩ := h.len
  refine ⟨if c = i then A else A.map (·.add (i * size)), fun w => ?_, ?_⟩
  · have hii : (0 : Int) ≤ i ∧ (i : Int) ≤ xs.length := ⟨by omega, by omega⟩
    simp [Instr.slice, run_underlying ht, hz, Instr.sliceBounds, Instr.sliceBound, asIntOf]
    intro h; omega
  · obtain ⟨A', c', he, hl, h⟩ := h
    injection he with h1 h2 h3
    subst h1
    refine ⟨_, c - i, by rw [List.length_drop], by rw [List.length_drop]; omega, fun k hk => ?_⟩
    rw [List.length_drop] at hk
    obtain ⟨b, o, rfl, hb, hlt, he⟩ := h (i + k) (by omega)
    rw [if_neg (by omega)]
    refine ⟨b, o + i * size, by simp [add_lit], hb, hlt, ?_⟩
    rw [List.getElem_drop, Nat.add_assoc, hd, ← Nat.add_mul, ← hd]
    exact he

/-- a call of a Go function in a region that draws its order, behind a guard that is met -/
theorem step_callG {ops : Array Oper} {o : Oper} {a : Act} {w : World} {K : Act → World → Prop} {Q : Exit → Act → World → Prop} {E : Prop} (hw : Region.wanted o (yielded ops a.tmps) = true) (f : FuncId) (fn : Func) (hfn : P.funcs[f]? = some fn) (hnm : (fn.name == "runtime.NumGoroutine") = false) (hbd : fn.body.isNone = false) (args : List Operand) (tys : Array TypeId)
    (ho : o.op = .call { callee := .value (.func f), args := args.toArray, argTypes := tys }) (vals : List Value) (hv : args.map a.eval = vals) (R : Ending → World → Prop) (hc : Calls P f vals.toArray w R)
    (h : ∀ e w', R e w' → ∃ v, e = .returned v ∧ K (a.put o.dst v) w') : if Region.wanted o (yielded ops a.tmps) = true then Oper.wp P o a w K Q else E := by
  rw [if_pos hw]
  subst hv
  have hr : (execOp a.eval o).run P w = .ok (.enter f (args.map a.eval).toArray) w := by
    simp only [beq_eq_false_iff_ne, Option.isNone_eq_false_iff, Option.isSome_iff_ne_none] at hnm hbd
    simp [execOp, ho, resolve, invoke, Act.eval, Deferred.ofValue, callFunc, hfn, hnm, hbd]
  unfold Oper.wp
  rw [hr, Oper.upon_enter]
  refine hc.mono ?_
  intro e w' hR
  obtain ⟨v, rfl, hk⟩ := h e w' hR
  exact hk

/-- append to a slice without spare room -/
theorem step_append_full (w : World) {ops : Array Oper} {o : Oper} {a : Act} {K : Act → World → Prop} {Q : Exit → Act → World → Prop} {E : Prop} (hgd : o.guard = none) (s x : Operand) (t : TypeId)
    (ho : o.op = .call { callee := .builtin .append, args := #[s, x], argTypes := #[t, t] })
    (e : TypeId) (i : TypeInfo) (z : Value) (size bytes : Nat) (ht : P.underlying t = some (.slice e)) (hi : P.info? e = some i) (hz : i.zero = some z)
    (hsize : i.size = size) (hby : i.bytes = bytes) (hzs : z.cells.size = size) (hsz : 0 < size)
    (A : Option Addr) (n : Nat) (olds : List Value) (hs : a.eval s = .slice A n n) (hlo : olds.length = n * size) (hA : A = none → n = 0) (holds : ∀ a, A = some a → ∀ j u, olds[j]? = some u → w.cell? (a.add j) = some u)
    (ad : Addr) (m c : Nat) (news : List Value) (hx : a.eval x = .slice (some ad) m c) (hl : news.length = m * size) (hnews : ∀ j u, news[j]? = some u → w.cell? (ad.add j) = some u) (h1 : ∀ u ∈ news, u.oneCell' = true) (hm : 0 < m)
    (h63 : n + m ≤ maxLen) (hbytes : (n + m) * bytes ≤ 140737488355328)
    (h : ∀ A' c' w', w'.ownsRow w.heap.size e size (.slice A' (n + m) c') (n + m) (olds ++ news) → w.grownBy w' none → K (a.put o.dst (.slice A' (n + m) c')) w') :
    if Region.wanted o (yielded ops a.tmps) = true then Oper.wp P o a w K Q else E := by
  have hw : Region.wanted o (yielded ops a.tmps) = true := by simp [Region.wanted, hgd]
  rw [if_pos hw]
  have key : ∃ v' w', (Builtin.append_ #[t, t] o.type #[.slice A n n, .slice (some ad) m c]).run P w = .ok v' w' ∧ w'.ownsRow w.heap.size e size v' (n + m) (olds ++ news) ∧ w.grownBy w' none := by
    cases A with
    | some b => exact run_append_arg_grows (P := P) w t o.type e i z size bytes ht hi hz hsize hby hzs hsz b n n olds hlo (holds b rfl) ad m c news hl hnews (by omega) h63 hbytes
    | none =>
      obtain rfl := hA rfl
      have he : olds = [] := List.eq_nil_of_length_eq_zero (by simpa using hlo)
      subst he
      obtain ⟨v', w', h2, h3, h4, _⟩ := run_append_own_at (P := P) w w.heap.size t o.type e i z size bytes ht hi hz hsize hby hzs hsz (.slice none 0 0) 0 [] (World.ownsRow_nil _ _ _ _) ad m c news hl hnews h1 h63 hbytes (Nat.le_refl _)
      exact ⟨v', w', h2, h3, h4⟩
  obtain ⟨v', w', hr, h2, h3⟩ := key
  obtain ⟨A', c', rfl⟩ := own_form h2
  unfold Oper.wp execOp
  simp only [ho, resolve, invoke, builtin, Sem.run_bind, Sem.run_pure, Result.andThen_ok, List.map_toArray, List.map_cons, List.map_nil, hs, hx, hr]
  exact h A' c' w' h2 h3

variable {κ ν : Type} [DecidableEq κ] {K : TypeId} {enc : κ → Value} {vn : ν → Value}
/-- m[k] = f(m[k]) where k is there: the entry, and the store into it -/
theorem IsMap.entry (hK : MKey P K enc) {T E : TypeId} (hT : P.underlying T = some (.map K E)) {w : World} {r : Nat} {l : List (κ × ν)} (h : IsMap enc vn w r l) (k : κ) (v0 : ν) (hk : alook l k = some v0) :
    ∃ o st, (Instr.mapEntry T (.map (some r)) (enc k)).run P w = .ok (.tuple #[vn v0, goInt st]) (setBlock w r o) ∧ IsMap enc vn (setBlock w r o) r l ∧
      ∀ (w2 : World) (v : ν), w2.heap[r]? = some o → ∃ o', (Instr.entryStore T (.map (some r)) (goInt st) (vn v)).run P w2 = .ok () (setBlock w2 r o') ∧ IsMap enc vn (setBlock w2 r o') r (aput l k v) := by
  obtain ⟨es, clock, hb, he⟩ := h
  have hlen : es.toList.length = l.length := by have := congrArg List.length he.key; simpa using this
  have hset : ∀ (w : World) o es c, w.heap[r]? = some (.map es c) → (setObj r o).run P w = .ok () (setBlock w r o) := fun w o es c hb => by simp [setObj, Sem.run, hb, setBlock]
  have hkl : k ∈ l.map (·.1) := by
    rcases Classical.em (k ∈ l.map (·.1)) with h | h
    · exact h
    · rw [alook_none.2 h] at hk; cases hk
  have hkey0 : ∀ e, es.toList[aidx l k]? = some e → e.key = enc k := fun e h => by
    have h1 : (es.toList.map (·.key))[aidx l k]? = some e.key := by rw [List.getElem?_map, h]; rfl
    rw [he.key] at h1
    have h2 := aidx_get hkl
    rw [List.getElem?_map] at h1 h2
    cases h3 : l[aidx l k]? with
    | none => rw [h3] at h2; cases h2
    | some p =>
      rw [h3] at h1 h2
      simp only [Option.map_some, Option.some.injEq] at h1 h2
      rw [← h1, h2]
  have hlt : aidx l k < es.size := by
    have h2 := aidx_get hkl
    have := (List.getElem?_eq_some_iff.1 h2).1
    simp only [List.length_map] at this
    rw [← hlen] at this
    simpa using this
  have hj : es[aidx l k]? = some es[aidx l k] := Array.getElem?_eq_getElem hlt
  have hjl : es.toList[aidx l k]? = some es[aidx l k] := by simp [hlt]
  have hg : es[aidx l k].key = enc k := hkey0 _ hjl
  generalize es[aidx l k] = e0 at hj hjl hg
  have hbn : (es.toList.modify (aidx l k) fun e => { e with key := enc k }).map (·.born) = es.toList.map (·.born) := map_modify_keep _ _ _ _ (by intro e h; rfl)
  have hents : Ents enc vn (es.modify (aidx l k) fun e => { e with key := enc k }) clock l := by
    refine ⟨?_, ?_, he.dist, ?_, ?_⟩
    · rw [Array.toList_modify, map_modify_keep _ _ _ _ (fun e h => (hkey0 e h).symm), he.key]
    · rw [Array.toList_modify, map_modify_keep _ _ _ _ (by intro e h; rfl), he.val]
    · rw [Array.toList_modify, hbn]; exact he.born
    · intro e he2
      have : e.born ∈ (es.modify (aidx l k) fun e => { e with key := enc k }).toList.map (·.born) := List.mem_map.2 ⟨e, he2, rfl⟩
      rw [Array.toList_modify, hbn] at this
      obtain ⟨e', he', h'⟩ := List.mem_map.1 this
      rw [← h']; exact he.clk e' he'
  refine ⟨.map (es.modify (aidx l k) fun e => { e with key := enc k }) clock, e0.born, ?_, ⟨_, clock, setBlock_same _ _ _ (blk_lt hb), hents⟩, ?_⟩
  · simp only [Instr.mapEntry, Sem.run_bind, run_underlying hT, Result.andThen_ok, getObj, Sem.run, hb, hK.chk]
    rw [run_findKey hK k w es.toList l he.key he.val, hk]
    simp only [Option.map_some, Result.andThen_ok, hj, Option.getD_some, hg, run_stay hK, Sem.run_bind, hset _ _ _ _ hb, Sem.run_pure]
  · intro w2 v hw2
    generalize hes : (es.modify (aidx l k) fun e => { e with key := enc k }) = es2 at hents hw2
    have hj2 : es2.toList[aidx l k]? = some { e0 with key := enc k } := by
      rw [← hes, Array.toList_modify, List.getElem?_modify, hjl]; simp
    have hlen2 : es2.toList.length = l.length := by have := congrArg List.length hents.key; simpa using this
    have hidx : es2.findIdx? (fun e => ((e.born : Nat) : Int) == ((e0.born : Nat) : Int)) = some (aidx l k) := by
      rw [Go.WideElems.findIdx_arr]
      have := Go.WideElems.findIdx_born (e0 := { e0 with key := enc k }) hents.born hj2
      exact this
    have hbn2 : (es2.toList.modify (aidx l k) fun e => { e with val := vn v }).map (·.born) = es2.toList.map (·.born) := map_modify_keep _ _ _ _ (by intro e h; rfl)
    refine ⟨.map (es2.modify (aidx l k) fun e => { e with val := vn v }) clock, ?_, _, clock, setBlock_same _ _ _ (blk_lt hw2), ?_⟩
    · simp only [Instr.entryStore, Sem.run_bind, getObj, Sem.run, hw2, Result.andThen_ok, asInt, asIntOf, goInt, Sem.run_pure, hidx, hset _ _ _ _ hw2]
    · refine ⟨?_, ?_, ?_, ?_, ?_⟩
      · rw [Array.toList_modify, map_modify_keep _ _ _ _ (by intro e h; rfl), hents.key]
        have h2 := congrArg (List.map enc) (aput_keys_old hkl v)
        simpa [Function.comp_def] using h2.symm
      · rw [Array.toList_modify]
        have h3 := map_val_put (vn := vn) v k es2.toList l (enc k) hlen2 hents.val hkl
        rw [← h3]
        apply List.ext_getElem?
        intro m
        simp only [List.getElem?_map, List.getElem?_modify]
        by_cases hm : aidx l k = m
        · subst hm; rw [hj2]; simp
        · simp [hm]
      · rw [aput_keys_old hkl]; exact hents.dist
      · rw [Array.toList_modify, hbn2]; exact hents.born
      · intro e he2
        have : e.born ∈ (es2.modify (aidx l k) fun e => { e with val := vn v }).toList.map (·.born) := List.mem_map.2 ⟨e, he2, rfl⟩
        rw [Array.toList_modify, hbn2] at this
        obtain ⟨e', he', h'⟩ := List.mem_map.1 this
        rw [← h']; exact hents.clk e' he'
end
end Go.Proofs.YtdbkbkopcnkgcaaGreat

open Go Go.RowKit
open Go.ChangeMaps (setBlock)
namespace Go.Proofs.YtdbkbkopcnkgcaaGreat

theorem Tryz.infoFpart : (Tryz.prog.info? 106).map (fun i => (i.zero, i.size, i.bytes)) = some (some (.agg #[.bool false, .int .i64 0, .int .i64 0, .int .i64 0]), 4, 32) := by kernel_rfl
theorem Tryz.infoWay : (Tryz.prog.info? 137).map (fun i => (i.zero, i.size, i.bytes)) = some (some (.agg #[.int .i64 0, .slice none 0 0]), 2, 32) := by kernel_rfl

/-! ### ways that the call has made -/
structure OwnWays (w : World) (base : Nat) (v : Value) (l : List Way) (xs : List Value) : Prop where
  own : w.ownsRow base 137 2 v l.length xs
  at_ : ∀ k (h : k < l.length), xs[k * 2]? = some (.int .i64 l[k].rule) ∧ ∃ A c, xs[k * 2 + 1]? = some (.slice A l[k].kids.length c) ∧ w.ownsRow base 106 4 (.slice A l[k].kids.length c) l[k].kids.length (partCells l[k].kids)

theorem OwnWays.nil (w : World) (base : Nat) : OwnWays w base (.slice none 0 0) [] [] := ⟨World.ownsRow_nil _ _ _ _, fun k h => by simp at h⟩
theorem OwnWays.below {w w' : World} {base : Nat} {v : Value} {l : List Way} {xs : List Value} (h : OwnWays w base v l xs) (hb : Below w.heap.size w w') : OwnWays w' base v l xs :=
  have hg : w.grownBy w' none := ⟨hb.os, hb.tape, hb.output, hb.size, fun k hk _ => hb.block k hk⟩
  ⟨h.own.kept (row := none) hg (by cases v.ownBlock <;> simp), fun k hk => by
    obtain ⟨h1, A, c, h2, h3⟩ := h.at_ k hk
    exact ⟨h1, A, c, h2, h3.kept (row := none) hg (by cases (Value.slice A l[k].kids.length c).ownBlock <;> simp)⟩⟩
theorem OwnWays.notCells {w w' : World} {base b : Nat} {v : Value} {l : List Way} {xs : List Value} (h : OwnWays w base v l xs) (hg : w.grownBy w' (some b)) (hb : ∀ cs T fr, w.heap[b]? ≠ some (.cells cs T fr)) : OwnWays w' base v l xs :=
  ⟨own_kept h.own hg hb, fun k hk => by
    obtain ⟨h1, A, c, h2, h3⟩ := h.at_ k hk
    exact ⟨h1, A, c, h2, own_kept h3 hg hb⟩⟩
theorem OwnWays.setCell {w : World} {base b i : Nat} {v u : Value} {l : List Way} {xs : List Value} (h : OwnWays w base v l xs) (hb : b < base) : OwnWays (w.setCell ⟨b, i, none⟩ u) base v l xs :=
  ⟨own_setCell h.own hb u, fun k hk => by
    obtain ⟨h1, A, c, h2, h3⟩ := h.at_ k hk
    exact ⟨h1, A, c, h2, own_setCell h3 hb u⟩⟩
/-- a way is laid in -/
theorem OwnWays.snoc {w w1 : World} {base : Nat} {v v' : Value} {l : List Way} {xs : List Value} {r : Way} {A : Option Addr} {c : Nat} (h : OwnWays w base v l xs) (hr : w.ownsRow base 106 4 (.slice A r.kids.length c) r.kids.length (partCells r.kids)) (hg : w.grownBy w1 v.ownBlock)
    (hown : w1.ownsRow base 137 2 v' (l.length + 1) (xs ++ [.int .i64 r.rule, .slice A r.kids.length c])) : OwnWays w1 base v' (l ++ [r]) (xs ++ [.int .i64 r.rule, .slice A r.kids.length c]) := by
  have hxl := h.own.1
  refine ⟨by simpa using hown, fun k hk => ?_⟩
  by_cases e : k < l.length
  · obtain ⟨h1, A', c', h2, h3⟩ := h.at_ k e
    have e2 : (l ++ [r])[k] = l[k] := by simp [e]
    rw [e2, List.getElem?_append_left (by omega), List.getElem?_append_left (by omega)]
    exact ⟨h1, A', c', h2, own_other h3 h.own (by decide) hg⟩
  · have e1 : k = l.length := by simp at hk; omega
    subst e1
    have e2 : (l ++ [r])[l.length] = r := by simp
    rw [e2, List.getElem?_append_right (by omega), List.getElem?_append_right (by omega), hxl]
    refine ⟨by simp, A, c, by simp, own_other hr h.own (by decide) hg⟩
theorem OwnWays.isSl {w : World} {base : Nat} {v : Value} {l : List Way} {xs : List Value} (h : OwnWays w base v l xs) : IsSl Elt.way (fun b => base ≤ b) w v l := by
  have ho := h.own
  have hm := own_max ho
  obtain ⟨A, c, rfl⟩ := own_form ho
  refine ⟨A, c, rfl, hm, fun k hk => ?_⟩
  obtain ⟨b, cap, he, hb1, hb2⟩ := ho.form (by omega)
  injection he with he1 he2 he3
  subst he1
  obtain ⟨h1, A', c', h2, h3⟩ := h.at_ k hk
  have k1 := ho.cells (g := b) rfl _ _ h1
  have k2 := ho.cells (g := b) rfl _ _ h2
  rw [add_lit0] at k1 k2
  refine ⟨b, 0, rfl, hb1, cell_lt k1, ⟨hb1, ?_⟩, ⟨hb1, A', c', ?_, own_cap h3, (own_parts h3).weak fun j hj => hj.1⟩⟩
  · show w.cell? ⟨b, 0 + k * 2, none⟩ = _
    rw [Nat.zero_add]; exact k1
  · show w.cell? ⟨b, 0 + k * 2 + 1, none⟩ = _
    rw [Nat.zero_add]; exact k2

set_option maxRecDepth 100000 in
/-- slices.Clone of parts -/
theorem clone_parts (F : Nat → Prop) (l : List Part) (A : Option Addr) (n c : Nat) (w : World) (hl : IsSl Elt.fpart F w (.slice A n c) l) (hn : l.length ≤ 1000000) :
    Calls Tryz.prog 72 #[.slice A n c] w fun e w' => ∃ A' c', e = .returned (.slice A' l.length c') ∧ Below w.heap.size w w' ∧ w'.ownsRow w.heap.size 106 4 (.slice A' l.length c') l.length (partCells l) := by
  obtain ⟨rfl, hmx⟩ := hl.len
  obtain ⟨ip, hip, h0, h2, h3⟩ := info_parts Tryz.infoFpart
  cases A with
  | none =>
    have hz := sl_none hl rfl
    have hl0 : l = [] := List.eq_nil_of_length_eq_zero hz
    subst hl0
    have hu : ∀ (w : World) (n : Nat), (binOp .eql 135 (.slice none n c) (.slice none 0 0)).run Tryz.prog w = .ok (.bool true) w := fun w n => Lib.run_eql_slice_nil w _ _ none n c 0 0 Tryz.underlying135
    go_enter Tryz.func72, Tryz.ntmps72
    go_wp2
    go_ret
    exact ⟨none, 0, rfl, Below.refl _ _, World.ownsRow_nil _ _ _ _⟩
  | some a =>
    have hcells := sl_parts hl a rfl
    have HC := Lib.hid hcells
    have HN := Lib.hid hn
    have HL := Lib.hid hl
    clear hcells hn hl
    have hu : ∀ (w : World) (n : Nat), (binOp .eql 135 (.slice (some a) n c) (.slice none 0 0)).run Tryz.prog w = .ok (.bool false) w := fun w n => Lib.run_eql_slice_nil w _ _ (some a) n c 0 0 Tryz.underlying135
    go_enter Tryz.func72, Tryz.ntmps72
    go_wp2_with (first | (at_builtin; refine wpList_append_src _ rfl (.tmp 5) (.tmp 6) 135 rfl w.heap.size 106 ip (.agg #[.bool false, .int .i64 0, .int .i64 0, .int .i64 0]) 4 32 Tryz.underlying135 hip h0 h2 h3 rfl (by decide) _ 0 [] rfl ?ho (some a) l.length c (partCells l) rfl ?c0 ?c1 ?c2 ?c3 ?c4 ?c5 ?c6 ?_))
    case ho => exact ⟨rfl, .inr ⟨w.heap.size, 0, #[], rfl, Nat.le_refl _, heap_alloc_new w _, Nat.le_refl _, by unfold maxLen; omega, rfl, rfl⟩⟩
    case c0 => rw [partCells_length]
    case c1 => intro h; cases h
    case c2 =>
      intro a' ha j u hj
      injection ha with ha
      subst ha
      have hlt := HC.out j u hj
      exact (World.cell?_of_block (w := w) (Below.heap_alloc w _ _ (World.block_lt_of_cell? w _ hlt))).trans hlt
    case c3 => exact partCells_one l
    case c4 => have := HN.out; unfold maxLen; omega
    case c5 => have := HN.out; omega
    case c6 => rw [World.size_alloc]; omega
    intro v' w1 hown hg _
    obtain ⟨A', c', rfl⟩ := own_form hown
    go_wp2
    go_ret
    refine ⟨A', c', by simp, ?_, hown⟩
    exact ((Below.refl _ _).alloc (Nat.le_refl _) _).grown hg (by simp) (fun k hk => by
      have : k = w.heap.size := by simpa [Value.ownBlock] using hk.symm
      omega)

abbrev Hdr := Option Addr × Nat × Nat
def hdrV (h : Hdr) : Value := .slice h.1 h.2.1 h.2.2

/-- split's state: the maker, and the ways of the part that it is at -/
structure SpAt (w : World) (bm r base : Nat) (g : Gram) (x : List Int) (M : List (List Nat)) (A : Option Addr) (c : Nat) (B : Option Addr) (d : Nat) (C : Option Addr) (q : Nat) (l0 : List (Part × Hdr)) (p : Part) (cur : List Way) (many : Nat) (h : Hdr) : Prop where
  bml : bm < base
  rl : r < base
  ne : bm ≠ r
  le : base ≤ w.heap.size
  mker : MkAt (fun b => b < base ∧ b ≠ bm ∧ b ≠ r) w bm g x M A c B d C q (.map (some r)) many
  map : IsMap partV hdrV w r (aput l0 p h)
  own : ∃ xs, OwnWays w base (hdrV h) cur xs
  len : cur.length ≤ many

def SpF (bm r : Nat) (h : Hdr) (b : Nat) : Prop := b = bm ∨ b = r ∨ (hdrV h).ownBlock = some b
structure SpStep (w w' : World) (bm r : Nat) (h h' : Hdr) : Prop where
  away : Away w.heap.size (SpF bm r h) w w'
  own : (hdrV h').ownBlock = (hdrV h).ownBlock ∨ ∃ b, (hdrV h').ownBlock = some b ∧ w.heap.size ≤ b

theorem SpStep.refl (w : World) (bm r : Nat) (h : Hdr) : SpStep w w bm r h h := ⟨Away.refl _ _ _, .inl rfl⟩
theorem SpStep.trans {a b c : World} {bm r : Nat} {h h' h'' : Hdr} (h1 : SpStep a b bm r h h') (h2 : SpStep b c bm r h' h'') : SpStep a c bm r h h'' := by
  have hs := h1.away.size
  refine ⟨h1.away.trans (h2.away.mono hs fun j hj hF => ?_), ?_⟩
  · rcases hF with hF | hF | hF
    · exact .inl hF
    · exact .inr (.inl hF)
    · rcases h1.own with h3 | ⟨b', h3, h4⟩
      · exact .inr (.inr (h3 ▸ hF))
      · rw [h3] at hF; injection hF with hF; omega
  · rcases h2.own with h3 | ⟨b', h3, h4⟩
    · rcases h1.own with h5 | ⟨b', h5, h6⟩
      · exact .inl (h3.trans h5)
      · exact .inr ⟨b', h3.trans h5, h6⟩
    · exact .inr ⟨b', h3, by omega⟩
theorem SpStep.ofBelow {w w' : World} (bm r : Nat) (h : Hdr) (hb : Below w.heap.size w w') : SpStep w w' bm r h h := ⟨Away.ofBelow hb, .inl rfl⟩
/-- what the state's blocks are apart from is read as before -/
theorem SpStep.keep {α : Type} {e : Elt α} {w w' : World} {bm r : Nat} {h h' : Hdr} {v : Value} {l : List α} (hs : SpStep w w' bm r h h') (hl : IsSl e (fun b => ¬ SpF bm r h b) w v l) : IsSl e (fun b => ¬ SpF bm r h' b) w' v l := by
  refine ((hl.old).keep (fun k hk => hs.away.block k hk.2 hk.1) hs.away.size).weak fun k hk hF => ?_
  rcases hF with hF | hF | hF
  · exact hk.1 (.inl hF)
  · exact hk.1 (.inr (.inl hF))
  · rcases hs.own with h3 | ⟨b', h3, h4⟩
    · exact hk.1 (.inr (.inr (h3 ▸ hF)))
    · rw [h3] at hF; injection hF with hF; omega
theorem SpStep.blk {w w' : World} {bm r : Nat} {h h' : Hdr} {b : Nat} {o : Obj} (hs : SpStep w w' bm r h h') (hb : w.heap[b]? = some o) (hF : ¬ SpF bm r h b) : w'.heap[b]? = some o := (hs.away.block b (blk_lt hb) hF).trans hb

section
variable {w w' : World} {bm r base : Nat} {g : Gram} {x : List Int} {M : List (List Nat)} {A : Option Addr} {c : Nat} {B : Option Addr} {d : Nat} {C : Option Addr} {q : Nat} {l0 : List (Part × Hdr)} {p : Part} {cur : List Way} {many : Nat} {h : Hdr}

theorem SpAt.below (hs : SpAt w bm r base g x M A c B d C q l0 p cur many h) (hb : Below w.heap.size w w') : SpAt w' bm r base g x M A c B d C q l0 p cur many h := by
  obtain ⟨xs, ho⟩ := hs.own
  exact ⟨hs.bml, hs.rl, hs.ne, Nat.le_trans hs.le hb.size, hs.mker.below hb, hs.map.below hb, ⟨xs, ho.below hb⟩, hs.len⟩
theorem SpAt.hown (hs : SpAt w bm r base g x M A c B d C q l0 p cur many h) {b : Nat} (hb : (hdrV h).ownBlock = some b) : base ≤ b ∧ b < w.heap.size := by
  obtain ⟨xs, ho⟩ := hs.own
  exact ho.own.lt b hb
theorem SpAt.new (hs : SpAt w bm r base g x M A c B d C q l0 p cur many h) {b : Nat} (hb : w.heap.size ≤ b) : ¬ SpF bm r h b := by
  have h1 := hs.bml
  have h2 := hs.rl
  have h3 := hs.le
  rintro (hF | hF | hF)
  · omega
  · omega
  · have := (hs.hown hF).2; omega

/-- one more -/
theorem SpAt.count (hs : SpAt w bm r base g x M A c B d C q l0 p cur many h) : SpAt (w.setCell ⟨bm, 7, none⟩ (.int .i64 (many + 1 : Nat))) bm r base g x M A c B d C q l0 p cur (many + 1) h := by
  have hb := blk_lt hs.mker.blk
  have hk : ∀ b, b ≠ bm → (w.setCell ⟨bm, 7, none⟩ (.int .i64 (many + 1 : Nat))).heap[b]? = w.heap[b]? := fun b hb => heap_set_ne hb _ _
  have hle : w.heap.size ≤ (w.setCell ⟨bm, 7, none⟩ (.int .i64 (many + 1 : Nat))).heap.size := by rw [size_setCell]; exact Nat.le_refl _
  obtain ⟨xs, ho⟩ := hs.own
  refine ⟨hs.bml, hs.rl, hs.ne, by rw [size_setCell]; exact hs.le, ⟨?_, hs.mker.rules.keep (fun b hb => hk b hb.2.1) hle, hs.mker.word.keep (fun b hb => hk b hb.2.1) hle, hs.mker.mat.keep (fun b hb => hk b hb.2.1) hle⟩, hs.map.same (hk _ hs.ne.symm), ⟨xs, ho.setCell hs.bml⟩, by have := hs.len; omega⟩
  rw [heap_set hs.mker.blk]; rfl
theorem SpStep.count (bm r : Nat) (h : Hdr) (u : Value) : SpStep w (w.setCell ⟨bm, 7, none⟩ u) bm r h h := ⟨Away.setCell _ _ _ _ (.inl (.inl rfl)), .inl rfl⟩

/-- the map's block has turned -/
theorem SpAt.setMap {h2 : Hdr} {o : Obj} (hs : SpAt w bm r base g x M A c B d C q l0 p cur many h) (hm : IsMap partV hdrV (setBlock w r o) r (aput l0 p h2)) (ho : ∃ xs, OwnWays (setBlock w r o) base (hdrV h2) cur xs) : SpAt (setBlock w r o) bm r base g x M A c B d C q l0 p cur many h2 := by
  have hk : ∀ b, b ≠ r → (setBlock w r o).heap[b]? = w.heap[b]? := fun b hb => setBlock_other _ _ _ hb
  have hle : w.heap.size ≤ (setBlock w r o).heap.size := by rw [setBlock_size]; exact Nat.le_refl _
  exact ⟨hs.bml, hs.rl, hs.ne, by rw [setBlock_size]; exact hs.le, ⟨(hk _ hs.ne).trans hs.mker.blk, hs.mker.rules.keep (fun b hb => hk b hb.2.2) hle, hs.mker.word.keep (fun b hb => hk b hb.2.2) hle, hs.mker.mat.keep (fun b hb => hk b hb.2.2) hle⟩, hm, ho, hs.len⟩
end
end Go.Proofs.YtdbkbkopcnkgcaaGreat

open Go Go.RowKit
open Go.ChangeMaps (setBlock)
namespace Go.Proofs.YtdbkbkopcnkgcaaGreat

section
variable {bm r base : Nat} {g : Gram} {x : List Int} {M : List (List Nat)} {A : Option Addr} {c : Nat} {B : Option Addr} {d : Nat} {C : Option Addr} {q : Nat} {l0 : List (Part × Hdr)} {p : Part}

theorem alook_aput_same {κ ν : Type} [DecidableEq κ] (l : List (κ × ν)) (k : κ) (v : ν) : alook (aput l k v) k = some v := by rw [alook_put]; simp
theorem aput_aput {κ ν : Type} [DecidableEq κ] (l : List (κ × ν)) (k : κ) (v v' : ν) : aput (aput l k v) k v' = aput l k v' := by
  induction l with
  | nil => simp [aput]
  | cons ab l ih =>
    obtain ⟨a, b⟩ := ab
    by_cases h : a = k
    · simp [h, aput]
    · simp [h, aput, ih]

theorem SpAt.entry1 {w : World} {o : Obj} {cur : List Way} {many : Nat} {h : Hdr} (hs : SpAt w bm r base g x M A c B d C q l0 p cur many h) (hm : IsMap partV hdrV (setBlock w r o) r (aput l0 p h)) : SpAt (setBlock w r o) bm r base g x M A c B d C q l0 p cur many h := by
  obtain ⟨xs, ho⟩ := hs.own
  refine hs.setMap hm ⟨xs, ho.notCells (grown_setBlock w r o) fun cs T fr e => ?_⟩
  obtain ⟨es, c, h1, _⟩ := hs.map
  rw [h1] at e; cases e
theorem entry_cell {w : World} {T : TypeId} {o : Obj} {cur : List Way} {many : Nat} {h : Hdr} {cs : List Value} {j : Nat} {u : Value} (hs : SpAt w bm r base g x M A c B d C q l0 p cur many h) (hj : cs[j]? = some u) : (setBlock (w.alloc (.cells cs.toArray T)) r o).cell? ((⟨w.heap.size, 0, none⟩ : Addr).add j) = some u := by
  have h1 := cells_new w cs T j u hj
  rw [add_lit0] at h1 ⊢
  exact (World.cell?_of_block (w := w.alloc (.cells cs.toArray T)) (setBlock_other _ _ _ (by have := hs.rl; have := hs.le; show w.heap.size ≠ r; omega))).trans h1

/-- what split leaves -/
def SpEnd (w w' : World) (bm r base : Nat) (g : Gram) (x : List Int) (M : List (List Nat)) (A : Option Addr) (c : Nat) (B : Option Addr) (d : Nat) (C : Option Addr) (q : Nat) (l0 : List (Part × Hdr)) (p : Part) (s : List Way × Nat) (h : Hdr) : Prop :=
  ∃ h', SpStep w w' bm r h h' ∧ SpAt w' bm r base g x M A c B d C q l0 p s.1 s.2 h'

theorem SpStep.setMap (w : World) (bm r : Nat) (h : Hdr) (o : Obj) : SpStep w (setBlock w r o) bm r h h :=
  ⟨⟨rfl, rfl, rfl, by rw [setBlock_size]; exact Nat.le_refl _, fun j _ hF => setBlock_other _ _ _ fun e => hF (.inr (.inl e))⟩, .inl rfl⟩

theorem split_fin {w W w8 w9 : World} {T : TypeId} {o1 o2 : Obj} {cs : Array Value} {cur : List Way} {many rule : Nat} {kids : List Part} {h : Hdr} {A8 A9 : Option Addr} {c8 c9 : Nat} {xs1 : List Value} (hst : SpStep w W bm r h h) (hb8 : Below W.heap.size W w8) (hs9 : SpAt (w8.alloc (.cells cs T)) bm r base g x M A c B d C q l0 p cur (many + 1) h) (hbW : base ≤ W.heap.size)
    (hs10 : SpAt (setBlock (w8.alloc (.cells cs T)) r o1) bm r base g x M A c B d C q l0 p cur (many + 1) h) (how1 : OwnWays (setBlock (w8.alloc (.cells cs T)) r o1) base (hdrV h) cur xs1) (ho8 : w8.ownsRow W.heap.size 106 4 (.slice A8 kids.length c8) kids.length (partCells kids))
    (hg9 : (setBlock (w8.alloc (.cells cs T)) r o1).grownBy w9 (hdrV h).ownBlock) (hown9 : w9.ownsRow base 137 2 (.slice A9 (cur.length + 1) c9) (cur.length + 1) (xs1 ++ [.int .i64 rule, .slice A8 kids.length c8]))
    (hat9 : (Value.slice A9 (cur.length + 1) c9).ownBlock = (hdrV h).ownBlock ∨ (Value.slice A9 (cur.length + 1) c9).ownBlock = some (setBlock (w8.alloc (.cells cs T)) r o1).heap.size)
    (hm9 : IsMap partV hdrV (setBlock w9 r o2) r (aput (aput l0 p h) p (A9, cur.length + 1, c9))) (hcl : cur.length ≤ many) :
    SpEnd w (setBlock w9 r o2) bm r base g x M A c B d C q l0 p (cur ++ [⟨rule, kids⟩], many + 1) h := by
  rw [aput_aput] at hm9
  have hnc : ∀ cs' T' fr, (w8.alloc (.cells cs T)).heap[r]? ≠ some (.cells cs' T' fr) := fun cs' T' fr e => by
    obtain ⟨es, c, h1, _⟩ := hs9.map
    rw [h1] at e; cases e
  have hr10 : (setBlock (w8.alloc (.cells cs T)) r o1).ownsRow base 106 4 (.slice A8 kids.length c8) kids.length (partCells kids) := own_kept ((ho8.mono_base hbW).alloc _) (grown_setBlock _ r o1) hnc
  have hw9 := how1.snoc (r := ⟨rule, kids⟩) hr10 hg9 hown9
  have hbr : ∀ b, b < base → w9.heap[b]? = (setBlock (w8.alloc (.cells cs T)) r o1).heap[b]? := fun b hb => hg9.block b (by have := hs10.le; omega) fun e => by have := (hs10.hown e.symm).1; omega
  have hnc9 : ∀ cs' T' fr, w9.heap[r]? ≠ some (.cells cs' T' fr) := fun cs' T' fr e => by
    rw [hbr r hs10.rl] at e
    obtain ⟨es, c, h1, _⟩ := hs10.map
    rw [h1] at e; cases e
  have hw10 := hw9.notCells (grown_setBlock w9 r o2) hnc9
  have hst2 : SpStep w (setBlock (w8.alloc (.cells cs T)) r o1) bm r h h := ((hst.trans (SpStep.ofBelow bm r h hb8)).trans (SpStep.ofBelow bm r h ((Below.refl _ _).alloc (Nat.le_refl _) _))).trans (SpStep.setMap _ bm r h o1)
  have hst3 : SpStep (setBlock (w8.alloc (.cells cs T)) r o1) w9 bm r h (A9, cur.length + 1, c9) := by
    refine ⟨Away.grown hg9 (Nat.le_refl _) fun k hk => .inl (.inr (.inr hk)), ?_⟩
    rcases hat9 with h1 | h1
    · exact .inl h1
    · exact .inr ⟨_, h1, Nat.le_refl _⟩
  refine ⟨(A9, cur.length + 1, c9), (hst2.trans hst3).trans (SpStep.setMap _ bm r _ o2), hs10.bml, hs10.rl, hs10.ne, ?_, ?_, hm9, ⟨_, hw10⟩, by simp; omega⟩
  · rw [setBlock_size]; have := hg9.size; have := hs10.le; omega
  · have hk : ∀ b, b < base → b ≠ r → (setBlock w9 r o2).heap[b]? = (setBlock (w8.alloc (.cells cs T)) r o1).heap[b]? := fun b hb hne => (setBlock_other _ _ _ hne).trans (hbr b hb)
    have hle : (setBlock (w8.alloc (.cells cs T)) r o1).heap.size ≤ (setBlock w9 r o2).heap.size := by rw [setBlock_size w9]; exact hg9.size
    exact ⟨(hk bm hs10.bml hs10.ne).trans hs10.mker.blk, hs10.mker.rules.keep (fun b hb => hk b hb.1 hb.2.2) hle, hs10.mker.word.keep (fun b hb => hk b hb.1 hb.2.2) hle, hs10.mker.mat.keep (fun b hb => hk b hb.1 hb.2.2) hle⟩

set_option maxRecDepth 100000 in
set_option maxHeartbeats 1600000 in
/-- split, all symbols read -/
theorem split_end (_hv : Valid g) {rule : Nat} {R : Rule} (hR : g.rules[rule]? = some R) (a : Nat) (kids : List Part) (K : Option Addr) (ck : Nat) (cur : List Way) (many : Nat) (h : Hdr) (w : World) (hs : SpAt w bm r base g x M A c B d C q l0 p cur many h) (hkids : IsSl Elt.fpart (fun b => ¬ SpF bm r h b) w (.slice K kids.length ck) kids) (hk4 : kids.length ≤ 4) (hmany : many ≤ maxPacks + 50) :
    Calls Tryz.prog 55 #[.pointer (some ⟨bm, 0, none⟩), partV p, .int .i64 rule, .int .i64 R.r.length, .int .i64 a, .slice K kids.length ck] w fun e w' => e = .returned (.tuple #[]) ∧ SpEnd w w' bm r base g x M A c B d C q l0 p (cur ++ [⟨rule, kids⟩], many + 1) h := by
  obtain ⟨hr1, hr2⟩ := List.getElem?_eq_some_iff.1 hR
  obtain ⟨b, o, rfl, hF, hl, hc1, A', c', hc2, hsy⟩ := hs.mker.rules.ruleAt rule hr1
  rw [hr2] at hc1 hc2 hsy
  obtain ⟨iw, hiw, hw0, hw2, hw3⟩ := info_parts Tryz.infoWay
  have hbm := blk_lt hs.mker.blk
  have hbml := hs.bml
  have hrl := hs.rl
  have hle := hs.le
  obtain ⟨xs, ho⟩ := hs.own
  obtain ⟨H1, H2, H3⟩ := h
  obtain ⟨H1', H3', he⟩ := own_form ho.own
  obtain ⟨rfl, rfl, rfl⟩ : H1 = H1' ∧ H2 = cur.length ∧ H3 = H3' := by
    simp only [hdrV] at he
    injection he with e1 e2 e3
    exact ⟨e1, e2, e3⟩
  clear he
  have hbb : base ≤ w.heap.size := hs.le
  have hs2 : SpAt ((w.setCell ⟨bm, 7, none⟩ (.int .i64 ((many : Int) + 1))).alloc (.cells #[.bool p.y.t, .int .i64 p.y.n, .int .i64 p.i, .int .i64 p.j] 106)) bm r base g x M (some ⟨b, o, none⟩) c B d C q l0 p cur (many + 1) (H1, cur.length, H3) := hs.count.below ((Below.refl _ _).alloc (Nat.le_refl _) _)
  have hst2 : SpStep w ((w.setCell ⟨bm, 7, none⟩ (.int .i64 ((many : Int) + 1))).alloc (.cells #[.bool p.y.t, .int .i64 p.y.n, .int .i64 p.i, .int .i64 p.j] 106)) bm r (H1, cur.length, H3) (H1, cur.length, H3) := (SpStep.count (w := w) bm r (H1, cur.length, H3) _).trans (SpStep.ofBelow bm r _ ((Below.refl _ _).alloc (Nat.le_refl _) _))
  have hkids2 := hst2.keep hkids
  have hbx : ((w.setCell ⟨bm, 7, none⟩ (.int .i64 ((many : Int) + 1))).alloc (.cells #[.bool p.y.t, .int .i64 p.y.n, .int .i64 p.i, .int .i64 p.j] 106)).heap[w.heap.size]? = some (.cells #[.bool p.y.t, .int .i64 p.y.n, .int .i64 p.i, .int .i64 p.j] 106) := by
    have := heap_alloc_new (w.setCell ⟨bm, 7, none⟩ (.int .i64 ((many : Int) + 1))) (.cells #[.bool p.y.t, .int .i64 p.y.n, .int .i64 p.i, .int .i64 p.j] 106)
    rw [size_setCell] at this
    exact this
  have hk7 := blk_cell hs.mker.blk (i := 7) rfl
  have hk3 := blk_cell hs.mker.blk (i := 3) rfl
  have hf7 : w.frozen? ⟨bm, 7, none⟩ = false := blk_free hs.mker.blk
  have hrz : (rule : Int) < (g.rules.length : Int) := by omega
  have hmz : (many : Int) ≤ 30000 := by unfold maxPacks at hmany; omega
  have hcl := hs.len
  unfold maxPacks at hmany
  unfold partV
  go_enter Tryz.func55, Tryz.ntmps55
  go_wp2_with fail
  clear hk7 hk3 hf7 hc1 hc2 hsy ho hs
  generalize ((w.setCell ⟨bm, 7, none⟩ (.int .i64 ((many : Int) + 1))).alloc (.cells #[.bool p.y.t, .int .i64 p.y.n, .int .i64 p.i, .int .i64 p.j] 106)) = W at hs2 hst2 hkids2 hbx ⊢
  have hkd := hkids2.below (w' := W.drew) ((Below.refl _ _).drew)
  have hs3 := hs2.below (w' := W.drew) ((Below.refl _ _).drew)
  have hst3 := hst2.trans (SpStep.ofBelow bm r _ ((Below.refl _ _).drew : Below W.heap.size W W.drew))
  have hbx3 : W.drew.heap[w.heap.size]? = _ := hbx
  have hx6 := blk_cell hs2.mker.blk (i := 6) rfl
  have hb0 := blk_cell hbx (i := 0) rfl
  have hb1 := blk_cell hbx (i := 1) rfl
  have hb2 := blk_cell hbx (i := 2) rfl
  have hb3 := blk_cell hbx (i := 3) rfl
  have hxl := blk_lt hbx
  have hxm := blk_lt hs2.mker.blk
  go_region_law (first | (refine step_call rfl 72 Tryz.f72 Tryz.func72 (by kernel_rfl) (by kernel_rfl) [_] _ rfl [.slice K kids.length ck] rfl _ (clone_parts _ kids K _ ck _ hkd (by omega)) ?_; rintro e8 w8 ⟨A8, c8, rfl, hb8, ho8⟩; refine ⟨_, rfl, ?_⟩; have hs8 := hs3.below hb8; have hx68 := blk_cell hs8.mker.blk (i := 6) rfl; have hbx8 := blk_below hb8 hxl hbx3; have hb08 := blk_cell hbx8 (i := 0) rfl; have hb18 := blk_cell hbx8 (i := 1) rfl; have hb28 := blk_cell hbx8 (i := 2) rfl; have hb38 := blk_cell hbx8 (i := 3) rfl; have hs9 := hs8.below (w' := w8.alloc (.cells #[.int .i64 rule, .slice A8 kids.length c8] 137)) ((Below.refl _ _).alloc (Nat.le_refl _) _); have hx69 := blk_cell hs9.mker.blk (i := 6) rfl; have hbx9 := blk_below (w' := w8.alloc (.cells #[.int .i64 rule, .slice A8 kids.length c8] 137)) (B := w8.heap.size) ((Below.refl _ _).alloc (Nat.le_refl _) _) (blk_lt hbx8) hbx8; have hb09 := blk_cell hbx9 (i := 0) rfl; have hb19 := blk_cell hbx9 (i := 1) rfl; have hb29 := blk_cell hbx9 (i := 2) rfl; have hb39 := blk_cell hbx9 (i := 3) rfl; obtain ⟨o1, st, hme, hm2, hes⟩ := hs9.map.entry Tryz.partKey Tryz.underlying54 p _ (alook_aput_same _ _ _); unfold partV hdrV at hme; have hs10 := hs9.entry1 hm2; obtain ⟨xs1, how1⟩ := hs10.own; have hmb := setBlock_same (w8.alloc (.cells #[.int .i64 rule, .slice A8 kids.length c8] 137)) r o1 hs9.map.lt) | (refine step_append_src _ rfl (.tmp 40) (.tmp 45) 132 rfl base 137 iw (.agg #[.int .i64 0, .slice none 0 0]) 2 32 Tryz.underlying132 hiw hw0 hw2 hw3 rfl (by decide) _ cur.length _ rfl how1.own (some ⟨w8.heap.size, 0, none⟩) 1 1 [.int .i64 rule, .slice A8 kids.length c8] rfl rfl (by intro h; cases h) (fun a ha j u hj => by injection ha with ha; subst ha; exact entry_cell hs8 hj) (fun u hu => by simp at hu; rcases hu with rfl | rfl <;> rfl) (cur.length + 1) rfl (by unfold maxLen; omega) (by omega) (by rw [setBlock_size, World.size_alloc]; have := hs8.le; omega) ?_; intro A9 c9 w9 hown9 hg9 hat9; have hr9 := (hg9.block r (blk_lt hmb) (fun e => by have := (hs10.hown e.symm).1; have := hs10.rl; omega)).trans hmb; obtain ⟨o2, hst, hm9⟩ := hes w9 (A9, cur.length + 1, c9) hr9; have hfin := split_fin hst3 hb8 hs9 hs3.le hs10 how1 ho8 hg9 hown9 hat9 hm9 hcl; unfold hdrV goInt at hst))
  all_goals
    go_wp2
    exact bodyPost_ret (v := .tuple #[]) (by kernel_rfl) rfl ⟨rfl, hfin⟩
end
end Go.Proofs.YtdbkbkopcnkgcaaGreat
