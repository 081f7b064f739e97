import Derived.Test.YtdbkbkopcnkgcaaForB
import Derived.Test.YtdbkbkopcnkgcaaFeedB
import Derived.WideKeyEntry
open Go Go.RowKit
open Go.ChangeMaps (setBlock)
namespace Go.Proofs.Ytdbkbkopcnkgcaa

def partV (p : Part) : Value := .agg #[.bool p.y.t, .int .i64 p.y.n, .int .i64 p.i, .int .i64 p.j]
theorem partV_inj (a b : Part) (h : partV a = partV b) : a = b := by
  obtain ⟨⟨at_, an⟩, ai, aj⟩ := a
  obtain ⟨⟨bt, bn⟩, bi, bj⟩ := b
  simp [partV] at h
  obtain ⟨h1, h2, h3, h4⟩ := h
  simp only [Part.mk.injEq, Sym.mk.injEq]
  exact ⟨⟨h1, h2⟩, by omega, by omega⟩

theorem Try.fieldsFpart : Try.prog.fieldsOf 177 = #[{ name := "y", type := 37, offset := 0, embedded := false, tag := "", pkgPath := "parlance/forest", byteOffset := 0 }, { name := "i", type := 3, offset := 2, embedded := false, tag := "", pkgPath := "parlance/forest", byteOffset := 16 }, { name := "j", type := 3, offset := 3, embedded := false, tag := "", pkgPath := "parlance/forest", byteOffset := 24 }] := by
  simp only [Program.fieldsOf, Try.underlying177]
theorem Try.symEqD (n : Nat) (a b : Sym) (w : World) : (Op.equalIn (n + 1 + 1) 37 (.agg #[.bool a.t, .int .i64 a.n]) (.agg #[.bool b.t, .int .i64 b.n])).run Try.prog w = .ok (decide (a = b)) w := by
  obtain ⟨at_, an⟩ := a
  obtain ⟨bt, bn⟩ := b
  rw [run_equalIn_struct (P := Try.prog) w (n + 1) 37 _ _ (by rw [Try.fieldsSym]; exact Try.underlying37) (by kernel_rfl), Try.fieldsSym]
  by_cases h1 : at_ = bt <;> by_cases h2 : an = bn <;> simp [Op.eqFields, h1, h2, go_sem]
theorem Try.intEqD (n : Nat) (a b : Int) (w : World) : (Op.equalIn (n + 1) 3 (.int .i64 a) (.int .i64 b)).run Try.prog w = .ok (decide (a = b)) w := by
  simp [Op.equalIn, run_underlying Try.underlying3]
  rfl
theorem Try.partSym (a b c d : Value) (w : World) : (part 37 #[a, b, c, d] 0).run Try.prog w = .ok (.agg #[a, b]) w := by
  simp [part, go_sem]
theorem Try.partInt2 (a b c d : Value) (w : World) : (part 3 #[a, b, c, d] 2).run Try.prog w = .ok c w := by
  simp [part, go_sem]
theorem Try.partInt3 (a b c d : Value) (w : World) : (part 3 #[a, b, c, d] 3).run Try.prog w = .ok d w := by
  simp [part, go_sem]
theorem Try.eqPart (a b : Part) (w : World) : (Op.equal 177 (partV a) (partV b)).run Try.prog w = .ok (decide (a = b)) w := by
  obtain ⟨ay, ai, aj⟩ := a
  obtain ⟨yb, bi, bj⟩ := b
  unfold partV Op.equal Op.maxDepth
  rw [run_equalIn_struct (P := Try.prog) w 9999 177 _ _ (by rw [Try.fieldsFpart]; exact Try.underlying177) (by kernel_rfl), Try.fieldsFpart]
  by_cases h1 : ay = yb <;> by_cases h2 : ai = bi <;> by_cases h3 : aj = bj <;> simp [Op.eqFields, Try.symEqD 9997, Try.intEqD 9998, h1, h2, h3, go_sem] <;> omega
theorem Try.chkSym (b : Bool) (n : Nat) (x y : Value) (w : World) (hx : ∀ m w, (Instr.checkKey b (m + 1) 4 x).run Try.prog w = .ok () w) (hy : ∀ m w, (Instr.checkKey b (m + 1) 3 y).run Try.prog w = .ok () w) : (Instr.checkKey b (n + 1 + 1) 37 (.agg #[x, y])).run Try.prog w = .ok () w := by
  rw [Instr.checkKey]
  simp [run_underlying Try.underlying37, hx, hy, go_sem]
theorem Try.chkBool (b : Bool) (n : Nat) (x : Bool) (w : World) : (Instr.checkKey b (n + 1) 4 (.bool x)).run Try.prog w = .ok () w := by
  simp [Instr.checkKey, run_underlying Try.underlying4]
theorem Try.chkPart (b : Bool) (n : Nat) (a : Part) (w : World) : (Instr.checkKey b (n + 1 + 1 + 1) 177 (partV a)).run Try.prog w = .ok () w := by
  unfold partV
  rw [Instr.checkKey]
  have h1 := Try.chkSym b n (.bool a.y.t) (.int .i64 a.y.n) w (fun m w => Try.chkBool b m _ w) (fun m w => Try.chkInt b m _ w)
  simp [run_underlying Try.underlying177, Try.partSym, Try.partInt2, Try.partInt3, Try.chkInt, h1]
theorem Try.partKey : MKey Try.prog 177 partV where
  eq := Try.eqPart
  chk e a w := Try.chkPart e 9997 a w
  bits a := by unfold partV; simp [Instr.sameBits]
  und := ⟨_, Try.underlying177, fun a b => by simp [Instr.sameNow]⟩

/-! ### slices of parts -/
def Elt.fpart : Elt Part := ((Elt.bool.pair Elt.int).pair (Elt.int.pair Elt.int)).map fun p => ((p.y.t, p.y.n), ((p.i : Int), (p.j : Int)))
def Elt.way : Elt Way := (Elt.int.pair Elt.fpart.sl).map fun v => ((v.rule : Int), v.kids)
def partC (p : Part) : List Value := [.bool p.y.t, .int .i64 p.y.n, .int .i64 p.i, .int .i64 p.j]
def partCells (l : List Part) : List Value := l.flatMap partC
theorem partCells_length (l : List Part) : (partCells l).length = l.length * 4 := by
  induction l with
  | nil => rfl
  | cons a l ih => simp only [partCells, List.flatMap_cons, List.length_append] at *; rw [ih]; simp [partC]; omega
theorem partCells_snoc (l : List Part) (s : Part) : partCells (l ++ [s]) = partCells l ++ partC s := by simp [partCells]
theorem partCells_get : ∀ (l : List Part) (k : Nat) (h : k < l.length), (partCells l)[k * 4]? = some (.bool l[k].y.t) ∧ (partCells l)[k * 4 + 1]? = some (.int .i64 l[k].y.n) ∧ (partCells l)[k * 4 + 2]? = some (.int .i64 l[k].i) ∧ (partCells l)[k * 4 + 3]? = some (.int .i64 l[k].j)
  | [], k, h => by simp at h
  | a :: l, 0, h => by simp [partCells, partC]
  | a :: l, k + 1, h => by
    have := partCells_get l k (by simpa using h)
    have e : partCells (a :: l) = partC a ++ partCells l := by simp [partCells]
    have hl : (partC a).length = 4 := rfl
    rw [e, show (k + 1) * 4 = k * 4 + 4 by omega]
    refine ⟨?_, ?_, ?_, ?_⟩
    · rw [List.getElem?_append_right (by omega), show k * 4 + 4 - (partC a).length = k * 4 by omega]; simpa using this.1
    · rw [List.getElem?_append_right (by omega), show k * 4 + 4 + 1 - (partC a).length = k * 4 + 1 by omega]; simpa using this.2.1
    · rw [List.getElem?_append_right (by omega), show k * 4 + 4 + 2 - (partC a).length = k * 4 + 2 by omega]; simpa using this.2.2.1
    · rw [List.getElem?_append_right (by omega), show k * 4 + 4 + 3 - (partC a).length = k * 4 + 3 by omega]; simpa using this.2.2.2
theorem partC_one (p : Part) : ∀ u ∈ partC p, u.oneCell' = true := by
  intro u hu
  simp [partC] at hu
  rcases hu with rfl | rfl | rfl | rfl <;> rfl
theorem partCells_one (l : List Part) : ∀ u ∈ partCells l, u.oneCell' = true := by
  intro u hu
  simp only [partCells, List.mem_flatMap] at hu
  obtain ⟨s, _, hs⟩ := hu
  exact partC_one s u hs
theorem partCells_at (l : List Part) (j : Nat) (u : Value) (h : (partCells l)[j]? = some u) : ∃ k, ∃ hk : k < l.length, (j = k * 4 ∧ u = .bool l[k].y.t) ∨ (j = k * 4 + 1 ∧ u = .int .i64 l[k].y.n) ∨ (j = k * 4 + 2 ∧ u = .int .i64 l[k].i) ∨ (j = k * 4 + 3 ∧ u = .int .i64 l[k].j) := by
  have hj := (List.getElem?_eq_some_iff.1 h).1
  rw [partCells_length] at hj
  refine ⟨j / 4, by omega, ?_⟩
  obtain ⟨h1, h2, h3, h4⟩ := partCells_get l (j / 4) (by omega)
  have hm : j % 4 < 4 := Nat.mod_lt _ (by omega)
  rcases Nat.lt_or_ge (j % 4) 1 with h5 | h5
  · have e : j = j / 4 * 4 := by omega
    rw [← e, h] at h1; injection h1 with h1; exact .inl ⟨e, h1⟩
  · rcases Nat.lt_or_ge (j % 4) 2 with h6 | h6
    · have e : j = j / 4 * 4 + 1 := by omega
      rw [← e, h] at h2; injection h2 with h2; exact .inr (.inl ⟨e, h2⟩)
    · rcases Nat.lt_or_ge (j % 4) 3 with h7 | h7
      · have e : j = j / 4 * 4 + 2 := by omega
        rw [← e, h] at h3; injection h3 with h3; exact .inr (.inr (.inl ⟨e, h3⟩))
      · have e : j = j / 4 * 4 + 3 := by omega
        rw [← e, h] at h4; injection h4 with h4; exact .inr (.inr (.inr ⟨e, h4⟩))
theorem add_lit (b o j : Nat) : (⟨b, o, none⟩ : Addr).add j = ⟨b, o + j, none⟩ := by unfold Addr.add; split <;> simp_all

theorem IsSl.partAt {F : Nat → Prop} {w : World} {A : Option Addr} {n c : Nat} {xs : List Part} (h : IsSl Elt.fpart F w (.slice A n c) xs) (k : Nat) (hk : k < xs.length) :
    ∃ b o, A = some ⟨b, o, none⟩ ∧ F b ∧ b < w.heap.size ∧ w.cell? ⟨b, o + k * 4, none⟩ = some (.bool xs[k].y.t) ∧ w.cell? ⟨b, o + k * 4 + 1, none⟩ = some (.int .i64 xs[k].y.n) ∧ w.cell? ⟨b, o + k * 4 + 2, none⟩ = some (.int .i64 xs[k].i) ∧ w.cell? ⟨b, o + k * 4 + 3, none⟩ = some (.int .i64 xs[k].j) := by
  obtain ⟨A', c', he, hl, h⟩ := h
  injection he with h1 h2 h3
  subst h1
  obtain ⟨b, o, rfl, hb, hlt, he⟩ := h k hk
  exact ⟨b, o, rfl, hb, hlt, he.1.1.2, he.1.2.2, he.2.1.2, he.2.2.2⟩
/-- the cells of a slice of parts, as append wants them -/
theorem sl_parts {F : Nat → Prop} {w : World} {A : Option Addr} {n c : Nat} {l : List Part} (h : IsSl Elt.fpart F w (.slice A n c) l) (a : Addr) (ha : A = some a) (j : Nat) (u : Value) (hj : (partCells l)[j]? = some u) : w.cell? (a.add j) = some u := by
  obtain ⟨k, hk, h2⟩ := partCells_at l j u hj
  obtain ⟨b, o, rfl, hF, hl, h3, h4, h5, h6⟩ := h.partAt k hk
  injection ha with ha
  subst ha
  rw [add_lit]
  rcases h2 with ⟨rfl, rfl⟩ | ⟨rfl, rfl⟩ | ⟨rfl, rfl⟩ | ⟨rfl, rfl⟩
  · exact h3
  · rw [← Nat.add_assoc]; exact h4
  · rw [← Nat.add_assoc]; exact h5
  · rw [← Nat.add_assoc]; exact h6
theorem own_parts {w : World} {base n : Nat} {v : Value} {l : List Part} (h : w.ownsRow base 177 4 v n (partCells l)) : IsSl Elt.fpart (fun b => base ≤ b ∧ v.ownBlock = some b) w v l := by
  have hl := h.1
  rw [partCells_length] at hl
  obtain rfl : n = l.length := by omega
  have hm := own_max h
  obtain ⟨A, c, rfl⟩ := own_form h
  refine ⟨A, c, rfl, hm, fun k hk => ?_⟩
  obtain ⟨b, cap, he, hb1, hb2⟩ := h.form (by omega)
  injection he with he1 he2 he3
  subst he1
  obtain ⟨h1, h2, h3, h4⟩ := partCells_get l k hk
  have k1 := h.cells (g := b) rfl _ _ h1
  have k2 := h.cells (g := b) rfl _ _ h2
  have k3 := h.cells (g := b) rfl _ _ h3
  have k4 := h.cells (g := b) rfl _ _ h4
  rw [add_lit0] at k1 k2 k3 k4
  have hF : base ≤ b ∧ (Value.slice (some ⟨b, 0, none⟩) l.length c).ownBlock = some b := ⟨hb1, rfl⟩
  refine ⟨b, 0, rfl, hF, cell_lt k1, ⟨⟨hF, ?_⟩, ⟨hF, ?_⟩⟩, ⟨hF, ?_⟩, ⟨hF, ?_⟩⟩
  · show w.cell? ⟨b, 0 + k * 4, none⟩ = _
    rw [Nat.zero_add]; exact k1
  · show w.cell? ⟨b, 0 + k * 4 + 1, none⟩ = _
    rw [Nat.zero_add]; exact k2
  · show w.cell? ⟨b, 0 + k * 4 + 2, none⟩ = _
    rw [Nat.zero_add]; exact k3
  · show w.cell? ⟨b, 0 + k * 4 + 2 + 1, none⟩ = _
    rw [Nat.zero_add]; exact k4

/-! ### laws that the kit lacks -/
section
variable {P : Program}

/-- s[i:] -/
theorem run_drop_sl {t E : TypeId} (ht : P.underlying t = some (.slice E)) {size : Nat} (hz : ∀ w, (sizeOf E).run P w = .ok size w) {α : Type} {d : Elt α} (hd : d.sz = size) {F : Nat → Prop} {w0 : World} {A : Option Addr} {n c : Nat} {xs : List α} (h : IsSl d F w0 (.slice A n c) xs) (hc : n ≤ c) (i : Nat) (hi : i ≤ n) :
    ∃ A', (∀ w : World, (Instr.slice t (.slice A n c) (some (.int .i64 i)) none none).run P w = .ok (.slice A' (n - i) (c - i)) w) ∧ IsSl d F w0 (.slice A' (n - i) (c - i)) (xs.drop i) := by
  obtain ⟨rfl, hn⟩ := h.len
  refine ⟨if c = i then A else A.map (·.add (i * size)), fun w => ?_, ?_⟩
  · have hii : (0 : Int) ≤ i ∧ (i : Int) ≤ xs.length := ⟨by omega, by omega⟩
    simp [Instr.slice, run_underlying ht, hz, Instr.sliceBounds, Instr.sliceBound, asIntOf]
    intro h; omega
  · obtain ⟨A', c', he, hl, h⟩ := h
    injection he with h1 h2 h3
    subst h1
    refine ⟨_, c - i, by rw [List.length_drop], by rw [List.length_drop]; omega, fun k hk => ?_⟩
    rw [List.length_drop] at hk
    obtain ⟨b, o, rfl, hb, hlt, he⟩ := h (i + k) (by omega)
    rw [if_neg (by omega)]
    refine ⟨b, o + i * size, by simp [add_lit], hb, hlt, ?_⟩
    rw [List.getElem_drop, Nat.add_assoc, hd, ← Nat.add_mul, ← hd]
    exact he

/-- a call of a Go function in a region that draws its order, behind a guard that is met -/
theorem step_callG {ops : Array Oper} {o : Oper} {a : Act} {w : World} {K : Act → World → Prop} {Q : Exit → Act → World → Prop} {E : Prop} (hw : Region.wanted o (yielded ops a.tmps) = true) (f : FuncId) (fn : Func) (hfn : P.funcs[f]? = some fn) (hnm : (fn.name == "runtime.NumGoroutine") = false) (hbd : fn.body.isNone = false) (args : List Operand) (tys : Array TypeId)
    (ho : o.op = .call { callee := .value (.func f), args := args.toArray, argTypes := tys }) (vals : List Value) (hv : args.map a.eval = vals) (R : Ending → World → Prop) (hc : Calls P f vals.toArray w R)
    (h : ∀ e w', R e w' → ∃ v, e = .returned v ∧ K (a.put o.dst v) w') : if Region.wanted o (yielded ops a.tmps) = true then Oper.wp P o a w K Q else E := by
  rw [if_pos hw]
  subst hv
  have hr : (execOp a.eval o).run P w = .ok (.enter f (args.map a.eval).toArray) w := by
    simp only [beq_eq_false_iff_ne, Option.isNone_eq_false_iff, Option.isSome_iff_ne_none] at hnm hbd
    simp [execOp, ho, resolve, invoke, Act.eval, Deferred.ofValue, callFunc, hfn, hnm, hbd]
  unfold Oper.wp
  rw [hr, Oper.upon_enter]
  refine hc.mono ?_
  intro e w' hR
  obtain ⟨v, rfl, hk⟩ := h e w' hR
  exact hk

/-- append to a slice without spare room -/
theorem step_append_full (w : World) {ops : Array Oper} {o : Oper} {a : Act} {K : Act → World → Prop} {Q : Exit → Act → World → Prop} {E : Prop} (hgd : o.guard = none) (s x : Operand) (t : TypeId)
    (ho : o.op = .call { callee := .builtin .append, args := #[s, x], argTypes := #[t, t] })
    (e : TypeId) (i : TypeInfo) (z : Value) (size bytes : Nat) (ht : P.underlying t = some (.slice e)) (hi : P.info? e = some i) (hz : i.zero = some z)
    (hsize : i.size = size) (hby : i.bytes = bytes) (hzs : z.cells.size = size) (hsz : 0 < size)
    (A : Option Addr) (n : Nat) (olds : List Value) (hs : a.eval s = .slice A n n) (hlo : olds.length = n * size) (hA : A = none → n = 0) (holds : ∀ a, A = some a → ∀ j u, olds[j]? = some u → w.cell? (a.add j) = some u)
    (ad : Addr) (m c : Nat) (news : List Value) (hx : a.eval x = .slice (some ad) m c) (hl : news.length = m * size) (hnews : ∀ j u, news[j]? = some u → w.cell? (ad.add j) = some u) (h1 : ∀ u ∈ news, u.oneCell' = true) (hm : 0 < m)
    (h63 : n + m ≤ maxLen) (hbytes : (n + m) * bytes ≤ 140737488355328)
    (h : ∀ A' c' w', w'.ownsRow w.heap.size e size (.slice A' (n + m) c') (n + m) (olds ++ news) → w.grownBy w' none → K (a.put o.dst (.slice A' (n + m) c')) w') :
    if Region.wanted o (yielded ops a.tmps) = true then Oper.wp P o a w K Q else E := by
  have hw : Region.wanted o (yielded ops a.tmps) = true := by simp [Region.wanted, hgd]
  rw [if_pos hw]
  have key : ∃ v' w', (Builtin.append_ #[t, t] o.type #[.slice A n n, .slice (some ad) m c]).run P w = .ok v' w' ∧ w'.ownsRow w.heap.size e size v' (n + m) (olds ++ news) ∧ w.grownBy w' none := by
    cases A with
    | some b => exact run_append_arg_grows (P := P) w t o.type e i z size bytes ht hi hz hsize hby hzs hsz b n n olds hlo (holds b rfl) ad m c news hl hnews (by omega) h63 hbytes
    | none =>
      obtain rfl := hA rfl
      have he : olds = [] := List.eq_nil_of_length_eq_zero (by simpa using hlo)
      subst he
      obtain ⟨v', w', h2, h3, h4, _⟩ := run_append_own_at (P := P) w w.heap.size t o.type e i z size bytes ht hi hz hsize hby hzs hsz (.slice none 0 0) 0 [] (World.ownsRow_nil _ _ _ _) ad m c news hl hnews h1 h63 hbytes (Nat.le_refl _)
      exact ⟨v', w', h2, h3, h4⟩
  obtain ⟨v', w', hr, h2, h3⟩ := key
  obtain ⟨A', c', rfl⟩ := own_form h2
  unfold Oper.wp execOp
  simp only [ho, resolve, invoke, builtin, Sem.run_bind, Sem.run_pure, Result.andThen_ok, List.map_toArray, List.map_cons, List.map_nil, hs, hx, hr]
  exact h A' c' w' h2 h3

variable {κ ν : Type} [DecidableEq κ] {K : TypeId} {enc : κ → Value} {vn : ν → Value}
/-- m[k] = f(m[k]) where k is there: the entry, and the store into it -/
theorem IsMap.entry (hK : MKey P K enc) {T E : TypeId} (hT : P.underlying T = some (.map K E)) {w : World} {r : Nat} {l : List (κ × ν)} (h : IsMap enc vn w r l) (k : κ) (v0 : ν) (hk : alook l k = some v0) :
    ∃ o st, (Instr.mapEntry T (.map (some r)) (enc k)).run P w = .ok (.tuple #[vn v0, goInt st]) (setBlock w r o) ∧ IsMap enc vn (setBlock w r o) r l ∧
      ∀ (w2 : World) (v : ν), w2.heap[r]? = some o → ∃ o', (Instr.entryStore T (.map (some r)) (goInt st) (vn v)).run P w2 = .ok () (setBlock w2 r o') ∧ IsMap enc vn (setBlock w2 r o') r (aput l k v) := by
  obtain ⟨es, clock, hb, he⟩ := h
  have hlen : es.toList.length = l.length := by have := congrArg List.length he.key; simpa using this
  have hset : ∀ (w : World) o es c, w.heap[r]? = some (.map es c) → (setObj r o).run P w = .ok () (setBlock w r o) := fun w o es c hb => by simp [setObj, Sem.run, hb, setBlock]
  have hkl : k ∈ l.map (·.1) := by
    rcases Classical.em (k ∈ l.map (·.1)) with h | h
    · exact h
    · rw [alook_none.2 h] at hk; cases hk
  have hkey0 : ∀ e, es.toList[aidx l k]? = some e → e.key = enc k := fun e h => by
    have h1 : (es.toList.map (·.key))[aidx l k]? = some e.key := by rw [List.getElem?_map, h]; rfl
    rw [he.key] at h1
    have h2 := aidx_get hkl
    rw [List.getElem?_map] at h1 h2
    cases h3 : l[aidx l k]? with
    | none => rw [h3] at h2; cases h2
    | some p =>
      rw [h3] at h1 h2
      simp only [Option.map_some, Option.some.injEq] at h1 h2
      rw [← h1, h2]
  have hlt : aidx l k < es.size := by
    have h2 := aidx_get hkl
    have := (List.getElem?_eq_some_iff.1 h2).1
    simp only [List.length_map] at this
    rw [← hlen] at this
    simpa using this
  have hj : es[aidx l k]? = some es[aidx l k] := Array.getElem?_eq_getElem hlt
  have hjl : es.toList[aidx l k]? = some es[aidx l k] := by simp [hlt]
  have hg : es[aidx l k].key = enc k := hkey0 _ hjl
  generalize es[aidx l k] = e0 at hj hjl hg
  have hbn : (es.toList.modify (aidx l k) fun e => { e with key := enc k }).map (·.born) = es.toList.map (·.born) := map_modify_keep _ _ _ _ (by intro e h; rfl)
  have hents : Ents enc vn (es.modify (aidx l k) fun e => { e with key := enc k }) clock l := by
    refine ⟨?_, ?_, he.dist, ?_, ?_⟩
    · rw [Array.toList_modify, map_modify_keep _ _ _ _ (fun e h => (hkey0 e h).symm), he.key]
    · rw [Array.toList_modify, map_modify_keep _ _ _ _ (by intro e h; rfl), he.val]
    · rw [Array.toList_modify, hbn]; exact he.born
    · intro e he2
      have : e.born ∈ (es.modify (aidx l k) fun e => { e with key := enc k }).toList.map (·.born) := List.mem_map.2 ⟨e, he2, rfl⟩
      rw [Array.toList_modify, hbn] at this
      obtain ⟨e', he', h'⟩ := List.mem_map.1 this
      rw [← h']; exact he.clk e' he'
  refine ⟨.map (es.modify (aidx l k) fun e => { e with key := enc k }) clock, e0.born, ?_, ⟨_, clock, setBlock_same _ _ _ (blk_lt hb), hents⟩, ?_⟩
  · simp only [Instr.mapEntry, Sem.run_bind, run_underlying hT, Result.andThen_ok, getObj, Sem.run, hb, hK.chk]
    rw [run_findKey hK k w es.toList l he.key he.val, hk]
    simp only [Option.map_some, Result.andThen_ok, hj, Option.getD_some, hg, run_stay hK, Sem.run_bind, hset _ _ _ _ hb, Sem.run_pure]
  · intro w2 v hw2
    generalize hes : (es.modify (aidx l k) fun e => { e with key := enc k }) = es2 at hents hw2
    have hj2 : es2.toList[aidx l k]? = some { e0 with key := enc k } := by
      rw [← hes, Array.toList_modify, List.getElem?_modify, hjl]; simp
    have hlen2 : es2.toList.length = l.length := by have := congrArg List.length hents.key; simpa using this
    have hidx : es2.findIdx? (fun e => ((e.born : Nat) : Int) == ((e0.born : Nat) : Int)) = some (aidx l k) := by
      rw [Go.WideElems.findIdx_arr]
      have := Go.WideElems.findIdx_born (e0 := { e0 with key := enc k }) hents.born hj2
      exact this
    have hbn2 : (es2.toList.modify (aidx l k) fun e => { e with val := vn v }).map (·.born) = es2.toList.map (·.born) := map_modify_keep _ _ _ _ (by intro e h; rfl)
    refine ⟨.map (es2.modify (aidx l k) fun e => { e with val := vn v }) clock, ?_, _, clock, setBlock_same _ _ _ (blk_lt hw2), ?_⟩
    · simp only [Instr.entryStore, Sem.run_bind, getObj, Sem.run, hw2, Result.andThen_ok, asInt, asIntOf, goInt, Sem.run_pure, hidx, hset _ _ _ _ hw2]
    · refine ⟨?_, ?_, ?_, ?_, ?_⟩
      · rw [Array.toList_modify, map_modify_keep _ _ _ _ (by intro e h; rfl), hents.key]
        have h2 := congrArg (List.map enc) (aput_keys_old hkl v)
        simpa [Function.comp_def] using h2.symm
      · rw [Array.toList_modify]
        have h3 := map_val_put (vn := vn) v k es2.toList l (enc k) hlen2 hents.val hkl
        rw [← h3]
        apply List.ext_getElem?
        intro m
        simp only [List.getElem?_map, List.getElem?_modify]
        by_cases hm : aidx l k = m
        · subst hm; rw [hj2]; simp
        · simp [hm]
      · rw [aput_keys_old hkl]; exact hents.dist
      · rw [Array.toList_modify, hbn2]; exact hents.born
      · intro e he2
        have : e.born ∈ (es2.modify (aidx l k) fun e => { e with val := vn v }).toList.map (·.born) := List.mem_map.2 ⟨e, he2, rfl⟩
        rw [Array.toList_modify, hbn2] at this
        obtain ⟨e', he', h'⟩ := List.mem_map.1 this
        rw [← h']; exact hents.clk e' he'
end
end Go.Proofs.Ytdbkbkopcnkgcaa
