import Derived.Test.YtdbkbkopcnkgcaaGreatWorld
import Derived.Maps.AppendAt
import Derived.Deep.AppendLies
import Derived.Deep.RegionLaw
import Derived.Laws.OwnMore
open Go Go.RowKit
namespace Go.Proofs.YtdbkbkopcnkgcaaGreat

theorem own_block {w : World} {base size n : Nat} {e : TypeId} {v : Value} {xs : List Value} (h : w.ownsRow base e size v n xs) (k : Nat) (hk : v.ownBlock = some k) : ∃ cs T fr, w.heap[k]? = some (.cells cs T fr) := by
  rcases h.2 with ⟨rfl, _⟩ | ⟨g', cap, cur, rfl, _, hgg, _⟩
  · cases hk
  · have e2 : g' = k := by simpa [Value.ownBlock] using hk
    exact ⟨_, _, _, e2 ▸ hgg⟩

theorem notCells {w : World} {base size n : Nat} {e : TypeId} {v : Value} {xs : List Value} {b : Nat} (ho : w.ownsRow base e size v n xs) (hb : ∀ cs T fr, w.heap[b]? ≠ some (.cells cs T fr)) : v.ownBlock ≠ some b := by
  intro e
  obtain ⟨cs, T, fr, h⟩ := own_block ho _ e
  exact hb _ _ _ h

theorem own_kept {w w' : World} {base size n : Nat} {e : TypeId} {v : Value} {xs : List Value} {b : Nat} (ho : w.ownsRow base e size v n xs) (hg : w.grownBy w' (some b)) (hb : ∀ cs T fr, w.heap[b]? ≠ some (.cells cs T fr)) : w'.ownsRow base e size v n xs := by
  refine ho.kept hg ?_
  rcases ho.2 with ⟨rfl, _⟩ | ⟨g', cap, cur, rfl, _, hgg, _⟩
  · exact .inl rfl
  · refine .inr fun e => ?_
    have e2 : g' = b := by simpa [Value.ownBlock] using e
    exact hb _ _ _ (e2 ▸ hgg)

theorem own_form {w : World} {base size n : Nat} {e : TypeId} {v : Value} {xs : List Value} (h : w.ownsRow base e size v n xs) : ∃ a c, v = .slice a n c := by
  rcases Nat.eq_zero_or_pos n with rfl | hp
  · rcases h.2 with ⟨rfl, _⟩ | ⟨g', cap, cur, rfl, _⟩
    · exact ⟨none, 0, rfl⟩
    · exact ⟨_, cap, rfl⟩
  · obtain ⟨b, cap, rfl, _⟩ := h.form hp
    exact ⟨_, cap, rfl⟩

theorem own_max {w : World} {base size n : Nat} {e : TypeId} {v : Value} {xs : List Value} (h : w.ownsRow base e size v n xs) : n ≤ 9223372036854775807 := by
  rcases h.2 with ⟨_, rfl⟩ | ⟨g', cap, cur, _, _, _, h1, h2, _⟩
  · omega
  · unfold maxLen at h2; omega

theorem own_cap {w : World} {base size n c : Nat} {e : TypeId} {A : Option Addr} {xs : List Value} (h : w.ownsRow base e size (.slice A n c) n xs) : n ≤ c := by
  rcases h.2 with ⟨he, hn⟩ | ⟨g, cap, cur, he, _, _, h1, _⟩
  · omega
  · injection he with h1' h2' h3'
    omega

theorem own_setCell {w : World} {base size n : Nat} {e : TypeId} {v : Value} {xs : List Value} {b i : Nat} (ho : w.ownsRow base e size v n xs) (hb : b < base) (u : Value) : (w.setCell ⟨b, i, none⟩ u).ownsRow base e size v n xs := by
  refine ho.kept (row := some b) ⟨rfl, rfl, rfl, by rw [size_setCell]; exact Nat.le_refl _, fun k _ hk => heap_set_ne (fun e => hk (by rw [e])) _ _⟩ ?_
  rcases ho.2 with ⟨rfl, _⟩ | ⟨g', cap, cur, rfl, hg, _⟩
  · exact .inl rfl
  · refine .inr fun e => ?_
    have e2 : g' = b := by simpa [Value.ownBlock] using e
    omega

theorem own_other {w w1 : World} {base size n size' n' : Nat} {e e' : TypeId} {v v' : Value} {xs xs' : List Value} (ho : w.ownsRow base e size v n xs) (ho' : w.ownsRow base e' size' v' n' xs') (hne : e ≠ e') (hg : w.grownBy w1 v'.ownBlock) : w1.ownsRow base e size v n xs := by
  refine ho.kept hg ?_
  rcases ho.2 with ⟨rfl, _⟩ | ⟨g', cap, cur, rfl, _, hgg, _⟩
  · exact .inl rfl
  · refine .inr fun e2 => ?_
    rcases ho'.2 with ⟨rfl, _⟩ | ⟨g2, cap2, cur2, rfl, _, hg2, _⟩
    · cases e2
    · have e3 : g' = g2 := by simpa [Value.ownBlock] using e2
      subst e3
      rw [hg2] at hgg
      injection hgg with hgg
      injection hgg with _ h5
      exact hne h5.symm

theorem own_nil {w w1 : World} {base size n : Nat} {e : TypeId} {v : Value} {xs : List Value} (h : w.ownsRow base e size v n xs) (hg : w.grownBy w1 (Value.slice none 0 0).ownBlock) : w1.ownsRow base e size v n xs :=
  h.kept (row := none) hg (by cases v.ownBlock <;> simp)

theorem blk_nil {W w2 : World} {b : Nat} {o : Obj} (h : W.heap[b]? = some o) (hg2 : W.grownBy w2 (Value.slice none 0 0).ownBlock) : w2.heap[b]? = some o := (hg2.block b (blk_lt h) (by simp [Value.ownBlock])).trans h

section
variable {P : Program} (w : World)

/-- append of a slice that may be nil -/
theorem run_append_src (base : Nat) (t ty e : TypeId) (i : TypeInfo) (z : Value) (size bytes : Nat) (ht : P.underlying t = some (.slice e)) (hi : P.info? e = some i) (hz : i.zero = some z)
    (hsize : i.size = size) (hby : i.bytes = bytes) (hzs : z.cells.size = size) (hsz : 0 < size)
    (v : Value) (n : Nat) (xs : List Value) (hown : w.ownsRow base e size v n xs)
    (A : Option Addr) (m c : Nat) (news : List Value) (hl : news.length = m * size) (hA : A = none → m = 0) (hnews : ∀ a, A = some a → ∀ j u, news[j]? = some u → w.cell? (a.add j) = some u) (h1 : ∀ u ∈ news, u.oneCell' = true)
    (h63 : n + m ≤ maxLen) (hbytes : (n + m) * bytes ≤ 140737488355328) (hbase : base ≤ w.heap.size) :
    ∃ v' w', (Builtin.append_ #[t, t] ty #[v, .slice A m c]).run P w = .ok v' w' ∧ w'.ownsRow base e size v' (n + m) (xs ++ news) ∧ w.grownBy w' v.ownBlock ∧ (v'.ownBlock = v.ownBlock ∨ v'.ownBlock = some w.heap.size) := by
  cases A with
  | some a =>
    obtain ⟨v', w', h2, h3, h4, _, h5⟩ := run_append_own_at (P := P) w base t ty e i z size bytes ht hi hz hsize hby hzs hsz v n xs hown a m c news hl (hnews a rfl) h1 h63 hbytes hbase
    exact ⟨v', w', h2, h3, h4, h5⟩
  | none =>
    have hm := hA rfl
    subst hm
    have hn : news = [] := List.eq_nil_of_length_eq_zero (by simpa using hl)
    subst hn
    refine ⟨v, w, ?_, by simpa using hown, ⟨rfl, rfl, rfl, Nat.le_refl _, fun _ _ _ => rfl⟩, .inl rfl⟩
    rcases hown.2 with ⟨rfl, rfl⟩ | ⟨g, cap, cur, rfl, _, _, hnc, _⟩
    · simp [Builtin.append_, run_underlying ht, sizeOf, typeInfo, hi, Builtin.lenOf, Builtin.firstCells]
    · simp [Builtin.append_, run_underlying ht, sizeOf, typeInfo, hi, Builtin.lenOf, Builtin.firstCells, hnc, storeCells]

theorem wpList_append_src {ops : Array Oper} {rest : List Oper} {o : Oper} {a : Act} {Q : Exit → Act → World → Prop} (hgd : o.guard = none) (s x : Operand) (t : TypeId)
    (ho : o.op = .call { callee := .builtin .append, args := #[s, x], argTypes := #[t, t] })
    (base : Nat) (e : TypeId) (i : TypeInfo) (z : Value) (size bytes : Nat) (ht : P.underlying t = some (.slice e)) (hi : P.info? e = some i) (hz : i.zero = some z)
    (hsize : i.size = size) (hby : i.bytes = bytes) (hzs : z.cells.size = size) (hsz : 0 < size)
    (v : Value) (n : Nat) (xs : List Value) (hs : a.eval s = v) (hown : w.ownsRow base e size v n xs)
    (A : Option Addr) (m c : Nat) (news : List Value) (hx : a.eval x = .slice A m c) (hl : news.length = m * size) (hA : A = none → m = 0) (hnews : ∀ a, A = some a → ∀ j u, news[j]? = some u → w.cell? (a.add j) = some u) (h1 : ∀ u ∈ news, u.oneCell' = true)
    (h63 : n + m ≤ maxLen) (hbytes : (n + m) * bytes ≤ 140737488355328) (hbase : base ≤ w.heap.size)
    (h : ∀ v' w', w'.ownsRow base e size v' (n + m) (xs ++ news) → w.grownBy w' v.ownBlock → (v'.ownBlock = v.ownBlock ∨ v'.ownBlock = some w.heap.size) → wpList P ops Q rest (a.put o.dst v') w') :
    wpList P ops Q (o :: rest) a w := by
  refine wpList_plain hgd fun K hK => ?_
  obtain ⟨v', w', hr, h2, h3, h5⟩ := run_append_src (P := P) w base t o.type e i z size bytes ht hi hz hsize hby hzs hsz v n xs hown A m c news hl hA hnews h1 h63 hbytes hbase
  unfold Oper.wp execOp
  simp only [ho, resolve, invoke, builtin, Sem.run_bind, Sem.run_pure, Result.andThen_ok, List.map_toArray, List.map_cons, List.map_nil, hs, hx, hr]
  exact hK _ _ (h v' w' h2 h3 h5)

theorem step_append_src {ops : Array Oper} {o : Oper} {a : Act} {K : Act → World → Prop} {Q : Exit → Act → World → Prop} {E : Prop} (hgd : o.guard = none) (s x : Operand) (t : TypeId)
    (ho : o.op = .call { callee := .builtin .append, args := #[s, x], argTypes := #[t, t] })
    (base : Nat) (e : TypeId) (i : TypeInfo) (z : Value) (size bytes : Nat) (ht : P.underlying t = some (.slice e)) (hi : P.info? e = some i) (hz : i.zero = some z)
    (hsize : i.size = size) (hby : i.bytes = bytes) (hzs : z.cells.size = size) (hsz : 0 < size)
    (v : Value) (n : Nat) (xs : List Value) (hs : a.eval s = v) (hown : w.ownsRow base e size v n xs)
    (A : Option Addr) (m c : Nat) (news : List Value) (hx : a.eval x = .slice A m c) (hl : news.length = m * size) (hA : A = none → m = 0) (hnews : ∀ a, A = some a → ∀ j u, news[j]? = some u → w.cell? (a.add j) = some u) (h1 : ∀ u ∈ news, u.oneCell' = true)
    (nm : Nat) (hnm : n + m = nm) (h63 : n + m ≤ maxLen) (hbytes : (n + m) * bytes ≤ 140737488355328) (hbase : base ≤ w.heap.size)
    (h : ∀ A' c' w', w'.ownsRow base e size (.slice A' nm c') nm (xs ++ news) → w.grownBy w' v.ownBlock → ((Value.slice A' nm c').ownBlock = v.ownBlock ∨ (Value.slice A' nm c').ownBlock = some w.heap.size) → K (a.put o.dst (.slice A' nm c')) w') :
    if Region.wanted o (yielded ops a.tmps) = true then Oper.wp P o a w K Q else E := by
  have hw : Region.wanted o (yielded ops a.tmps) = true := by simp [Region.wanted, hgd]
  rw [if_pos hw]
  subst hnm
  obtain ⟨v', w', hr, h2, h3, h5⟩ := run_append_src (P := P) w base t o.type e i z size bytes ht hi hz hsize hby hzs hsz v n xs hown A m c news hl hA hnews h1 h63 hbytes hbase
  obtain ⟨A', c', rfl⟩ := own_form h2
  unfold Oper.wp execOp
  simp only [ho, resolve, invoke, builtin, Sem.run_bind, Sem.run_pure, Result.andThen_ok, List.map_toArray, List.map_cons, List.map_nil, hs, hx, hr]
  exact h A' c' w' h2 h3 h5
end

/-- a call of a Go function in a region that draws its order, met by its contract -/
theorem step_call {P : Program} {ops : Array Oper} {o : Oper} {a : Act} {w : World} {K : Act → World → Prop} {Q : Exit → Act → World → Prop} {E : Prop} (hgd : o.guard = none) (f : FuncId) (fn : Func) (hfn : P.funcs[f]? = some fn) (hnm : (fn.name == "runtime.NumGoroutine") = false) (hbd : fn.body.isNone = false) (args : List Operand) (tys : Array TypeId)
    (ho : o.op = .call { callee := .value (.func f), args := args.toArray, argTypes := tys }) (vals : List Value) (hv : args.map a.eval = vals) (R : Ending → World → Prop) (hc : Calls P f vals.toArray w R)
    (h : ∀ e w', R e w' → ∃ v, e = .returned v ∧ K (a.put o.dst v) w') : if Region.wanted o (yielded ops a.tmps) = true then Oper.wp P o a w K Q else E := by
  have hw : Region.wanted o (yielded ops a.tmps) = true := by simp [Region.wanted, hgd]
  rw [if_pos hw]
  subst hv
  have hr : (execOp a.eval o).run P w = .ok (.enter f (args.map a.eval).toArray) w := by
    simp only [beq_eq_false_iff_ne, Option.isNone_eq_false_iff, Option.isSome_iff_ne_none] at hnm hbd
    simp [execOp, ho, resolve, invoke, Act.eval, Deferred.ofValue, callFunc, hfn, hnm, hbd]
  unfold Oper.wp
  rw [hr, Oper.upon_enter]
  refine hc.mono ?_
  intro e w' hR
  obtain ⟨v, rfl, hk⟩ := h e w' hR
  exact hk

def symCells (l : List Sym) : List Value := l.flatMap fun s => [.bool s.t, .int .i64 s.n]
theorem symCells_length (l : List Sym) : (symCells l).length = l.length * 2 := by
  induction l with
  | nil => rfl
  | cons a l ih => simp only [symCells, List.flatMap_cons, List.length_append] at *; rw [ih]; simp; omega
theorem symCells_snoc (l : List Sym) (s : Sym) : symCells (l ++ [s]) = symCells l ++ [.bool s.t, .int .i64 s.n] := by simp [symCells]
theorem symCells_get : ∀ (l : List Sym) (k : Nat) (h : k < l.length), (symCells l)[k * 2]? = some (.bool l[k].t) ∧ (symCells l)[k * 2 + 1]? = some (.int .i64 l[k].n)
  | [], k, h => by simp at h
  | a :: l, 0, h => by simp [symCells]
  | a :: l, k + 1, h => by
    have := symCells_get l k (by simpa using h)
    have e : symCells (a :: l) = [.bool a.t, .int .i64 a.n] ++ symCells l := by simp [symCells]
    rw [e, show (k + 1) * 2 = k * 2 + 2 by omega]
    refine ⟨?_, ?_⟩
    · rw [List.getElem?_append_right (by simp), show k * 2 + 2 - ([.bool a.t, .int .i64 a.n] : List Value).length = k * 2 by simp]; simpa using this.1
    · rw [List.getElem?_append_right (by simp), show k * 2 + 2 + 1 - ([.bool a.t, .int .i64 a.n] : List Value).length = k * 2 + 1 by simp]; simpa using this.2
theorem symCells_one (l : List Sym) : ∀ u ∈ symCells l, u.oneCell' = true := by
  intro u hu
  simp only [symCells, List.mem_flatMap] at hu
  obtain ⟨s, _, hs⟩ := hu
  simp at hs
  rcases hs with rfl | rfl <;> rfl
theorem symCells_at (l : List Sym) (j : Nat) (u : Value) (h : (symCells l)[j]? = some u) : ∃ k, ∃ hk : k < l.length, (j = k * 2 ∧ u = .bool l[k].t) ∨ (j = k * 2 + 1 ∧ u = .int .i64 l[k].n) := by
  have hj := (List.getElem?_eq_some_iff.1 h).1
  rw [symCells_length] at hj
  refine ⟨j / 2, by omega, ?_⟩
  obtain ⟨h1, h2⟩ := symCells_get l (j / 2) (by omega)
  rcases Nat.mod_two_eq_zero_or_one j with h3 | h3
  · have e : j = j / 2 * 2 := by omega
    rw [← e, h] at h1
    injection h1 with h1
    exact .inl ⟨e, h1⟩
  · have e : j = j / 2 * 2 + 1 := by omega
    rw [← e, h] at h2
    injection h2 with h2
    exact .inr ⟨e, h2⟩

/-- the cells of a slice of symbols, as append wants them -/
theorem sl_syms {F : Nat → Prop} {w : World} {A : Option Addr} {n c : Nat} {l : List Sym} (h : IsSl Elt.sym F w (.slice A n c) l) (a : Addr) (ha : A = some a) (j : Nat) (u : Value) (hj : (symCells l)[j]? = some u) : w.cell? (a.add j) = some u := by
  obtain ⟨k, hk, h2⟩ := symCells_at l j u hj
  obtain ⟨b, o, rfl, hF, hl, h3, h4⟩ := h.symAt k hk
  injection ha with ha
  subst ha
  rcases h2 with ⟨rfl, rfl⟩ | ⟨rfl, rfl⟩
  · have e : (⟨b, o, none⟩ : Addr).add (k * 2) = ⟨b, o + k * 2, none⟩ := by unfold Addr.add; split <;> simp_all
    rw [e]; exact h3
  · have e : (⟨b, o, none⟩ : Addr).add (k * 2 + 1) = ⟨b, o + k * 2 + 1, none⟩ := by unfold Addr.add; split <;> simp_all; omega
    rw [e]; exact h4
theorem sl_none {α : Type} {d : Elt α} {F : Nat → Prop} {w : World} {A : Option Addr} {n c : Nat} {l : List α} (h : IsSl d F w (.slice A n c) l) (ha : A = none) : n = 0 := by
  subst ha
  obtain ⟨rfl, _⟩ := h.len
  cases l with
  | nil => rfl
  | cons a l =>
    obtain ⟨A', c', he, _, h2⟩ := h
    injection he with he
    obtain ⟨b, o, h3, _⟩ := h2 0 (by simp)
    rw [← he] at h3
    cases h3

theorem own_syms {w : World} {base n : Nat} {v : Value} {l : List Sym} (h : w.ownsRow base 70 2 v n (symCells l)) : IsSl Elt.sym (fun b => base ≤ b) w v l := by
  have hl := h.1
  rw [symCells_length] at hl
  obtain rfl : n = l.length := by omega
  have hm := own_max h
  obtain ⟨A, c, rfl⟩ := own_form h
  refine ⟨A, c, rfl, hm, fun k hk => ?_⟩
  obtain ⟨b, cap, he, hb1, hb2⟩ := h.form (by omega)
  injection he with he1 he2 he3
  subst he1
  obtain ⟨h1, h2⟩ := symCells_get l k hk
  have k1 := h.cells (g := b) rfl _ _ h1
  have k2 := h.cells (g := b) rfl _ _ h2
  rw [add_lit0] at k1 k2
  refine ⟨b, 0, rfl, hb1, cell_lt k1, ⟨hb1, ?_⟩, ⟨hb1, ?_⟩⟩
  · show w.cell? ⟨b, 0 + k * 2, none⟩ = _
    rw [Nat.zero_add]; exact k1
  · show w.cell? ⟨b, 0 + k * 2 + 1, none⟩ = _
    rw [Nat.zero_add]; exact k2

/-- rules that the call has made: a row of its own, and each right side a row of its own -/
structure OwnRules (w : World) (base : Nat) (v : Value) (l : List Rule) (xs : List Value) : Prop where
  own : w.ownsRow base 99 2 v l.length xs
  at_ : ∀ k (h : k < l.length), xs[k * 2]? = some (.int .i64 l[k].l) ∧ ∃ A c, xs[k * 2 + 1]? = some (.slice A l[k].r.length c) ∧ w.ownsRow base 70 2 (.slice A l[k].r.length c) l[k].r.length (symCells l[k].r)

theorem OwnRules.nil (w : World) (base : Nat) : OwnRules w base (.slice none 0 0) [] [] := ⟨World.ownsRow_nil _ _ _ _, fun k h => by simp at h⟩
theorem OwnRules.alloc {w : World} {base : Nat} {v : Value} {l : List Rule} {xs : List Value} (h : OwnRules w base v l xs) (o : Obj) : OwnRules (w.alloc o) base v l xs :=
  ⟨h.own.alloc o, fun k hk => by
    obtain ⟨h1, A, c, h2, h3⟩ := h.at_ k hk
    exact ⟨h1, A, c, h2, h3.alloc o⟩⟩
theorem OwnRules.grownSym {w w1 : World} {base : Nat} {v u : Value} {l : List Rule} {xs : List Value} (h : OwnRules w base v l xs) (hu : u = .slice none 0 0) (hg : w.grownBy w1 u.ownBlock) : OwnRules w1 base v l xs := by
  subst hu
  exact ⟨h.own.kept (row := none) hg (by cases v.ownBlock <;> simp), fun k hk => by
    obtain ⟨h1, A, c, h2, h3⟩ := h.at_ k hk
    exact ⟨h1, A, c, h2, h3.kept (row := none) hg (by cases (Value.slice A l[k].r.length c).ownBlock <;> simp)⟩⟩

theorem OwnRules.setCell {w : World} {base b i : Nat} {v u : Value} {l : List Rule} {xs : List Value} (h : OwnRules w base v l xs) (hb : b < base) : OwnRules (w.setCell ⟨b, i, none⟩ u) base v l xs :=
  ⟨own_setCell h.own hb u, fun k hk => by
    obtain ⟨h1, A, c, h2, h3⟩ := h.at_ k hk
    exact ⟨h1, A, c, h2, own_setCell h3 hb u⟩⟩
theorem OwnRules.below {w w' : World} {base : Nat} {v : Value} {l : List Rule} {xs : List Value} (h : OwnRules w base v l xs) (hb : Below w.heap.size w w') : OwnRules w' base v l xs :=
  have hg : w.grownBy w' none := ⟨hb.os, hb.tape, hb.output, hb.size, fun k hk _ => hb.block k hk⟩
  ⟨h.own.kept (row := none) hg (by cases v.ownBlock <;> simp), fun k hk => by
    obtain ⟨h1, A, c, h2, h3⟩ := h.at_ k hk
    exact ⟨h1, A, c, h2, h3.kept (row := none) hg (by cases (Value.slice A l[k].r.length c).ownBlock <;> simp)⟩⟩
/-- a rule is laid in -/
theorem OwnRules.snoc {w w1 : World} {base : Nat} {v v' : Value} {l : List Rule} {xs : List Value} {r : Rule} {A : Option Addr} {c : Nat} (h : OwnRules w base v l xs) (hr : w.ownsRow base 70 2 (.slice A r.r.length c) r.r.length (symCells r.r)) (hg : w.grownBy w1 v.ownBlock)
    (hown : w1.ownsRow base 99 2 v' (l.length + 1) (xs ++ [.int .i64 r.l, .slice A r.r.length c])) : OwnRules w1 base v' (l ++ [r]) (xs ++ [.int .i64 r.l, .slice A r.r.length c]) := by
  have hxl := h.own.1
  refine ⟨by simpa using hown, fun k hk => ?_⟩
  by_cases e : k < l.length
  · obtain ⟨h1, A', c', h2, h3⟩ := h.at_ k e
    have e2 : (l ++ [r])[k] = l[k] := by simp [e]
    rw [e2, List.getElem?_append_left (by omega), List.getElem?_append_left (by omega)]
    exact ⟨h1, A', c', h2, own_other h3 h.own (by decide) hg⟩
  · have e1 : k = l.length := by simp at hk; omega
    subst e1
    have e2 : (l ++ [r])[l.length] = r := by simp
    rw [e2, List.getElem?_append_right (by omega), List.getElem?_append_right (by omega), hxl]
    refine ⟨by simp, A, c, by simp, own_other hr h.own (by decide) hg⟩
theorem OwnRules.isSl {w : World} {base : Nat} {v : Value} {l : List Rule} {xs : List Value} (h : OwnRules w base v l xs) : IsSl Elt.rule (fun b => base ≤ b) w v l := by
  have ho := h.own
  have hm := own_max ho
  obtain ⟨A, c, rfl⟩ := own_form ho
  refine ⟨A, c, rfl, hm, fun k hk => ?_⟩
  obtain ⟨b, cap, he, hb1, hb2⟩ := ho.form (by omega)
  injection he with he1 he2 he3
  subst he1
  obtain ⟨h1, A', c', h2, h3⟩ := h.at_ k hk
  have k1 := ho.cells (g := b) rfl _ _ h1
  have k2 := ho.cells (g := b) rfl _ _ h2
  rw [add_lit0] at k1 k2
  refine ⟨b, 0, rfl, hb1, cell_lt k1, ⟨hb1, ?_⟩, ⟨hb1, A', c', ?_, own_cap h3, own_syms h3⟩⟩
  · show w.cell? ⟨b, 0 + k * 2, none⟩ = _
    rw [Nat.zero_add]; exact k1
  · show w.cell? ⟨b, 0 + k * 2 + 1, none⟩ = _
    rw [Nat.zero_add]; exact k2
theorem OwnRules.cap {w : World} {base : Nat} {A : Option Addr} {n c : Nat} {l : List Rule} {xs : List Value} (h : OwnRules w base (.slice A n c) l xs) : l.length ≤ c := by
  rcases h.own.2 with ⟨he, hn⟩ | ⟨g, cap, cur, he, _, _, h1, _⟩
  · omega
  · injection he with h1' h2' h3'
    omega
end Go.Proofs.YtdbkbkopcnkgcaaGreat

open Go Go.RowKit
namespace Go.Proofs.YtdbkbkopcnkgcaaGreat

theorem own_typed {w : World} {base size n : Nat} {e : TypeId} {v : Value} {xs : List Value} (h : w.ownsRow base e size v n xs) (k : Nat) (hk : v.ownBlock = some k) : ∃ cs, w.heap[k]? = some (.cells cs e (0, 0)) ∧ base ≤ k := by
  rcases h.2 with ⟨rfl, _⟩ | ⟨g', cap, cur, rfl, h1, hgg, _⟩
  · cases hk
  · have e2 : g' = k := by simpa [Value.ownBlock] using hk
    exact ⟨_, e2 ▸ hgg, by omega⟩
theorem own_lt {w : World} {base size n : Nat} {e : TypeId} {v : Value} {xs : List Value} (h : w.ownsRow base e size v n xs) (k : Nat) (hk : v.ownBlock = some k) : k < w.heap.size := by
  obtain ⟨cs, h1, _⟩ := own_typed h k hk
  exact blk_lt h1


theorem own_same {w w' : World} {base size n : Nat} {e : TypeId} {v : Value} {xs : List Value} (h : w.ownsRow base e size v n xs) (hk : ∀ g, v.ownBlock = some g → w'.heap[g]? = w.heap[g]?) : w'.ownsRow base e size v n xs := by
  obtain ⟨h1, h2 | ⟨g, cap, cur, rfl, h3, h4, h5⟩⟩ := h
  · exact ⟨h1, .inl h2⟩
  · exact ⟨h1, .inr ⟨g, cap, cur, rfl, h3, (hk g rfl).trans h4, h5⟩⟩

theorem below3 (w : World) (o1 o2 o3 : Obj) : Below w.heap.size w (((w.alloc o1).alloc o2).alloc o3) := (((Below.refl _ _).alloc (Nat.le_refl _) _).alloc (by simp) _).alloc (by simp; omega) _
theorem below2 (w : World) (o1 o2 : Obj) : Below w.heap.size w ((w.alloc o1).alloc o2) := ((Below.refl _ _).alloc (Nat.le_refl _) _).alloc (by simp) _
theorem below1 (w : World) (o1 : Obj) : Below w.heap.size w (w.alloc o1) := (Below.refl _ _).alloc (Nat.le_refl _) _
end Go.Proofs.YtdbkbkopcnkgcaaGreat

open Go Go.RowKit
namespace Go.Proofs.YtdbkbkopcnkgcaaGreat

/-- of the first n blocks only those of F have turned -/
structure Away (n : Nat) (F : Nat → Prop) (w w' : World) : Prop where
  os : w'.os = w.os
  tape : w'.tape = w.tape
  output : w'.output = w.output
  size : w.heap.size ≤ w'.heap.size
  block : ∀ b, b < n → ¬ F b → w'.heap[b]? = w.heap[b]?

theorem Away.refl (n : Nat) (F : Nat → Prop) (w : World) : Away n F w w := ⟨rfl, rfl, rfl, Nat.le_refl _, fun _ _ _ => rfl⟩
theorem Away.trans {n : Nat} {F : Nat → Prop} {a b c : World} (h : Away n F a b) (k : Away n F b c) : Away n F a c :=
  ⟨k.os.trans h.os, k.tape.trans h.tape, k.output.trans h.output, Nat.le_trans h.size k.size, fun j hj hf => (k.block j hj hf).trans (h.block j hj hf)⟩
theorem Away.mono {n m : Nat} {F G : Nat → Prop} {a b : World} (h : Away n F a b) (hm : m ≤ n) (hF : ∀ j, j < m → F j → G j) : Away m G a b :=
  ⟨h.os, h.tape, h.output, h.size, fun j hj hf => h.block j (by omega) fun hf2 => hf (hF j hj hf2)⟩
theorem Away.ofBelow {n : Nat} {F : Nat → Prop} {a b : World} (h : Below n a b) : Away n F a b := ⟨h.os, h.tape, h.output, h.size, fun j hj _ => h.block j hj⟩
theorem Away.below {n : Nat} {F : Nat → Prop} {a b : World} (h : Away n F a b) (hF : ∀ j, j < n → ¬ F j) : Below n a b := ⟨h.os, h.tape, h.output, h.size, fun j hj => h.block j hj (hF j hj)⟩
theorem Away.grown {n : Nat} {F : Nat → Prop} {a b : World} {row : Option Nat} (h : a.grownBy b row) (hn : n ≤ a.heap.size) (hr : ∀ k, row = some k → F k ∨ n ≤ k) : Away n F a b :=
  ⟨h.os, h.tape, h.output, h.size, fun j hj hf => h.block j (by omega) fun e => by rcases hr j e.symm with h1 | h1; exact hf h1; omega⟩
theorem Away.setCell {n : Nat} {F : Nat → Prop} (w : World) (b i : Nat) (v : Value) (hb : F b ∨ n ≤ b) : Away n F w (w.setCell ⟨b, i, none⟩ v) :=
  ⟨rfl, rfl, rfl, by rw [size_setCell]; exact Nat.le_refl _, fun j hj hf => heap_set_ne (fun e => by subst e; rcases hb with hb | hb; exact hf hb; omega) _ _⟩

end Go.Proofs.YtdbkbkopcnkgcaaGreat
