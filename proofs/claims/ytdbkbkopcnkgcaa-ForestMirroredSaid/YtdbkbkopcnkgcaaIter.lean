import Derived.Test.YtdbkbkopcnkgcaaMap
open Go Go.RowKit
open Go.ChangeMaps (setBlock)
namespace Go.Proofs.Ytdbkbkopcnkgcaa
variable {κ ν : Type}

/-- block it is an iterator over the map in block r, which reads as l; when the loop began it held l0's keys; done: the keys that have come, none twice. What was laid into the map since may come or not. -/
def Iter (enc : κ → Value) (vn : ν → Value) (w : World) (it r : Nat) (l : List (κ × ν)) (l0 : List κ) (done : List κ) : Prop :=
  ∃ es clock since seen last, w.heap[r]? = some (.map es clock) ∧ Ents enc vn es clock l ∧ w.heap[it]? = some (.mapIter (some r) since seen last) ∧
    (∀ k ∈ l0, ∃ e ∈ es.toList, e.key = enc k ∧ e.born < since) ∧
    (∀ e ∈ es.toList, (seen.contains e.born = true ↔ ∃ k ∈ done, e.key = enc k)) ∧
    (seen.isEmpty = false → ∃ e ∈ es.toList, e.born < last) ∧ (∀ b, seen.contains b = true → b < clock) ∧ done.Nodup ∧ (∀ k ∈ done, k ∈ l.map (·.1))

variable {enc : κ → Value} {vn : ν → Value} {w : World} {it r : Nat} {l : List (κ × ν)} {l0 done : List κ}

theorem Iter.isMap (h : Iter enc vn w it r l l0 done) : IsMap enc vn w r l := by
  obtain ⟨es, clock, since, seen, last, hb, he, _⟩ := h
  exact ⟨es, clock, hb, he⟩
theorem Iter.same {w' : World} (h : Iter enc vn w it r l l0 done) (h1 : w'.heap[r]? = w.heap[r]?) (h2 : w'.heap[it]? = w.heap[it]?) : Iter enc vn w' it r l l0 done := by
  obtain ⟨es, clock, since, seen, last, hb, he, hi, rest⟩ := h
  exact ⟨es, clock, since, seen, last, h1.trans hb, he, h2.trans hi, rest⟩
theorem Iter.lt (h : Iter enc vn w it r l l0 done) : r < w.heap.size ∧ it < w.heap.size := by
  obtain ⟨es, clock, since, seen, last, hb, he, hi, rest⟩ := h
  exact ⟨blk_lt hb, blk_lt hi⟩
theorem Iter.ne (h : Iter enc vn w it r l l0 done) : it ≠ r := by
  obtain ⟨es, clock, since, seen, last, hb, he, hi, rest⟩ := h
  rintro rfl
  rw [hb] at hi; cases hi
theorem Iter.below {w' : World} (h : Iter enc vn w it r l l0 done) (hb : Below w.heap.size w w') : Iter enc vn w' it r l l0 done := h.same (hb.block r h.lt.1) (hb.block it h.lt.2)

theorem below_setBlock {B : Nat} {w0 w : World} (h : Below B w0 w) {r : Nat} (hr : B ≤ r) (o : Obj) : Below B w0 (setBlock w r o) :=
  h.trans ⟨rfl, rfl, rfl, by rw [setBlock_size]; exact Nat.le_refl _, fun k hk => setBlock_other _ _ _ (by omega)⟩
theorem grown_setBlock (w : World) (r : Nat) (o : Obj) : w.grownBy (setBlock w r o) (some r) :=
  ⟨rfl, rfl, rfl, by rw [setBlock_size]; exact Nat.le_refl _, fun k _ hk => setBlock_other _ _ _ (fun e => hk (by rw [e]))⟩

section run
variable {P : Program} {K : TypeId}

theorem run_rangeM {T E : TypeId} (hT : P.underlying T = some (.map K E)) (h : IsMap enc vn w r l) :
    ∃ o, (Instr.range T (.map (some r))).run P w = .ok (.pointer (some ⟨w.heap.size, 0, none⟩)) (w.alloc o) ∧ Iter enc vn (w.alloc o) w.heap.size r l (l.map (·.1)) [] := by
  obtain ⟨es, clock, hb, he⟩ := h
  refine ⟨_, run_range_map w T K E r es clock hT hb, es, clock, clock, #[], clock, ?_, he, heap_alloc_new _ _, ?_, ?_, ?_, ?_, List.nodup_nil, ?_⟩
  · rw [Below.heap_alloc _ _ _ (blk_lt hb)]; exact hb
  · intro k hk
    have : enc k ∈ es.toList.map (·.key) := by
      rw [he.key]
      obtain ⟨p, hp, rfl⟩ := List.mem_map.1 hk
      exact List.mem_map.2 ⟨p, hp, rfl⟩
    obtain ⟨e, he2, h3⟩ := List.mem_map.1 this
    exact ⟨e, he2, h3, he.clk e he2⟩
  · intro e _; simp
  · intro h; simp at h
  · intro b h; simp at h
  · intro k hk; simp at hk

theorem Iter.next (h : Iter enc vn w it r l l0 done) (hinj : ∀ a b, enc a = enc b → a = b) (ty : TypeId) :
    (∃ n, (∀ k ∈ l0, k ∈ done) ∧ (Instr.next (.pointer (some ⟨it, 0, none⟩)) false ty).run P w = .ok (.tuple #[.bool false]) (w.drewN n)) ∨
    ∃ n k v o, k ∈ l.map (·.1) ∧ k ∉ done ∧ (k, v) ∈ l ∧ (Instr.next (.pointer (some ⟨it, 0, none⟩)) false ty).run P w = .ok (.tuple #[.bool true, enc k, vn v]) (setBlock (w.drewN n) it o) ∧
      Iter enc vn (setBlock (w.drewN n) it o) it r l l0 (k :: done) ∧ (Instr.entry (.pointer (some ⟨it, 0, none⟩))).run P (setBlock (w.drewN n) it o) = .ok (.tuple #[enc k, vn v]) (setBlock (w.drewN n) it o) := by
  have hne := h.ne
  have hlt := h.lt.2
  obtain ⟨es, clock, since, seen, last, hb, he, hi, hold, hseen, hlast, hborn, hnd, hsub⟩ := h
  have htest : (!seen.isEmpty && !es.isEmpty && es.all (fun x => decide (x.born ≥ last))) = false := by
    cases hs : seen.isEmpty with
    | true => rfl
    | false =>
      obtain ⟨e, he1, he2⟩ := hlast hs
      have : es.all (fun x => decide (x.born ≥ last)) = false := by
        rw [Array.all_eq_false]
        obtain ⟨i, hi1, hi2⟩ := List.getElem_of_mem he1
        exact ⟨i, by simpa using hi1, by simp at hi2; rw [hi2]; simp; omega⟩
      simp [this]
  have hL : ∀ e, e ∈ (es.filter (fun e => !seen.contains e.born)).toList ↔ e ∈ es.toList ∧ seen.contains e.born = false := fun e => by simp
  -- the candidates
  generalize hLd : es.filter (fun e => !seen.contains e.born) = L at hL
  generalize hC : ((if (L.filter (fun x => decide (x.born < since))).isEmpty then #[(none : Option MapEntry)] else #[]) ++ (L.filter (fun x => decide (x.born < since)) ++ L.filter (fun x => decide (x.born ≥ since))).map some) = C
  have hCpos : 0 < C.size := by
    rw [← hC]
    by_cases h0 : (L.filter (fun x => decide (x.born < since))).isEmpty = true
    · rw [if_pos h0]; simp; omega
    · rw [if_neg h0]
      simp only [Array.size_append, Array.size_map]
      have : (L.filter (fun x => decide (x.born < since))).size ≠ 0 := fun e => h0 (by simp [Array.isEmpty, e])
      simp; omega
  have hch : ∃ j n, j < C.size ∧ (choose (Question.mapNext C.size)).run P w = .ok j (w.drewN n) := by
    by_cases hf : C.size ≤ 1
    · exact ⟨0, 0, by omega, by simp [choose, Sem.run, Question.forced, hf]; rfl⟩
    · refine ⟨_, 1, Nat.mod_lt (w.tape w.drawn (Question.mapNext C.size)) (by omega), ?_⟩
      simp only [choose, Sem.run, Question.forced, decide_eq_true_eq, hf, if_false, Question.cut]
      rfl
  obtain ⟨j, n, hj, hrun⟩ := hch
  have hCm : ∀ x, x ∈ C.toList → x ∈ ((if (L.filter (fun x => decide (x.born < since))).isEmpty then #[(none : Option MapEntry)] else #[]) ++ (L.filter (fun x => decide (x.born < since)) ++ L.filter (fun x => decide (x.born ≥ since))).map some).toList := by
    rw [hC]; exact fun _ h => h
  have hmem := hCm C[j] (by simp)
  cases hcj : C[j] with
  | none =>
    left
    rw [hcj] at hmem
    have hemp : (L.filter (fun x => decide (x.born < since))).isEmpty = true := by
      rcases Classical.em ((L.filter (fun x => decide (x.born < since))).isEmpty = true) with h0 | h0
      · exact h0
      · rw [if_neg h0] at hmem; simp at hmem
    refine ⟨n, ?_, ?_⟩
    · intro k hk
      obtain ⟨e, he1, he2, he3⟩ := hold k hk
      by_cases hs : seen.contains e.born = true
      · obtain ⟨k', hk', hkk⟩ := (hseen e he1).1 hs
        have : k = k' := hinj _ _ (he2.symm.trans hkk)
        rw [this]; exact hk'
      · have h1 : e ∈ L.toList := (hL e).2 ⟨he1, by simpa using hs⟩
        have h2 : (L.filter (fun x => decide (x.born < since))) = #[] := by simpa [Array.isEmpty] using hemp
        rw [Array.filter_eq_empty_iff] at h2
        have := h2 e (by simpa using h1)
        simp at this; omega
    · simp only [Instr.next, getObj, Sem.run_bind, Sem.run, hi, hb, Result.andThen, htest, Bool.false_eq_true, if_false, hLd, hC, hrun, Array.getElem?_eq_getElem hj, hcj]
      rfl
  | some e =>
    right
    rw [hcj] at hmem
    have heL : e ∈ L.toList := by
      simp only [Array.toList_append, List.mem_append] at hmem
      rcases hmem with hmem | hmem
      · split at hmem <;> simp at hmem
      · simp at hmem
        rcases hmem with ⟨h1, _⟩ | ⟨h1, _⟩ <;> simpa using h1
    obtain ⟨he1, he2⟩ := (hL e).1 heL
    obtain ⟨i, hi1, hi2⟩ := List.getElem_of_mem he1
    have hlen : es.toList.length = l.length := by have := congrArg List.length he.key; simpa using this
    have hil : i < l.length := by omega
    have hkey : e.key = enc l[i].1 := by
      have h1 : (es.toList.map (·.key))[i]? = some e.key := by rw [List.getElem?_map, List.getElem?_eq_getElem hi1, hi2]; rfl
      rw [he.key, List.getElem?_map, List.getElem?_eq_getElem hil] at h1
      simpa using h1.symm
    have hval : e.val = vn l[i].2 := by
      have h1 : (es.toList.map (·.val))[i]? = some e.val := by rw [List.getElem?_map, List.getElem?_eq_getElem hi1, hi2]; rfl
      rw [he.val, List.getElem?_map, List.getElem?_eq_getElem hil] at h1
      simpa using h1.symm
    have hmi : l[i] ∈ l := by simp
    have hkd : l[i].1 ∉ done := fun hd => by
      have := (hseen e he1).2 ⟨_, hd, hkey⟩
      rw [this] at he2; cases he2
    have hf : es.find? (·.born == e.born) = some e := by rw [← Array.find?_toList]; exact find_born e es.toList he.born he1
    have hsb : (setBlock (w.drewN n) it (.mapIter (some r) since (seen.push e.born) clock)).heap[r]? = some (.map es clock) := by
      rw [setBlock_other _ _ _ (fun e => hne e.symm)]; exact hb
    have hsi : (setBlock (w.drewN n) it (.mapIter (some r) since (seen.push e.born) clock)).heap[it]? = some (.mapIter (some r) since (seen.push e.born) clock) := setBlock_same _ _ _ hlt
    refine ⟨n, l[i].1, l[i].2, .mapIter (some r) since (seen.push e.born) clock, List.mem_map.2 ⟨_, hmi, rfl⟩, hkd, hmi, ?_, ?_, ?_⟩
    · have hset : (setObj it (.mapIter (some r) since (seen.push e.born) clock)).run P (w.drewN n) = .ok () (setBlock (w.drewN n) it (.mapIter (some r) since (seen.push e.born) clock)) := by
        simp [setObj, Sem.run, hi, setBlock]
      simp only [Instr.next, getObj, Sem.run_bind, Sem.run, hi, hb, Result.andThen, htest, Bool.false_eq_true, if_false, hLd, hC, hrun, Array.getElem?_eq_getElem hj, hcj, hset, hkey, hval]
      rfl
    · refine ⟨es, clock, since, seen.push e.born, clock, hsb, he, hsi, hold, ?_, ?_, ?_, ?_, ?_⟩
      · intro e' he'
        rw [Array.contains_push, Bool.or_eq_true, hseen e' he']
        constructor
        · rintro (⟨k, hk, hkk⟩ | h1)
          · exact ⟨k, List.mem_cons_of_mem _ hk, hkk⟩
          · have : e' = e := born_inj he.born he' he1 (by simpa using h1)
            subst this
            exact ⟨_, List.mem_cons_self .., hkey⟩
        · rintro ⟨k, hk, hkk⟩
          rcases List.mem_cons.1 hk with rfl | hk
          · right
            have : e' = e := by
              obtain ⟨i', hi1', hi2'⟩ := List.getElem_of_mem he'
              have hil' : i' < l.length := by omega
              have hkey' : e'.key = enc l[i'].1 := by
                have h1 : (es.toList.map (·.key))[i']? = some e'.key := by rw [List.getElem?_map, List.getElem?_eq_getElem hi1', hi2']; rfl
                rw [he.key, List.getElem?_map, List.getElem?_eq_getElem hil'] at h1
                simpa using h1.symm
              have h5 : l[i'].1 = l[i].1 := hinj _ _ (hkey'.symm.trans hkk)
              have h6 : i' = i := by
                rcases Nat.lt_trichotomy i' i with h | h | h
                · exact absurd (show (l.map (·.1))[i']'(by simpa using hil') = (l.map (·.1))[i]'(by simpa using hil) by simp only [List.getElem_map]; exact h5) (List.pairwise_iff_getElem.1 he.dist i' i (by simpa using hil') (by simpa using hil) h)
                · exact h
                · exact absurd (show (l.map (·.1))[i]'(by simpa using hil) = (l.map (·.1))[i']'(by simpa using hil') by simp only [List.getElem_map]; exact h5.symm) (List.pairwise_iff_getElem.1 he.dist i i' (by simpa using hil) (by simpa using hil') h)
              subst h6
              rw [← hi2, ← hi2']
            subst this; simp
          · exact .inl ⟨k, hk, hkk⟩
      · intro _; exact ⟨e, he1, he.clk e he1⟩
      · intro b hb2
        rw [Array.contains_push, Bool.or_eq_true] at hb2
        rcases hb2 with hb2 | hb2
        · exact hborn b hb2
        · have : b = e.born := by simpa using hb2
          rw [this]; exact he.clk e he1
      · exact List.nodup_cons.2 ⟨hkd, hnd⟩
      · intro k hk
        rcases List.mem_cons.1 hk with rfl | hk
        · exact List.mem_map.2 ⟨_, hmi, rfl⟩
        · exact hsub k hk
    · simp only [Instr.entry, getObj, Sem.run_bind, Sem.run, hsi, hsb, Result.andThen, Array.back?_push, bne_self_eq_false, Bool.false_eq_true, if_false, hf, hkey, hval]
      rfl

variable [DecidableEq κ]
/-- a new key is laid into the map that is ranged over -/
theorem Iter.put (hK : MKey P K enc) {T E : TypeId} (hT : P.underlying T = some (.map K E)) (h : Iter enc vn w it r l l0 done) (k : κ) (v : ν) (hk : k ∉ l.map (·.1)) (hinj : ∀ a b, enc a = enc b → a = b) :
    ∃ o, (Instr.mapUpdate T (.map (some r)) (enc k) (vn v)).run P w = .ok () (setBlock w r o) ∧ Iter enc vn (setBlock w r o) it r (l ++ [(k, v)]) l0 done := by
  have hne := h.ne
  have hlt := h.lt
  obtain ⟨es, clock, since, seen, last, hb, he, hi, hold, hseen, hlast, hborn, hnd, hsub⟩ := h
  obtain ⟨es', clock', hrun, he', hcase⟩ := run_put hK hT hb he k v
  rcases hcase with ⟨h1, _⟩ | ⟨_, rfl, rfl⟩
  · exact absurd h1 hk
  rw [aput_new hk] at he'
  refine ⟨_, hrun, _, _, since, seen, last, setBlock_same _ _ _ hlt.1, he', ?_, ?_, ?_, ?_, ?_, hnd, ?_⟩
  · rw [setBlock_other _ _ _ hne]; exact hi
  · intro k' hk'
    obtain ⟨e, h1, h2⟩ := hold k' hk'
    exact ⟨e, by simp only [Array.toList_push, List.mem_append]; exact .inl h1, h2⟩
  · intro e he2
    simp only [Array.toList_push, List.mem_append, List.mem_singleton] at he2
    rcases he2 with he2 | rfl
    · exact hseen e he2
    · constructor
      · intro h1
        have := hborn _ h1
        simp at this
      · rintro ⟨k', hk', hkk⟩
        have : k = k' := hinj _ _ hkk
        subst this
        exact absurd (hsub k hk') hk
  · intro hs
    obtain ⟨e, h1, h2⟩ := hlast hs
    exact ⟨e, by simp only [Array.toList_push, List.mem_append]; exact .inl h1, h2⟩
  · intro b hb2
    have := hborn b hb2
    omega
  · intro k' hk'
    rw [List.map_append, List.mem_append]
    exact .inl (hsub k' hk')
end run
end Go.Proofs.Ytdbkbkopcnkgcaa
