import Derived.Test.YtdbkbkopcnkgcaaGreatOwn
import Derived.Maps.RangeWalk
import Derived.Laws.StructEq
open Go Go.RowKit
open Go.ChangeMaps (setBlock)
namespace Go.Proofs.YtdbkbkopcnkgcaaGreat

/-- the type K of a map's keys, by an encoding of plain data -/
structure MKey (P : Program) (K : TypeId) {κ : Type} [DecidableEq κ] (enc : κ → Value) : Prop where
  eq : ∀ a b w, (Op.equal K (enc a) (enc b)).run P w = .ok (decide (a = b)) w
  chk : ∀ e a w, (Instr.checkKey e 10000 K (enc a)).run P w = .ok () w
  bits : ∀ a, Instr.sameBits 10000 (enc a) (enc a) = true
  und : ∃ kind, P.underlying K = some kind ∧ ∀ a b, Instr.sameNow kind (enc a) (enc b) = none

variable {κ ν : Type}
/-- the entries of a map's block -/
structure Ents (enc : κ → Value) (vn : ν → Value) (es : Array MapEntry) (clock : Nat) (l : List (κ × ν)) : Prop where
  key : es.toList.map (·.key) = l.map (fun p => enc p.1)
  val : es.toList.map (·.val) = l.map (fun p => vn p.2)
  dist : (l.map (·.1)).Nodup
  born : (es.toList.map (·.born)).Nodup
  clk : ∀ e ∈ es.toList, e.born < clock

def IsMap (enc : κ → Value) (vn : ν → Value) (w : World) (r : Nat) (l : List (κ × ν)) : Prop := ∃ es clock, w.heap[r]? = some (.map es clock) ∧ Ents enc vn es clock l

theorem IsMap.same {enc : κ → Value} {vn : ν → Value} {w w' : World} {r : Nat} {l : List (κ × ν)} (h : IsMap enc vn w r l) (hs : w'.heap[r]? = w.heap[r]?) : IsMap enc vn w' r l := by
  obtain ⟨es, clock, hb, he⟩ := h
  exact ⟨es, clock, hs.trans hb, he⟩
theorem IsMap.lt {enc : κ → Value} {vn : ν → Value} {w : World} {r : Nat} {l : List (κ × ν)} (h : IsMap enc vn w r l) : r < w.heap.size := by
  obtain ⟨es, clock, hb, he⟩ := h
  exact blk_lt hb
theorem IsMap.below {enc : κ → Value} {vn : ν → Value} {w w' : World} {r : Nat} {l : List (κ × ν)} (h : IsMap enc vn w r l) (hb : Below w.heap.size w w') : IsMap enc vn w' r l := h.same (hb.block r h.lt)
theorem IsMap.new (enc : κ → Value) (vn : ν → Value) (w : World) : IsMap enc vn (w.alloc (.map #[] 0)) w.heap.size [] :=
  ⟨#[], 0, heap_alloc_new w _, by simp, by simp, by simp, by simp, by simp⟩


variable [DecidableEq κ]

def alook : List (κ × ν) → κ → Option ν
  | [], _ => none
  | (a, b) :: l, k => if a = k then some b else alook l k
def aidx : List (κ × ν) → κ → Nat
  | [], _ => 0
  | (a, _) :: l, k => if a = k then 0 else aidx l k + 1
def aput : List (κ × ν) → κ → ν → List (κ × ν)
  | [], k, v => [(k, v)]
  | (a, b) :: l, k, v => if a = k then (a, v) :: l else (a, b) :: aput l k v

theorem alook_none {l : List (κ × ν)} {k : κ} : alook l k = none ↔ k ∉ l.map (·.1) := by
  induction l with
  | nil => simp [alook]
  | cons p l ih =>
    obtain ⟨a, b⟩ := p
    unfold alook
    by_cases h : a = k
    · simp [h]
    · rw [if_neg h, ih]; simp [show ¬ k = a from fun e => h e.symm]
theorem alook_some {l : List (κ × ν)} {k : κ} {v : ν} (h : alook l k = some v) : (k, v) ∈ l := by
  induction l with
  | nil => simp [alook] at h
  | cons p l ih =>
    obtain ⟨a, b⟩ := p
    unfold alook at h
    by_cases h2 : a = k
    · rw [if_pos h2] at h; injection h with h; subst h; subst h2; simp
    · rw [if_neg h2] at h; exact List.mem_cons_of_mem _ (ih h)
theorem aput_new {l : List (κ × ν)} {k : κ} (h : k ∉ l.map (·.1)) (v : ν) : aput l k v = l ++ [(k, v)] := by
  induction l with
  | nil => rfl
  | cons p l ih =>
    obtain ⟨a, b⟩ := p
    simp only [List.map_cons, List.mem_cons, not_or] at h
    unfold aput
    rw [if_neg (fun e => h.1 e.symm), ih h.2]; rfl
theorem aput_keys_old {l : List (κ × ν)} {k : κ} (h : k ∈ l.map (·.1)) (v : ν) : (aput l k v).map (·.1) = l.map (·.1) := by
  induction l with
  | nil => simp at h
  | cons p l ih =>
    obtain ⟨a, b⟩ := p
    unfold aput
    by_cases h2 : a = k
    · rw [if_pos h2]; rfl
    · rw [if_neg h2]
      simp only [List.map_cons]
      rw [ih (by simp only [List.map_cons, List.mem_cons] at h; exact h.resolve_left fun e => h2 e.symm)]
theorem alook_put (l : List (κ × ν)) (k : κ) (v : ν) (k' : κ) : alook (aput l k v) k' = if k = k' then some v else alook l k' := by
  induction l with
  | nil => simp [aput, alook]
  | cons p l ih =>
    obtain ⟨a, b⟩ := p
    unfold aput
    by_cases h : a = k
    · rw [if_pos h]; subst h
      unfold alook
      by_cases h2 : a = k' <;> simp [h2]
    · rw [if_neg h]
      unfold alook
      by_cases h2 : a = k'
      · rw [if_pos h2, if_pos h2, if_neg (fun e => h (h2.trans e.symm))]
      · rw [if_neg h2, if_neg h2, ih]

section run
variable {P : Program} {K : TypeId} {enc : κ → Value} {vn : ν → Value}

theorem run_findAsking (hK : MKey P K enc) (k : κ) (w : World) : ∀ (es : List MapEntry) (l : List (κ × ν)) (i : Nat), es.map (·.key) = l.map (fun p => enc p.1) → es.map (·.val) = l.map (fun p => vn p.2) →
    (Instr.findAsking K (enc k) es i).run P w = .ok ((alook l k).map fun v => (i + aidx l k, vn v)) w
  | [], [], i, _, _ => by simp [Instr.findAsking, alook]
  | [], _ :: _, _, h, _ => by simp at h
  | _ :: _, [], _, h, _ => by simp at h
  | e :: es, (a, b) :: l, i, h1, h2 => by
    simp only [List.map_cons, List.cons.injEq] at h1 h2
    simp only [Instr.findAsking, Sem.run_bind, h1.1, hK.eq, Result.andThen_ok]
    unfold alook aidx
    by_cases h : k = a
    · subst h; simp [h2.1]
    · have h' : ¬ a = k := fun e => h e.symm
      simp only [h, decide_false, Bool.false_eq_true, if_false, h']
      rw [run_findAsking hK k w es l (i + 1) h1.2 h2.2]
      congr 2
      funext v
      rw [show i + 1 + aidx l k = i + (aidx l k + 1) by omega]

theorem run_findKey (hK : MKey P K enc) (k : κ) (w : World) (es : List MapEntry) (l : List (κ × ν)) (h1 : es.map (·.key) = l.map (fun p => enc p.1)) (h2 : es.map (·.val) = l.map (fun p => vn p.2)) :
    (Instr.findKey K (enc k) es).run P w = .ok ((alook l k).map fun v => (aidx l k, vn v)) w := by
  obtain ⟨kind, hu, hw⟩ := hK.und
  have hf := run_findAsking hK k w es l 0 h1 h2
  simp only [Nat.zero_add] at hf
  cases es with
  | nil =>
    cases l with
    | nil => simp [Instr.findKey, run_underlying hu, Instr.findNow, alook]
    | cons => simp at h1
  | cons e es =>
    cases l with
    | nil => simp at h1
    | cons p l =>
      simp only [List.map_cons, List.cons.injEq] at h1
      simp only [Instr.findKey, Sem.run_bind, run_underlying hu, Result.andThen_ok, Instr.findNow, h1.1, hw]
      exact hf

theorem run_look (hK : MKey P K enc) {T E : TypeId} (hT : P.underlying T = some (.map K E)) {z : Value} (hz : ∀ w, (zeroValue E).run P w = .ok z w) {w : World} {r : Nat} {l : List (κ × ν)} (h : IsMap enc vn w r l) (k : κ) :
    (Instr.lookup T (.map (some r)) (enc k) false).run P w = .ok (((alook l k).map vn).getD z) w := by
  obtain ⟨es, clock, hb, he⟩ := h
  simp only [Instr.lookup, Sem.run_bind, run_underlying hT, Result.andThen_ok, getObj, Sem.run, hb, hK.chk, Sem.run_pure]
  rw [run_findKey hK k w es.toList l he.key he.val]
  cases alook l k with
  | none => simp [hz]
  | some v => simp
theorem run_look_ok (hK : MKey P K enc) {T E : TypeId} (hT : P.underlying T = some (.map K E)) {z : Value} (hz : ∀ w, (zeroValue E).run P w = .ok z w) {w : World} {r : Nat} {l : List (κ × ν)} (h : IsMap enc vn w r l) (k : κ) :
    (Instr.lookup T (.map (some r)) (enc k) true).run P w = .ok (.tuple #[((alook l k).map vn).getD z, .bool (alook l k).isSome]) w := by
  obtain ⟨es, clock, hb, he⟩ := h
  simp only [Instr.lookup, Sem.run_bind, run_underlying hT, Result.andThen_ok, getObj, Sem.run, hb, hK.chk, Sem.run_pure]
  rw [run_findKey hK k w es.toList l he.key he.val]
  cases alook l k with
  | none => simp [hz]
  | some v => simp

theorem run_stay (hK : MKey P K enc) (k : κ) (w : World) : (Instr.keyThatStays (enc k) (enc k)).run P w = .ok (enc k) w := by
  simp [Instr.keyThatStays, hK.bits]

theorem setBlock_same (w : World) (r : Nat) (o : Obj) (h : r < w.heap.size) : (setBlock w r o).heap[r]? = some o := by
  simp [setBlock, h]
theorem setBlock_other (w : World) (r : Nat) (o : Obj) {b : Nat} (h : b ≠ r) : (setBlock w r o).heap[b]? = w.heap[b]? := by
  simp only [setBlock]
  rw [Array.getElem?_setIfInBounds_ne (fun e => h e.symm)]
theorem setBlock_size (w : World) (r : Nat) (o : Obj) : (setBlock w r o).heap.size = w.heap.size := by simp [setBlock]

theorem aidx_get {l : List (κ × ν)} {k : κ} (h : k ∈ l.map (·.1)) : (l.map (·.1))[aidx l k]? = some k := by
  induction l with
  | nil => simp at h
  | cons p l ih =>
    obtain ⟨a, b⟩ := p
    unfold aidx
    by_cases h2 : a = k
    · simp [h2]
    · rw [if_neg h2]
      simp only [List.map_cons, List.getElem?_cons_succ]
      exact ih (by simp only [List.map_cons, List.mem_cons] at h; exact h.resolve_left fun e => h2 e.symm)
theorem map_modify_keep {β : Type} (f : MapEntry → β) (g : MapEntry → MapEntry) : ∀ (l : List MapEntry) (i : Nat), (∀ e, l[i]? = some e → f (g e) = f e) → (l.modify i g).map f = l.map f
  | [], _, _ => by simp
  | e :: l, 0, h => by simp [h e rfl]
  | e :: l, i + 1, h => by
    simp only [List.modify_succ_cons, List.map_cons]
    rw [map_modify_keep f g l i (fun e' he => h e' (by simpa using he))]
theorem map_val_put {vn : ν → Value} (v : ν) (k : κ) : ∀ (es : List MapEntry) (l : List (κ × ν)) (key : Value), es.length = l.length → es.map (·.val) = l.map (fun p => vn p.2) → k ∈ l.map (·.1) →
    (es.modify (aidx l k) fun e => { e with key := key, val := vn v }).map (·.val) = (aput l k v).map (fun p => vn p.2)
  | [], [], _, _, _, h => by simp at h
  | [], _ :: _, _, h, _, _ => by simp at h
  | _ :: _, [], _, h, _, _ => by simp at h
  | e :: es, (a, b) :: l, key, hl, h1, h2 => by
    simp only [List.map_cons, List.cons.injEq] at h1
    unfold aidx aput
    by_cases h : a = k
    · simp [h, h1.2]
    · rw [if_neg h, if_neg h]
      simp only [List.modify_succ_cons, List.map_cons, h1.1]
      rw [map_val_put v k es l key (by simpa using hl) h1.2 (by simp only [List.map_cons, List.mem_cons] at h2; exact h2.resolve_left fun e => h e.symm)]

/-- a store into a map: how the block looks behind it -/
theorem run_put (hK : MKey P K enc) {T E : TypeId} (hT : P.underlying T = some (.map K E)) {w : World} {r : Nat} {es : Array MapEntry} {clock : Nat} {l : List (κ × ν)} (hb : w.heap[r]? = some (.map es clock)) (he : Ents enc vn es clock l) (k : κ) (v : ν) :
    ∃ es' clock', (Instr.mapUpdate T (.map (some r)) (enc k) (vn v)).run P w = .ok () (setBlock w r (.map es' clock')) ∧ Ents enc vn es' clock' (aput l k v) ∧
      ((k ∈ l.map (·.1) ∧ clock' = clock ∧ es'.toList.map (·.born) = es.toList.map (·.born) ∧ es'.toList.map (·.key) = es.toList.map (·.key)) ∨ (k ∉ l.map (·.1) ∧ clock' = clock + 1 ∧ es' = es.push { key := enc k, val := vn v, born := clock })) := by
  have hlen : es.toList.length = l.length := by have := congrArg List.length he.key; simpa using this
  have hset : ∀ o, (setObj r o).run P w = .ok () (setBlock w r o) := fun o => by simp [setObj, Sem.run, hb, setBlock]
  cases hl : alook l k with
  | none =>
    have hk := alook_none.1 hl
    refine ⟨es.push { key := enc k, val := vn v, born := clock }, clock + 1, ?_, ?_, .inr ⟨hk, rfl, rfl⟩⟩
    · simp only [Instr.mapUpdate, Sem.run_bind, run_underlying hT, Result.andThen_ok, getObj, Sem.run, hb, hK.chk]
      rw [run_findKey hK k w es.toList l he.key he.val, hl]
      simp [hset]
    · rw [aput_new hk]
      refine ⟨by simp [he.key], by simp [he.val], ?_, ?_, ?_⟩
      · rw [List.map_append, List.nodup_append]
        refine ⟨he.dist, by simp, ?_⟩
        intro a ha b hb2
        simp at hb2
        subst hb2
        intro e; subst e; exact hk ha
      · simp only [Array.toList_push, List.map_append, List.map_cons, List.map_nil]
        rw [List.nodup_append]
        refine ⟨he.born, by simp, ?_⟩
        intro a ha b hb2
        simp only [List.mem_singleton] at hb2
        obtain ⟨e, he2, rfl⟩ := List.mem_map.1 ha
        have := he.clk e he2
        omega
      · intro e he2
        simp only [Array.toList_push, List.mem_append, List.mem_singleton] at he2
        rcases he2 with he2 | rfl
        · have := he.clk e he2; omega
        · show clock < clock + 1; omega
  | some v0 =>
    have hk : k ∈ l.map (·.1) := by
      rcases Classical.em (k ∈ l.map (·.1)) with h | h
      · exact h
      · rw [alook_none.2 h] at hl; cases hl
    have hkey0 : ∀ e, es.toList[aidx l k]? = some e → e.key = enc k := fun e h => by
      have h1 : (es.toList.map (·.key))[aidx l k]? = some e.key := by rw [List.getElem?_map, h]; rfl
      rw [he.key] at h1
      have h2 := aidx_get hk
      rw [List.getElem?_map] at h1 h2
      cases h3 : l[aidx l k]? with
      | none => rw [h3] at h2; cases h2
      | some p =>
        rw [h3] at h1 h2
        simp only [Option.map_some, Option.some.injEq] at h1 h2
        rw [← h1, h2]
    have hlt : aidx l k < es.size := by
      have h2 := aidx_get hk
      have := (List.getElem?_eq_some_iff.1 h2).1
      simp only [List.length_map] at this
      rw [← hlen] at this
      simpa using this
    have hg : ((es[aidx l k]?).map (·.key)).getD (enc k) = enc k := by
      rw [Array.getElem?_eq_getElem hlt]
      exact hkey0 _ (by simp [hlt])
    have hbn : (es.toList.modify (aidx l k) fun e => { e with key := enc k, val := vn v }).map (·.born) = es.toList.map (·.born) := map_modify_keep _ _ _ _ (by intro e h; rfl)
    refine ⟨es.modify (aidx l k) fun e => { e with key := enc k, val := vn v }, clock, ?_, ?_, .inl ⟨hk, rfl, ?_, ?_⟩⟩
    · simp only [Instr.mapUpdate, Sem.run_bind, run_underlying hT, Result.andThen_ok, getObj, Sem.run, hb, hK.chk]
      rw [run_findKey hK k w es.toList l he.key he.val, hl]
      simp only [Option.map_some, Result.andThen_ok, hg, run_stay hK, Sem.run_bind, hset]
    · refine ⟨?_, ?_, ?_, ?_, ?_⟩
      · rw [Array.toList_modify, map_modify_keep _ _ _ _ (fun e h => (hkey0 e h).symm), he.key]
        have := aput_keys_old hk v
        have h2 := congrArg (List.map enc) this
        simpa [Function.comp_def] using h2.symm
      · rw [Array.toList_modify]
        exact map_val_put v k es.toList l (enc k) hlen he.val hk
      · rw [aput_keys_old hk]; exact he.dist
      · rw [Array.toList_modify, hbn]; exact he.born
      · intro e he2
        have : e.born ∈ (es.modify (aidx l k) fun e => { e with key := enc k, val := vn v }).toList.map (·.born) := List.mem_map.2 ⟨e, he2, rfl⟩
        rw [Array.toList_modify, hbn] at this
        obtain ⟨e', he', h'⟩ := List.mem_map.1 this
        rw [← h']; exact he.clk e' he'
    · rw [Array.toList_modify, hbn]
    · rw [Array.toList_modify, map_modify_keep _ _ _ _ (fun e h => (hkey0 e h).symm)]
theorem IsMap.put (hK : MKey P K enc) {T E : TypeId} (hT : P.underlying T = some (.map K E)) {w : World} {r : Nat} {l : List (κ × ν)} (h : IsMap enc vn w r l) (k : κ) (v : ν) :
    ∃ o, (Instr.mapUpdate T (.map (some r)) (enc k) (vn v)).run P w = .ok () (setBlock w r o) ∧ IsMap enc vn (setBlock w r o) r (aput l k v) := by
  obtain ⟨es, clock, hb, he⟩ := h
  obtain ⟨es', clock', hrun, he', _⟩ := run_put hK hT hb he k v
  exact ⟨_, hrun, es', clock', setBlock_same _ _ _ (blk_lt hb), he'⟩
end run
end Go.Proofs.YtdbkbkopcnkgcaaGreat

open Go Go.RowKit
open Go.ChangeMaps (setBlock)
namespace Go.Proofs.YtdbkbkopcnkgcaaGreat
variable {κ ν : Type}

/-- block it is an iterator over the map in block r, which reads as l; when the loop began it held l0's keys; done: the keys that have come, none twice. What was laid into the map since may come or not. -/
def Iter (enc : κ → Value) (vn : ν → Value) (w : World) (it r : Nat) (l : List (κ × ν)) (l0 : List κ) (done : List κ) : Prop :=
  ∃ es clock since seen last, w.heap[r]? = some (.map es clock) ∧ Ents enc vn es clock l ∧ w.heap[it]? = some (.mapIter (some r) since seen last) ∧
    (∀ k ∈ l0, ∃ e ∈ es.toList, e.key = enc k ∧ e.born < since) ∧
    (∀ e ∈ es.toList, (seen.contains e.born = true ↔ ∃ k ∈ done, e.key = enc k)) ∧
    (seen.isEmpty = false → ∃ e ∈ es.toList, e.born < last) ∧ (∀ b, seen.contains b = true → b < clock) ∧ done.Nodup ∧ (∀ k ∈ done, k ∈ l.map (·.1))

variable {enc : κ → Value} {vn : ν → Value} {w : World} {it r : Nat} {l : List (κ × ν)} {l0 done : List κ}

theorem Iter.isMap (h : Iter enc vn w it r l l0 done) : IsMap enc vn w r l := by
  obtain ⟨es, clock, since, seen, last, hb, he, _⟩ := h
  exact ⟨es, clock, hb, he⟩
theorem Iter.same {w' : World} (h : Iter enc vn w it r l l0 done) (h1 : w'.heap[r]? = w.heap[r]?) (h2 : w'.heap[it]? = w.heap[it]?) : Iter enc vn w' it r l l0 done := by
  obtain ⟨es, clock, since, seen, last, hb, he, hi, rest⟩ := h
  exact ⟨es, clock, since, seen, last, h1.trans hb, he, h2.trans hi, rest⟩
theorem Iter.lt (h : Iter enc vn w it r l l0 done) : r < w.heap.size ∧ it < w.heap.size := by
  obtain ⟨es, clock, since, seen, last, hb, he, hi, rest⟩ := h
  exact ⟨blk_lt hb, blk_lt hi⟩
theorem Iter.ne (h : Iter enc vn w it r l l0 done) : it ≠ r := by
  obtain ⟨es, clock, since, seen, last, hb, he, hi, rest⟩ := h
  rintro rfl
  rw [hb] at hi; cases hi
theorem Iter.below {w' : World} (h : Iter enc vn w it r l l0 done) (hb : Below w.heap.size w w') : Iter enc vn w' it r l l0 done := h.same (hb.block r h.lt.1) (hb.block it h.lt.2)

theorem below_setBlock {B : Nat} {w0 w : World} (h : Below B w0 w) {r : Nat} (hr : B ≤ r) (o : Obj) : Below B w0 (setBlock w r o) :=
  h.trans ⟨rfl, rfl, rfl, by rw [setBlock_size]; exact Nat.le_refl _, fun k hk => setBlock_other _ _ _ (by omega)⟩
theorem grown_setBlock (w : World) (r : Nat) (o : Obj) : w.grownBy (setBlock w r o) (some r) :=
  ⟨rfl, rfl, rfl, by rw [setBlock_size]; exact Nat.le_refl _, fun k _ hk => setBlock_other _ _ _ (fun e => hk (by rw [e]))⟩

section run
variable {P : Program} {K : TypeId}

theorem run_rangeM {T E : TypeId} (hT : P.underlying T = some (.map K E)) (h : IsMap enc vn w r l) :
    ∃ o, (Instr.range T (.map (some r))).run P w = .ok (.pointer (some ⟨w.heap.size, 0, none⟩)) (w.alloc o) ∧ Iter enc vn (w.alloc o) w.heap.size r l (l.map (·.1)) [] := by
  obtain ⟨es, clock, hb, he⟩ := h
  refine ⟨_, run_range_map w T K E r es clock hT hb, es, clock, clock, #[], clock, ?_, he, heap_alloc_new _ _, ?_, ?_, ?_, ?_, List.nodup_nil, ?_⟩
  · rw [Below.heap_alloc _ _ _ (blk_lt hb)]; exact hb
  · intro k hk
    have : enc k ∈ es.toList.map (·.key) := by
      rw [he.key]
      obtain ⟨p, hp, rfl⟩ := List.mem_map.1 hk
      exact List.mem_map.2 ⟨p, hp, rfl⟩
    obtain ⟨e, he2, h3⟩ := List.mem_map.1 this
    exact ⟨e, he2, h3, he.clk e he2⟩
  · intro e _; simp
  · intro h; simp at h
  · intro b h; simp at h
  · intro k hk; simp at hk

theorem Iter.next (h : Iter enc vn w it r l l0 done) (hinj : ∀ a b, enc a = enc b → a = b) (ty : TypeId) :
    (∃ n, (∀ k ∈ l0, k ∈ done) ∧ (Instr.next (.pointer (some ⟨it, 0, none⟩)) false ty).run P w = .ok (.tuple #[.bool false]) (w.drewN n)) ∨
    ∃ n k v o, k ∈ l.map (·.1) ∧ k ∉ done ∧ (k, v) ∈ l ∧ (Instr.next (.pointer (some ⟨it, 0, none⟩)) false ty).run P w = .ok (.tuple #[.bool true, enc k, vn v]) (setBlock (w.drewN n) it o) ∧
      Iter enc vn (setBlock (w.drewN n) it o) it r l l0 (k :: done) ∧ (Instr.entry (.pointer (some ⟨it, 0, none⟩))).run P (setBlock (w.drewN n) it o) = .ok (.tuple #[enc k, vn v]) (setBlock (w.drewN n) it o) := by
  have hne := h.ne
  have hlt := h.lt.2
  obtain ⟨es, clock, since, seen, last, hb, he, hi, hold, hseen, hlast, hborn, hnd, hsub⟩ := h
  have htest : (!seen.isEmpty && !es.isEmpty && es.all (fun x => decide (x.born ≥ last))) = false := by
    cases hs : seen.isEmpty with
    | true => rfl
    | false =>
      obtain ⟨e, he1, he2⟩ := hlast hs
      have : es.all (fun x => decide (x.born ≥ last)) = false := by
        rw [Array.all_eq_false]
        obtain ⟨i, hi1, hi2⟩ := List.getElem_of_mem he1
        exact ⟨i, by simpa using hi1, by simp at hi2; rw [hi2]; simp; omega⟩
      simp [this]
  have hL : ∀ e, e ∈ (es.filter (fun e => !seen.contains e.born)).toList ↔ e ∈ es.toList ∧ seen.contains e.born = false := fun e => by simp
  -- the candidates
  generalize hLd : es.filter (fun e => !seen.contains e.born) = L at hL
  generalize hC : ((if (L.filter (fun x => decide (x.born < since))).isEmpty then #[(none : Option MapEntry)] else #[]) ++ (L.filter (fun x => decide (x.born < since)) ++ L.filter (fun x => decide (x.born ≥ since))).map some) = C
  have hCpos : 0 < C.size := by
    rw [← hC]
    by_cases h0 : (L.filter (fun x => decide (x.born < since))).isEmpty = true
    · rw [if_pos h0]; simp; omega
    · rw [if_neg h0]
      simp only [Array.size_append, Array.size_map]
      have : (L.filter (fun x => decide (x.born < since))).size ≠ 0 := fun e => h0 (by simp [Array.isEmpty, e])
      simp; omega
  have hch : ∃ j n, j < C.size ∧ (choose (Question.mapNext C.size)).run P w = .ok j (w.drewN n) := by
    by_cases hf : C.size ≤ 1
    · exact ⟨0, 0, by omega, by simp [choose, Sem.run, Question.forced, hf]; rfl⟩
    · refine ⟨_, 1, Nat.mod_lt (w.tape w.drawn (Question.mapNext C.size)) (by omega), ?_⟩
      simp only [choose, Sem.run, Question.forced, decide_eq_true_eq, hf, if_false, Question.cut]
      rfl
  obtain ⟨j, n, hj, hrun⟩ := hch
  have hCm : ∀ x, x ∈ C.toList → x ∈ ((if (L.filter (fun x => decide (x.born < since))).isEmpty then #[(none : Option MapEntry)] else #[]) ++ (L.filter (fun x => decide (x.born < since)) ++ L.filter (fun x => decide (x.born ≥ since))).map some).toList := by
    rw [hC]; exact fun _ h => h
  have hmem := hCm C[j] (by simp)
  cases hcj : C[j] with
  | none =>
    left
    rw [hcj] at hmem
    have hemp : (L.filter (fun x => decide (x.born < since))).isEmpty = true := by
      rcases Classical.em ((L.filter (fun x => decide (x.born < since))).isEmpty = true) with h0 | h0
      · exact h0
      · rw [if_neg h0] at hmem; simp at hmem
    refine ⟨n, ?_, ?_⟩
    · intro k hk
      obtain ⟨e, he1, he2, he3⟩ := hold k hk
      by_cases hs : seen.contains e.born = true
      · obtain ⟨k', hk', hkk⟩ := (hseen e he1).1 hs
        have : k = k' := hinj _ _ (he2.symm.trans hkk)
        rw [this]; exact hk'
      · have h1 : e ∈ L.toList := (hL e).2 ⟨he1, by simpa using hs⟩
        have h2 : (L.filter (fun x => decide (x.born < since))) = #[] := by simpa [Array.isEmpty] using hemp
        rw [Array.filter_eq_empty_iff] at h2
        have := h2 e (by simpa using h1)
        simp at this; omega
    · simp only [Instr.next, getObj, Sem.run_bind, Sem.run, hi, hb, Result.andThen, htest, Bool.false_eq_true, if_false, hLd, hC, hrun, Array.getElem?_eq_getElem hj, hcj]
      rfl
  | some e =>
    right
    rw [hcj] at hmem
    have heL : e ∈ L.toList := by
      simp only [Array.toList_append, List.mem_append] at hmem
      rcases hmem with hmem | hmem
      · split at hmem <;> simp at hmem
      · simp at hmem
        rcases hmem with ⟨h1, _⟩ | ⟨h1, _⟩ <;> simpa using h1
    obtain ⟨he1, he2⟩ := (hL e).1 heL
    obtain ⟨i, hi1, hi2⟩ := List.getElem_of_mem he1
    have hlen : es.toList.length = l.length := by have := congrArg List.length he.key; simpa using this
    have hil : i < l.length := by omega
    have hkey : e.key = enc l[i].1 := by
      have h1 : (es.toList.map (·.key))[i]? = some e.key := by rw [List.getElem?_map, List.getElem?_eq_getElem hi1, hi2]; rfl
      rw [he.key, List.getElem?_map, List.getElem?_eq_getElem hil] at h1
      simpa using h1.symm
    have hval : e.val = vn l[i].2 := by
      have h1 : (es.toList.map (·.val))[i]? = some e.val := by rw [List.getElem?_map, List.getElem?_eq_getElem hi1, hi2]; rfl
      rw [he.val, List.getElem?_map, List.getElem?_eq_getElem hil] at h1
      simpa using h1.symm
    have hmi : l[i] ∈ l := by simp
    have hkd : l[i].1 ∉ done := fun hd => by
      have := (hseen e he1).2 ⟨_, hd, hkey⟩
      rw [this] at he2; cases he2
    have hf : es.find? (·.born == e.born) = some e := by rw [← Array.find?_toList]; exact find_born e es.toList he.born he1
    have hsb : (setBlock (w.drewN n) it (.mapIter (some r) since (seen.push e.born) clock)).heap[r]? = some (.map es clock) := by
      rw [setBlock_other _ _ _ (fun e => hne e.symm)]; exact hb
    have hsi : (setBlock (w.drewN n) it (.mapIter (some r) since (seen.push e.born) clock)).heap[it]? = some (.mapIter (some r) since (seen.push e.born) clock) := setBlock_same _ _ _ hlt
    refine ⟨n, l[i].1, l[i].2, .mapIter (some r) since (seen.push e.born) clock, List.mem_map.2 ⟨_, hmi, rfl⟩, hkd, hmi, ?_, ?_, ?_⟩
    · have hset : (setObj it (.mapIter (some r) since (seen.push e.born) clock)).run P (w.drewN n) = .ok () (setBlock (w.drewN n) it (.mapIter (some r) since (seen.push e.born) clock)) := by
        simp [setObj, Sem.run, hi, setBlock]
      simp only [Instr.next, getObj, Sem.run_bind, Sem.run, hi, hb, Result.andThen, htest, Bool.false_eq_true, if_false, hLd, hC, hrun, Array.getElem?_eq_getElem hj, hcj, hset, hkey, hval]
      rfl
    · refine ⟨es, clock, since, seen.push e.born, clock, hsb, he, hsi, hold, ?_, ?_, ?_, ?_, ?_⟩
      · intro e' he'
        rw [Array.contains_push, Bool.or_eq_true, hseen e' he']
        constructor
        · rintro (⟨k, hk, hkk⟩ | h1)
          · exact ⟨k, List.mem_cons_of_mem _ hk, hkk⟩
          · have : e' = e := born_inj he.born he' he1 (by simpa using h1)
            subst this
            exact ⟨_, List.mem_cons_self .., hkey⟩
        · rintro ⟨k, hk, hkk⟩
          rcases List.mem_cons.1 hk with rfl | hk
          · right
            have : e' = e := by
              obtain ⟨i', hi1', hi2'⟩ := List.getElem_of_mem he'
              have hil' : i' < l.length := by omega
              have hkey' : e'.key = enc l[i'].1 := by
                have h1 : (es.toList.map (·.key))[i']? = some e'.key := by rw [List.getElem?_map, List.getElem?_eq_getElem hi1', hi2']; rfl
                rw [he.key, List.getElem?_map, List.getElem?_eq_getElem hil'] at h1
                simpa using h1.symm
              have h5 : l[i'].1 = l[i].1 := hinj _ _ (hkey'.symm.trans hkk)
              have h6 : i' = i := by
                rcases Nat.lt_trichotomy i' i with h | h | h
                · exact absurd (show (l.map (·.1))[i']'(by simpa using hil') = (l.map (·.1))[i]'(by simpa using hil) by simp only [List.getElem_map]; exact h5) (List.pairwise_iff_getElem.1 he.dist i' i (by simpa using hil') (by simpa using hil) h)
                · exact h
                · exact absurd (show (l.map (·.1))[i]'(by simpa using hil) = (l.map (·.1))[i']'(by simpa using hil') by simp only [List.getElem_map]; exact h5.symm) (List.pairwise_iff_getElem.1 he.dist i i' (by simpa using hil) (by simpa using hil') h)
              subst h6
              rw [← hi2, ← hi2']
            subst this; simp
          · exact .inl ⟨k, hk, hkk⟩
      · intro _; exact ⟨e, he1, he.clk e he1⟩
      · intro b hb2
        rw [Array.contains_push, Bool.or_eq_true] at hb2
        rcases hb2 with hb2 | hb2
        · exact hborn b hb2
        · have : b = e.born := by simpa using hb2
          rw [this]; exact he.clk e he1
      · exact List.nodup_cons.2 ⟨hkd, hnd⟩
      · intro k hk
        rcases List.mem_cons.1 hk with rfl | hk
        · exact List.mem_map.2 ⟨_, hmi, rfl⟩
        · exact hsub k hk
    · simp only [Instr.entry, getObj, Sem.run_bind, Sem.run, hsi, hsb, Result.andThen, Array.back?_push, bne_self_eq_false, Bool.false_eq_true, if_false, hf, hkey, hval]
      rfl

variable [DecidableEq κ]
/-- a new key is laid into the map that is ranged over -/
theorem Iter.put (hK : MKey P K enc) {T E : TypeId} (hT : P.underlying T = some (.map K E)) (h : Iter enc vn w it r l l0 done) (k : κ) (v : ν) (hk : k ∉ l.map (·.1)) (hinj : ∀ a b, enc a = enc b → a = b) :
    ∃ o, (Instr.mapUpdate T (.map (some r)) (enc k) (vn v)).run P w = .ok () (setBlock w r o) ∧ Iter enc vn (setBlock w r o) it r (l ++ [(k, v)]) l0 done := by
  have hne := h.ne
  have hlt := h.lt
  obtain ⟨es, clock, since, seen, last, hb, he, hi, hold, hseen, hlast, hborn, hnd, hsub⟩ := h
  obtain ⟨es', clock', hrun, he', hcase⟩ := run_put hK hT hb he k v
  rcases hcase with ⟨h1, _⟩ | ⟨_, rfl, rfl⟩
  · exact absurd h1 hk
  rw [aput_new hk] at he'
  refine ⟨_, hrun, _, _, since, seen, last, setBlock_same _ _ _ hlt.1, he', ?_, ?_, ?_, ?_, ?_, hnd, ?_⟩
  · rw [setBlock_other _ _ _ hne]; exact hi
  · intro k' hk'
    obtain ⟨e, h1, h2⟩ := hold k' hk'
    exact ⟨e, by simp only [Array.toList_push, List.mem_append]; exact .inl h1, h2⟩
  · intro e he2
    simp only [Array.toList_push, List.mem_append, List.mem_singleton] at he2
    rcases he2 with he2 | rfl
    · exact hseen e he2
    · constructor
      · intro h1
        have := hborn _ h1
        simp at this
      · rintro ⟨k', hk', hkk⟩
        have : k = k' := hinj _ _ hkk
        subst this
        exact absurd (hsub k hk') hk
  · intro hs
    obtain ⟨e, h1, h2⟩ := hlast hs
    exact ⟨e, by simp only [Array.toList_push, List.mem_append]; exact .inl h1, h2⟩
  · intro b hb2
    have := hborn b hb2
    omega
  · intro k' hk'
    rw [List.map_append, List.mem_append]
    exact .inl (hsub k' hk')
end run
end Go.Proofs.YtdbkbkopcnkgcaaGreat
