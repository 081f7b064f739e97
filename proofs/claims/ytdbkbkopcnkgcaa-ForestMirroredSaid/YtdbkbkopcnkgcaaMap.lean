import Derived.Test.YtdbkbkopcnkgcaaOwn
import Derived.Maps.RangeWalk
import Derived.Laws.StructEq
open Go Go.RowKit
open Go.ChangeMaps (setBlock)
namespace Go.Proofs.Ytdbkbkopcnkgcaa

/-- the type K of a map's keys, by an encoding of plain data -/
structure MKey (P : Program) (K : TypeId) {κ : Type} [DecidableEq κ] (enc : κ → Value) : Prop where
  eq : ∀ a b w, (Op.equal K (enc a) (enc b)).run P w = .ok (decide (a = b)) w
  chk : ∀ e a w, (Instr.checkKey e 10000 K (enc a)).run P w = .ok () w
  bits : ∀ a, Instr.sameBits 10000 (enc a) (enc a) = true
  und : ∃ kind, P.underlying K = some kind ∧ ∀ a b, Instr.sameNow kind (enc a) (enc b) = none

variable {κ ν : Type}
/-- the entries of a map's block -/
structure Ents (enc : κ → Value) (vn : ν → Value) (es : Array MapEntry) (clock : Nat) (l : List (κ × ν)) : Prop where
  key : es.toList.map (·.key) = l.map (fun p => enc p.1)
  val : es.toList.map (·.val) = l.map (fun p => vn p.2)
  dist : (l.map (·.1)).Nodup
  born : (es.toList.map (·.born)).Nodup
  clk : ∀ e ∈ es.toList, e.born < clock

def IsMap (enc : κ → Value) (vn : ν → Value) (w : World) (r : Nat) (l : List (κ × ν)) : Prop := ∃ es clock, w.heap[r]? = some (.map es clock) ∧ Ents enc vn es clock l

theorem IsMap.same {enc : κ → Value} {vn : ν → Value} {w w' : World} {r : Nat} {l : List (κ × ν)} (h : IsMap enc vn w r l) (hs : w'.heap[r]? = w.heap[r]?) : IsMap enc vn w' r l := by
  obtain ⟨es, clock, hb, he⟩ := h
  exact ⟨es, clock, hs.trans hb, he⟩
theorem IsMap.lt {enc : κ → Value} {vn : ν → Value} {w : World} {r : Nat} {l : List (κ × ν)} (h : IsMap enc vn w r l) : r < w.heap.size := by
  obtain ⟨es, clock, hb, he⟩ := h
  exact blk_lt hb
theorem IsMap.below {enc : κ → Value} {vn : ν → Value} {w w' : World} {r : Nat} {l : List (κ × ν)} (h : IsMap enc vn w r l) (hb : Below w.heap.size w w') : IsMap enc vn w' r l := h.same (hb.block r h.lt)
theorem IsMap.new (enc : κ → Value) (vn : ν → Value) (w : World) : IsMap enc vn (w.alloc (.map #[] 0)) w.heap.size [] :=
  ⟨#[], 0, heap_alloc_new w _, by simp, by simp, by simp, by simp, by simp⟩


variable [DecidableEq κ]

def alook : List (κ × ν) → κ → Option ν
  | [], _ => none
  | (a, b) :: l, k => if a = k then some b else alook l k
def aidx : List (κ × ν) → κ → Nat
  | [], _ => 0
  | (a, _) :: l, k => if a = k then 0 else aidx l k + 1
def aput : List (κ × ν) → κ → ν → List (κ × ν)
  | [], k, v => [(k, v)]
  | (a, b) :: l, k, v => if a = k then (a, v) :: l else (a, b) :: aput l k v

theorem alook_none {l : List (κ × ν)} {k : κ} : alook l k = none ↔ k ∉ l.map (·.1) := by
  induction l with
  | nil => simp [alook]
  | cons p l ih =>
    obtain ⟨a, b⟩ := p
    unfold alook
    by_cases h : a = k
    · simp [h]
    · rw [if_neg h, ih]; simp [show ¬ k = a from fun e => h e.symm]
theorem alook_some {l : List (κ × ν)} {k : κ} {v : ν} (h : alook l k = some v) : (k, v) ∈ l := by
  induction l with
  | nil => simp [alook] at h
  | cons p l ih =>
    obtain ⟨a, b⟩ := p
    unfold alook at h
    by_cases h2 : a = k
    · rw [if_pos h2] at h; injection h with h; subst h; subst h2; simp
    · rw [if_neg h2] at h; exact List.mem_cons_of_mem _ (ih h)
theorem aput_new {l : List (κ × ν)} {k : κ} (h : k ∉ l.map (·.1)) (v : ν) : aput l k v = l ++ [(k, v)] := by
  induction l with
  | nil => rfl
  | cons p l ih =>
    obtain ⟨a, b⟩ := p
    simp only [List.map_cons, List.mem_cons, not_or] at h
    unfold aput
    rw [if_neg (fun e => h.1 e.symm), ih h.2]; rfl
theorem aput_keys_old {l : List (κ × ν)} {k : κ} (h : k ∈ l.map (·.1)) (v : ν) : (aput l k v).map (·.1) = l.map (·.1) := by
  induction l with
  | nil => simp at h
  | cons p l ih =>
    obtain ⟨a, b⟩ := p
    unfold aput
    by_cases h2 : a = k
    · rw [if_pos h2]; rfl
    · rw [if_neg h2]
      simp only [List.map_cons]
      rw [ih (by simp only [List.map_cons, List.mem_cons] at h; exact h.resolve_left fun e => h2 e.symm)]
theorem alook_put (l : List (κ × ν)) (k : κ) (v : ν) (k' : κ) : alook (aput l k v) k' = if k = k' then some v else alook l k' := by
  induction l with
  | nil => simp [aput, alook]
  | cons p l ih =>
    obtain ⟨a, b⟩ := p
    unfold aput
    by_cases h : a = k
    · rw [if_pos h]; subst h
      unfold alook
      by_cases h2 : a = k' <;> simp [h2]
    · rw [if_neg h]
      unfold alook
      by_cases h2 : a = k'
      · rw [if_pos h2, if_pos h2, if_neg (fun e => h (h2.trans e.symm))]
      · rw [if_neg h2, if_neg h2, ih]

section run
variable {P : Program} {K : TypeId} {enc : κ → Value} {vn : ν → Value}

theorem run_findAsking (hK : MKey P K enc) (k : κ) (w : World) : ∀ (es : List MapEntry) (l : List (κ × ν)) (i : Nat), es.map (·.key) = l.map (fun p => enc p.1) → es.map (·.val) = l.map (fun p => vn p.2) →
    (Instr.findAsking K (enc k) es i).run P w = .ok ((alook l k).map fun v => (i + aidx l k, vn v)) w
  | [], [], i, _, _ => by simp [Instr.findAsking, alook]
  | [], _ :: _, _, h, _ => by simp at h
  | _ :: _, [], _, h, _ => by simp at h
  | e :: es, (a, b) :: l, i, h1, h2 => by
    simp only [List.map_cons, List.cons.injEq] at h1 h2
    simp only [Instr.findAsking, Sem.run_bind, h1.1, hK.eq, Result.andThen_ok]
    unfold alook aidx
    by_cases h : k = a
    · subst h; simp [h2.1]
    · have h' : ¬ a = k := fun e => h e.symm
      simp only [h, decide_false, Bool.false_eq_true, if_false, h']
      rw [run_findAsking hK k w es l (i + 1) h1.2 h2.2]
      congr 2
      funext v
      rw [show i + 1 + aidx l k = i + (aidx l k + 1) by omega]

theorem run_findKey (hK : MKey P K enc) (k : κ) (w : World) (es : List MapEntry) (l : List (κ × ν)) (h1 : es.map (·.key) = l.map (fun p => enc p.1)) (h2 : es.map (·.val) = l.map (fun p => vn p.2)) :
    (Instr.findKey K (enc k) es).run P w = .ok ((alook l k).map fun v => (aidx l k, vn v)) w := by
  obtain ⟨kind, hu, hw⟩ := hK.und
  have hf := run_findAsking hK k w es l 0 h1 h2
  simp only [Nat.zero_add] at hf
  cases es with
  | nil =>
    cases l with
    | nil => simp [Instr.findKey, run_underlying hu, Instr.findNow, alook]
    | cons => simp at h1
  | cons e es =>
    cases l with
    | nil => simp at h1
    | cons p l =>
      simp only [List.map_cons, List.cons.injEq] at h1
      simp only [Instr.findKey, Sem.run_bind, run_underlying hu, Result.andThen_ok, Instr.findNow, h1.1, hw]
      exact hf

theorem run_look (hK : MKey P K enc) {T E : TypeId} (hT : P.underlying T = some (.map K E)) {z : Value} (hz : ∀ w, (zeroValue E).run P w = .ok z w) {w : World} {r : Nat} {l : List (κ × ν)} (h : IsMap enc vn w r l) (k : κ) :
    (Instr.lookup T (.map (some r)) (enc k) false).run P w = .ok (((alook l k).map vn).getD z) w := by
  obtain ⟨es, clock, hb, he⟩ := h
  simp only [Instr.lookup, Sem.run_bind, run_underlying hT, Result.andThen_ok, getObj, Sem.run, hb, hK.chk, Sem.run_pure]
  rw [run_findKey hK k w es.toList l he.key he.val]
  cases alook l k with
  | none => simp [hz]
  | some v => simp
theorem run_look_ok (hK : MKey P K enc) {T E : TypeId} (hT : P.underlying T = some (.map K E)) {z : Value} (hz : ∀ w, (zeroValue E).run P w = .ok z w) {w : World} {r : Nat} {l : List (κ × ν)} (h : IsMap enc vn w r l) (k : κ) :
    (Instr.lookup T (.map (some r)) (enc k) true).run P w = .ok (.tuple #[((alook l k).map vn).getD z, .bool (alook l k).isSome]) w := by
  obtain ⟨es, clock, hb, he⟩ := h
  simp only [Instr.lookup, Sem.run_bind, run_underlying hT, Result.andThen_ok, getObj, Sem.run, hb, hK.chk, Sem.run_pure]
  rw [run_findKey hK k w es.toList l he.key he.val]
  cases alook l k with
  | none => simp [hz]
  | some v => simp

theorem run_stay (hK : MKey P K enc) (k : κ) (w : World) : (Instr.keyThatStays (enc k) (enc k)).run P w = .ok (enc k) w := by
  simp [Instr.keyThatStays, hK.bits]

theorem setBlock_same (w : World) (r : Nat) (o : Obj) (h : r < w.heap.size) : (setBlock w r o).heap[r]? = some o := by
  simp [setBlock, h]
theorem setBlock_other (w : World) (r : Nat) (o : Obj) {b : Nat} (h : b ≠ r) : (setBlock w r o).heap[b]? = w.heap[b]? := by
  simp only [setBlock]
  rw [Array.getElem?_setIfInBounds_ne (fun e => h e.symm)]
theorem setBlock_size (w : World) (r : Nat) (o : Obj) : (setBlock w r o).heap.size = w.heap.size := by simp [setBlock]

theorem aidx_get {l : List (κ × ν)} {k : κ} (h : k ∈ l.map (·.1)) : (l.map (·.1))[aidx l k]? = some k := by
  induction l with
  | nil => simp at h
  | cons p l ih =>
    obtain ⟨a, b⟩ := p
    unfold aidx
    by_cases h2 : a = k
    · simp [h2]
    · rw [if_neg h2]
      simp only [List.map_cons, List.getElem?_cons_succ]
      exact ih (by simp only [List.map_cons, List.mem_cons] at h; exact h.resolve_left fun e => h2 e.symm)
theorem map_modify_keep {β : Type} (f : MapEntry → β) (g : MapEntry → MapEntry) : ∀ (l : List MapEntry) (i : Nat), (∀ e, l[i]? = some e → f (g e) = f e) → (l.modify i g).map f = l.map f
  | [], _, _ => by simp
  | e :: l, 0, h => by simp [h e rfl]
  | e :: l, i + 1, h => by
    simp only [List.modify_succ_cons, List.map_cons]
    rw [map_modify_keep f g l i (fun e' he => h e' (by simpa using he))]
theorem map_val_put {vn : ν → Value} (v : ν) (k : κ) : ∀ (es : List MapEntry) (l : List (κ × ν)) (key : Value), es.length = l.length → es.map (·.val) = l.map (fun p => vn p.2) → k ∈ l.map (·.1) →
    (es.modify (aidx l k) fun e => { e with key := key, val := vn v }).map (·.val) = (aput l k v).map (fun p => vn p.2)
  | [], [], _, _, _, h => by simp at h
  | [], _ :: _, _, h, _, _ => by simp at h
  | _ :: _, [], _, h, _, _ => by simp at h
  | e :: es, (a, b) :: l, key, hl, h1, h2 => by
    simp only [List.map_cons, List.cons.injEq] at h1
    unfold aidx aput
    by_cases h : a = k
    · simp [h, h1.2]
    · rw [if_neg h, if_neg h]
      simp only [List.modify_succ_cons, List.map_cons, h1.1]
      rw [map_val_put v k es l key (by simpa using hl) h1.2 (by simp only [List.map_cons, List.mem_cons] at h2; exact h2.resolve_left fun e => h e.symm)]

/-- a store into a map: how the block looks behind it -/
theorem run_put (hK : MKey P K enc) {T E : TypeId} (hT : P.underlying T = some (.map K E)) {w : World} {r : Nat} {es : Array MapEntry} {clock : Nat} {l : List (κ × ν)} (hb : w.heap[r]? = some (.map es clock)) (he : Ents enc vn es clock l) (k : κ) (v : ν) :
    ∃ es' clock', (Instr.mapUpdate T (.map (some r)) (enc k) (vn v)).run P w = .ok () (setBlock w r (.map es' clock')) ∧ Ents enc vn es' clock' (aput l k v) ∧
      ((k ∈ l.map (·.1) ∧ clock' = clock ∧ es'.toList.map (·.born) = es.toList.map (·.born) ∧ es'.toList.map (·.key) = es.toList.map (·.key)) ∨ (k ∉ l.map (·.1) ∧ clock' = clock + 1 ∧ es' = es.push { key := enc k, val := vn v, born := clock })) := by
  have hlen : es.toList.length = l.length := by have := congrArg List.length he.key; simpa using this
  have hset : ∀ o, (setObj r o).run P w = .ok () (setBlock w r o) := fun o => by simp [setObj, Sem.run, hb, setBlock]
  cases hl : alook l k with
  | none =>
    have hk := alook_none.1 hl
    refine ⟨es.push { key := enc k, val := vn v, born := clock }, clock + 1, ?_, ?_, .inr ⟨hk, rfl, rfl⟩⟩
    · simp only [Instr.mapUpdate, Sem.run_bind, run_underlying hT, Result.andThen_ok, getObj, Sem.run, hb, hK.chk]
      rw [run_findKey hK k w es.toList l he.key he.val, hl]
      simp [hset]
    · rw [aput_new hk]
      refine ⟨by simp [he.key], by simp [he.val], ?_, ?_, ?_⟩
      · rw [List.map_append, List.nodup_append]
        refine ⟨he.dist, by simp, ?_⟩
        intro a ha b hb2
        simp at hb2
        subst hb2
        intro e; subst e; exact hk ha
      · simp only [Array.toList_push, List.map_append, List.map_cons, List.map_nil]
        rw [List.nodup_append]
        refine ⟨he.born, by simp, ?_⟩
        intro a ha b hb2
        simp only [List.mem_singleton] at hb2
        obtain ⟨e, he2, rfl⟩ := List.mem_map.1 ha
        have := he.clk e he2
        omega
      · intro e he2
        simp only [Array.toList_push, List.mem_append, List.mem_singleton] at he2
        rcases he2 with he2 | rfl
        · have := he.clk e he2; omega
        · show clock < clock + 1; omega
  | some v0 =>
    have hk : k ∈ l.map (·.1) := by
      rcases Classical.em (k ∈ l.map (·.1)) with h | h
      · exact h
      · rw [alook_none.2 h] at hl; cases hl
    have hkey0 : ∀ e, es.toList[aidx l k]? = some e → e.key = enc k := fun e h => by
      have h1 : (es.toList.map (·.key))[aidx l k]? = some e.key := by rw [List.getElem?_map, h]; rfl
      rw [he.key] at h1
      have h2 := aidx_get hk
      rw [List.getElem?_map] at h1 h2
      cases h3 : l[aidx l k]? with
      | none => rw [h3] at h2; cases h2
      | some p =>
        rw [h3] at h1 h2
        simp only [Option.map_some, Option.some.injEq] at h1 h2
        rw [← h1, h2]
    have hlt : aidx l k < es.size := by
      have h2 := aidx_get hk
      have := (List.getElem?_eq_some_iff.1 h2).1
      simp only [List.length_map] at this
      rw [← hlen] at this
      simpa using this
    have hg : ((es[aidx l k]?).map (·.key)).getD (enc k) = enc k := by
      rw [Array.getElem?_eq_getElem hlt]
      exact hkey0 _ (by simp [hlt])
    have hbn : (es.toList.modify (aidx l k) fun e => { e with key := enc k, val := vn v }).map (·.born) = es.toList.map (·.born) := map_modify_keep _ _ _ _ (by intro e h; rfl)
    refine ⟨es.modify (aidx l k) fun e => { e with key := enc k, val := vn v }, clock, ?_, ?_, .inl ⟨hk, rfl, ?_, ?_⟩⟩
    · simp only [Instr.mapUpdate, Sem.run_bind, run_underlying hT, Result.andThen_ok, getObj, Sem.run, hb, hK.chk]
      rw [run_findKey hK k w es.toList l he.key he.val, hl]
      simp only [Option.map_some, Result.andThen_ok, hg, run_stay hK, Sem.run_bind, hset]
    · refine ⟨?_, ?_, ?_, ?_, ?_⟩
      · rw [Array.toList_modify, map_modify_keep _ _ _ _ (fun e h => (hkey0 e h).symm), he.key]
        have := aput_keys_old hk v
        have h2 := congrArg (List.map enc) this
        simpa [Function.comp_def] using h2.symm
      · rw [Array.toList_modify]
        exact map_val_put v k es.toList l (enc k) hlen he.val hk
      · rw [aput_keys_old hk]; exact he.dist
      · rw [Array.toList_modify, hbn]; exact he.born
      · intro e he2
        have : e.born ∈ (es.modify (aidx l k) fun e => { e with key := enc k, val := vn v }).toList.map (·.born) := List.mem_map.2 ⟨e, he2, rfl⟩
        rw [Array.toList_modify, hbn] at this
        obtain ⟨e', he', h'⟩ := List.mem_map.1 this
        rw [← h']; exact he.clk e' he'
    · rw [Array.toList_modify, hbn]
    · rw [Array.toList_modify, map_modify_keep _ _ _ _ (fun e h => (hkey0 e h).symm)]
theorem IsMap.put (hK : MKey P K enc) {T E : TypeId} (hT : P.underlying T = some (.map K E)) {w : World} {r : Nat} {l : List (κ × ν)} (h : IsMap enc vn w r l) (k : κ) (v : ν) :
    ∃ o, (Instr.mapUpdate T (.map (some r)) (enc k) (vn v)).run P w = .ok () (setBlock w r o) ∧ IsMap enc vn (setBlock w r o) r (aput l k v) := by
  obtain ⟨es, clock, hb, he⟩ := h
  obtain ⟨es', clock', hrun, he', _⟩ := run_put hK hT hb he k v
  exact ⟨_, hrun, es', clock', setBlock_same _ _ _ (blk_lt hb), he'⟩
end run
end Go.Proofs.Ytdbkbkopcnkgcaa
