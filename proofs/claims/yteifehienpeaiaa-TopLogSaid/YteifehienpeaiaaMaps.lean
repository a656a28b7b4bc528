/-
  Maps with int keys, told as the list of their entries in the order in which they were laid: look-up, store, delete, len, range.
  No conditions.
-/
import Derived.Test.YteifehienpeaiaaProg
import Derived.Test.YteifehienpeaiaaBase
import Derived.Maps.RangeWalk
import Derived.Maps.OwnSet
import Derived.Maps.OwnOps
set_option linter.unusedVariables false
set_option linter.unusedSimpArgs false
namespace Go.Proofs.Yteifehienpeaiaa
open Go.RowKit
open Go.ChangeMaps (setBlock heap_setBlock_same heap_setBlock_other)

/-- An entry as a pair. -/
def pairOf (e : MapEntry) : Value × Value := (e.key, e.val)
def kInt (e : MapEntry) : Int := intOf e.key
def pairI (p : Int × Value) : Value × Value := (.int .i64 p.1, p.2)

structure Ents (es : List MapEntry) (clock : Nat) (l : List (Int × Value)) : Prop where
  map : es.map pairOf = l.map pairI
  keys : (l.map Prod.fst).Nodup
  born : (es.map (·.born)).Nodup
  old : ∀ e ∈ es, e.born < clock

/-- Block b is a map that holds just these entries. -/
def MapI (w : World) (b : Nat) (l : List (Int × Value)) : Prop := ∃ es clock, w.heap[b]? = some (.map es clock) ∧ Ents es.toList clock l

def getI (l : List (Int × Value)) (x : Int) : Option Value := (l.find? (fun p => p.1 == x)).map (·.2)
def delI (l : List (Int × Value)) (x : Int) : List (Int × Value) := l.filter (fun p => p.1 != x)
def putI (l : List (Int × Value)) (x : Int) (v : Value) : List (Int × Value) := if (getI l x).isSome then l.map (fun p => if p.1 == x then (x, v) else p) else l ++ [(x, v)]

theorem getI_none {l : List (Int × Value)} {x : Int} (h : ∀ p ∈ l, p.1 ≠ x) : getI l x = none := by
  unfold getI
  rw [List.find?_eq_none.2 (fun p hp => by simpa using h p hp)]; rfl

theorem getI_mid {l1 l2 : List (Int × Value)} {x : Int} {v : Value} (h : ∀ p ∈ l1, p.1 ≠ x) : getI (l1 ++ (x, v) :: l2) x = some v := by
  unfold getI
  rw [List.find?_append, List.find?_eq_none.2 (fun p hp => by simpa using h p hp)]
  simp

theorem find_I (x : Int) : ∀ (es : List MapEntry) (l : List (Int × Value)) (i : Nat), es.map pairOf = l.map pairI →
    (Instr.findNow (.int .i64) (.int .i64 x) es i = some none ∧ ∀ p ∈ l, p.1 ≠ x) ∨
    ∃ es1 e es2 l1 v l2, es = es1 ++ e :: es2 ∧ l = l1 ++ (x, v) :: l2 ∧ (∀ p ∈ l1, p.1 ≠ x) ∧ pairOf e = pairI (x, v) ∧ es1.map pairOf = l1.map pairI ∧ es2.map pairOf = l2.map pairI ∧ Instr.findNow (.int .i64) (.int .i64 x) es i = some (some (i + es1.length, v))
  | [], l, i, h => by
    have : l = [] := by simpa using h.symm
    subst this
    exact Or.inl ⟨rfl, by simp⟩
  | e :: es, [], i, h => by simp at h
  | e :: es, p :: l, i, h => by
    simp only [List.map_cons, List.cons.injEq] at h
    obtain ⟨h1, h2⟩ := h
    have hk : e.key = .int .i64 p.1 := congrArg Prod.fst h1
    have hv : e.val = p.2 := congrArg Prod.snd h1
    by_cases hx : p.1 = x
    · right
      refine ⟨[], e, es, [], p.2, l, rfl, by rw [← hx]; rfl, by simp, by rw [h1, ← hx], rfl, h2, ?_⟩
      unfold Instr.findNow
      simp [Instr.sameNow, hk, hx, hv]
    · have hn : Instr.findNow (.int .i64) (.int .i64 x) (e :: es) i = Instr.findNow (.int .i64) (.int .i64 x) es (i + 1) := by
        conv => lhs; unfold Instr.findNow
        have : (x == p.1) = false := by simpa using fun e => hx e.symm
        simp [Instr.sameNow, hk, this]
      rw [hn]
      rcases find_I x es l (i + 1) h2 with ⟨f, g⟩ | ⟨es1, e', es2, l1, v, l2, a1, a2, a3, a4, a5, a6, a7⟩
      · exact Or.inl ⟨f, by simpa [hx] using g⟩
      · right
        refine ⟨e :: es1, e', es2, p :: l1, v, l2, by rw [a1]; rfl, by rw [a2]; rfl, by simpa [hx] using a3, a4, by simp [a5, h1], a6, ?_⟩
        rw [a7]
        simp only [List.length_cons]
        congr 3
        omega

theorem run_underlying' {P : Program} {w : World} {t : TypeId} {d : TypeDesc} (h : P.underlying t = some d) : (underlying t).run P w = .ok d w := by simp [run_underlying h]

theorem check_I {P : Program} {K : TypeId} (hk : P.underlying K = some (.int .i64)) (w : World) (em : Bool) (x : Int) : (Instr.checkKey em 10000 K (.int .i64 x)).run P w = .ok () w := by
  unfold Instr.checkKey
  simp [run_underlying hk, Result.andThen]

theorem findKey_I {P : Program} {K : TypeId} (hk : P.underlying K = some (.int .i64)) (w : World) (x : Int) {es : List MapEntry} {r : Option (Nat × Value)} (h : Instr.findNow (.int .i64) (.int .i64 x) es 0 = some r) :
    (Instr.findKey K (.int .i64 x) es).run P w = .ok r w := by
  unfold Instr.findKey
  simp [run_underlying hk, Result.andThen, h]

section
variable {P : Program} {w : World} {b : Nat} {l : List (Int × Value)} {t K E : TypeId}

theorem MapI.lt (h : MapI w b l) : b < w.heap.size := by
  obtain ⟨es, clock, hb, _⟩ := h
  exact heap_lt hb

theorem MapI.at {w' : World} (h : MapI w b l) (he : w'.heap[b]? = w.heap[b]?) : MapI w' b l := by
  obtain ⟨es, clock, hb, F⟩ := h
  exact ⟨es, clock, he.trans hb, F⟩

theorem MapI.only {w' : World} {S : Nat → Prop} (h : MapI w b l) (hk : Only S w w') (hn : ¬ S b) : MapI w' b l := h.at (hk.block b h.lt hn)

theorem MapI.keys (h : MapI w b l) : (l.map Prod.fst).Nodup := by
  obtain ⟨_, _, _, F⟩ := h
  exact F.keys

theorem MapI.made (w : World) : MapI (w.alloc (.map #[] 0)) w.heap.size [] := ⟨#[], 0, blk_new w _, ⟨rfl, by simp, by simp, by simp⟩⟩

/-- 'm[k]', 'v, ok := m[k]'. -/
theorem MapI.look (h : MapI w b l) (ht : P.underlying t = some (.map K E)) (hk : P.underlying K = some (.int .i64)) {z : Value} (hz : (zeroValue E).run P w = .ok z w) (x : Int) (c : Bool) :
    (Instr.lookup t (.map (some b)) (.int .i64 x) c).run P w = .ok (if c then .tuple #[(getI l x).getD z, .bool (getI l x).isSome] else (getI l x).getD z) w := by
  obtain ⟨es, clock, hb, F⟩ := h
  rcases find_I x es.toList l 0 F.map with ⟨f, g⟩ | ⟨es1, e', es2, l1, v, l2, a1, a2, a3, a4, a5, a6, a7⟩
  · rw [getI_none g]
    simp [Instr.lookup, run_underlying ht, MapKept.run_getObj_map hb, check_I hk, findKey_I hk w x f, hz, Result.andThen]
  · rw [a2, getI_mid a3]
    simp [Instr.lookup, run_underlying ht, MapKept.run_getObj_map hb, check_I hk, findKey_I hk w x a7, Result.andThen]

theorem only_setBlock {o : Obj} (w : World) (b : Nat) (o : Obj) : Only (fun k => k = b) w (setBlock w b o) :=
  ⟨rfl, rfl, rfl, by simp [setBlock], fun k hk hn => by simp [setBlock, Array.getElem?_setIfInBounds]; intro e; exact absurd e.symm hn⟩

theorem modify_mid {α : Type} (f : α → α) (e : α) (c : List α) : ∀ a : List α, (a ++ e :: c).modify a.length f = a ++ f e :: c
  | [] => rfl
  | x :: a => by
    show (x :: (a ++ e :: c)).modify (a.length + 1) f = x :: (a ++ f e :: c)
    rw [List.modify_succ_cons, modify_mid f e c a]

theorem ents_put {es1 es2 : List MapEntry} {e : MapEntry} {l1 l2 : List (Int × Value)} {x : Int} {v : Value} {clock : Nat} (F : Ents (es1 ++ e :: es2) clock (l1 ++ (x, v) :: l2)) (a3 : ∀ p ∈ l1, p.1 ≠ x) (a5 : es1.map pairOf = l1.map pairI) (a6 : es2.map pairOf = l2.map pairI) (u : Value) (e' : MapEntry) (he : pairOf e' = pairI (x, u)) (hb : e'.born = e.born) :
    Ents (es1 ++ e' :: es2) clock (putI (l1 ++ (x, v) :: l2) x u) := by
  have hk := F.keys
  simp only [List.map_append, List.map_cons, List.nodup_append, List.nodup_cons] at hk
  have h2 : ∀ p ∈ l2, p.1 ≠ x := fun p hp e => hk.2.1.1 (by rw [← e]; exact List.mem_map_of_mem hp)
  have e1 : putI (l1 ++ (x, v) :: l2) x u = l1 ++ (x, u) :: l2 := by
    unfold putI
    rw [getI_mid a3]
    simp only [Option.isSome_some, if_true, List.map_append, List.map_cons, beq_self_eq_true]
    have m1 : l1.map (fun p => if (p.1 == x) = true then (x, u) else p) = l1 := by
      conv => rhs; rw [← List.map_id l1]
      exact List.map_congr_left (fun p hp => by simp [a3 p hp])
    have m2 : l2.map (fun p => if (p.1 == x) = true then (x, u) else p) = l2 := by
      conv => rhs; rw [← List.map_id l2]
      exact List.map_congr_left (fun p hp => by simp [h2 p hp])
    rw [m1, m2]
  rw [e1]
  refine ⟨by simp [a5, a6, he], by simpa using F.keys, ?_, ?_⟩
  · have := F.born
    simpa [hb] using this
  · intro y hy
    rcases List.mem_append.1 hy with h | h
    · exact F.old y (List.mem_append_left _ h)
    · rcases List.mem_cons.1 h with h | h
      · rw [h, hb]; exact F.old e (List.mem_append_right _ (by simp))
      · exact F.old y (List.mem_append_right _ (List.mem_cons_of_mem _ h))

/-- 'm[k] = v'. -/
theorem MapI.put (h : MapI w b l) (ht : P.underlying t = some (.map K E)) (hk : P.underlying K = some (.int .i64)) (x : Int) (u : Value) :
    ∃ w', (Instr.mapUpdate t (.map (some b)) (.int .i64 x) u).run P w = .ok () w' ∧ MapI w' b (putI l x u) ∧ Only (fun k => k = b) w w' ∧ w'.heap.size = w.heap.size := by
  obtain ⟨es, clock, hb, F⟩ := h
  have hset : ∀ o', (setObj b o').run P w = .ok () (setBlock w b o') := fun o' => by simp [setObj, Sem.run, hb, setBlock]
  rcases find_I x es.toList l 0 F.map with ⟨f, g⟩ | ⟨es1, e', es2, l1, v, l2, a1, a2, a3, a4, a5, a6, a7⟩
  · refine ⟨setBlock w b (.map (es.push ⟨.int .i64 x, u, clock⟩) (clock + 1)), ?_, ⟨_, _, heap_setBlock_same hb _, ?_⟩, only_setBlock (o := .map es clock) w b _, by simp [setBlock]⟩
    · simp [Instr.mapUpdate, run_underlying ht, MapKept.run_getObj_map hb, check_I hk, findKey_I hk w x f, Result.andThen, hset]
    · unfold putI
      rw [getI_none g]
      simp only [Option.isSome_none, Bool.false_eq_true, if_false, Array.toList_push]
      refine ⟨by simp [F.map, pairOf, pairI], ?_, ?_, ?_⟩
      · rw [List.map_append, List.nodup_append]
        refine ⟨F.keys, by simp, ?_⟩
        intro a ha c hc e
        simp only [List.map_cons, List.map_nil, List.mem_singleton] at hc
        obtain ⟨p, hp, rfl⟩ := List.mem_map.1 ha
        exact g p hp (e.trans hc)
      · rw [List.map_append, List.nodup_append]
        refine ⟨F.born, by simp, ?_⟩
        intro a ha c hc e
        simp only [List.map_cons, List.map_nil, List.mem_singleton] at hc
        obtain ⟨y, hy, rfl⟩ := List.mem_map.1 ha
        have := F.old y hy
        omega
      · intro y hy
        rcases List.mem_append.1 hy with h | h
        · have := F.old y h; omega
        · simp only [List.mem_singleton] at h
          rw [h]; exact Nat.lt_succ_self _
  · have hi : es[es1.length]? = some e' := by
      rw [← Array.getElem?_toList, a1]
      simp
    have hkey : e'.key = .int .i64 x := congrArg Prod.fst a4
    have hst : (Instr.keyThatStays (.int .i64 x) (.int .i64 x)).run P w = .ok (.int .i64 x) w := by simp [Instr.keyThatStays, Instr.sameBits]
    refine ⟨setBlock w b (.map (es.modify es1.length fun e => { e with key := .int .i64 x, val := u }) clock), ?_, ⟨_, _, heap_setBlock_same hb _, ?_⟩, only_setBlock (o := .map es clock) w b _, by simp [setBlock]⟩
    · simp [Instr.mapUpdate, run_underlying ht, MapKept.run_getObj_map hb, check_I hk, findKey_I hk w x a7, Result.andThen, hset, hi, hkey, hst]
    · have ez : (es.modify es1.length fun e => { e with key := .int .i64 x, val := u }).toList = es1 ++ { e' with key := .int .i64 x, val := u } :: es2 := by
        rw [Array.toList_modify, a1, modify_mid]
      rw [ez]
      rw [a1, a2] at F
      rw [a2]
      exact ents_put F a3 a5 a6 u _ rfl rfl

theorem Ents.del {es : List MapEntry} {clock : Nat} (F : Ents es clock l) (x : Int) : Ents (es.filter (fun e => kInt e != x)) clock (delI l x) := by
  refine ⟨?_, ?_, ?_, fun e he => F.old e ((List.mem_filter.1 he).1)⟩
  · have h1 : (es.filter (fun e => kInt e != x)).map pairOf = (es.map pairOf).filter (fun q => intOf q.1 != x) := by
      rw [List.filter_map]; rfl
    rw [h1, F.map, delI, List.filter_map]
    congr 1
  · exact F.keys.sublist ((List.filter_sublist).map _)
  · exact F.born.sublist ((List.filter_sublist).map _)

/-- 'delete(m, k)', told of the entries. -/
theorem del_run {es : Array MapEntry} {clock : Nat} (hb : w.heap[b]? = some (.map es clock)) (F : Ents es.toList clock l) (ht : P.underlying t = some (.map K E)) (hk : P.underlying K = some (.int .i64)) (x : Int) (ty : TypeId) :
    ∃ es', (Builtin.delete_ #[t, K] ty #[.map (some b), .int .i64 x]).run P w = .ok (.tuple #[]) (setBlock w b (.map es' clock)) ∧ es'.toList = es.toList.filter (fun e => kInt e != x) := by
  have hset : ∀ o', (setObj b o').run P w = .ok () (setBlock w b o') := fun o' => by simp [setObj, Sem.run, hb, setBlock]
  rcases find_I x es.toList l 0 F.map with ⟨f, g⟩ | ⟨es1, e', es2, l1, v, l2, a1, a2, a3, a4, a5, a6, a7⟩
  · refine ⟨es, by simp [Builtin.delete_, run_underlying ht, MapKept.run_getObj_map hb, check_I hk, findKey_I hk w x f, Result.andThen, hset], ?_⟩
    symm
    apply List.filter_eq_self.2
    intro e he
    have : pairOf e ∈ l.map pairI := by rw [← F.map]; exact List.mem_map_of_mem he
    obtain ⟨p, hp, hpe⟩ := List.mem_map.1 this
    have hke : e.key = .int .i64 p.1 := (congrArg Prod.fst hpe).symm
    simp [kInt, intOf, hke, g p hp]
  · refine ⟨es.eraseIdxIfInBounds es1.length, by simp [Builtin.delete_, run_underlying ht, MapKept.run_getObj_map hb, check_I hk, findKey_I hk w x a7, Result.andThen, hset], ?_⟩
    have hkk := F.keys
    rw [a2] at hkk
    simp only [List.map_append, List.map_cons, List.nodup_append, List.nodup_cons] at hkk
    have h2 : ∀ p ∈ l2, p.1 ≠ x := fun p hp e => hkk.2.1.1 (by rw [← e]; exact List.mem_map_of_mem hp)
    have keep : ∀ (fs : List MapEntry) (m : List (Int × Value)), fs.map pairOf = m.map pairI → (∀ p ∈ m, p.1 ≠ x) → fs.filter (fun e => kInt e != x) = fs := by
      intro fs m hm hne
      apply List.filter_eq_self.2
      intro e he
      have : pairOf e ∈ m.map pairI := by rw [← hm]; exact List.mem_map_of_mem he
      obtain ⟨p, hp, hpe⟩ := List.mem_map.1 this
      have hke : e.key = .int .i64 p.1 := (congrArg Prod.fst hpe).symm
      simp [kInt, intOf, hke, hne p hp]
    have hkey : e'.key = .int .i64 x := congrArg Prod.fst a4
    have hlt : es1.length < es.size := by
      have := congrArg List.length a1
      simp at this
      omega
    rw [a1, List.filter_append, List.filter_cons, keep es1 l1 a5 a3, keep es2 l2 a6 h2]
    simp only [kInt, intOf, hkey, bne_self_eq_false, Bool.false_eq_true, if_false]
    simp only [Array.eraseIdxIfInBounds, hlt, dif_pos, Array.toList_eraseIdx]
    rw [a1, List.eraseIdx_append_of_length_le (by simp)]
    simp

/-- 'delete(m, k)'. -/
theorem MapI.del (h : MapI w b l) (ht : P.underlying t = some (.map K E)) (hk : P.underlying K = some (.int .i64)) (x : Int) (ty : TypeId) :
    ∃ w', (Builtin.delete_ #[t, K] ty #[.map (some b), .int .i64 x]).run P w = .ok (.tuple #[]) w' ∧ MapI w' b (delI l x) ∧ Only (fun k => k = b) w w' ∧ w'.heap.size = w.heap.size := by
  obtain ⟨es, clock, hb, F⟩ := h
  obtain ⟨es', hrun, he⟩ := del_run hb F ht hk x ty
  exact ⟨_, hrun, ⟨es', clock, heap_setBlock_same hb _, by rw [he]; exact F.del x⟩, only_setBlock (o := .map es clock) w b _, by simp [setBlock]⟩

/-- 'len(m)'. -/
theorem MapI.len (h : MapI w b l) (ht : P.underlying t = some (.map K E)) (ty : TypeId) : (Builtin.len_ #[t] ty #[.map (some b)]).run P w = .ok (.int .i64 l.length) w := by
  obtain ⟨es, clock, hb, F⟩ := h
  have : es.size = l.length := by have := congrArg List.length F.map; simpa using this
  simp [Builtin.len_, run_underlying ht, MapKept.run_getObj_map hb, goInt, Result.andThen, this]

/-- A loop over the map at b by the iterator at r; what is still to come. -/
def RangeI (w : World) (b r : Nat) (l left : List (Int × Value)) : Prop :=
  ∃ es clock seen, w.heap[b]? = some (.map es clock) ∧ w.heap[r]? = some (.mapIter (some b) clock seen clock) ∧ Ents es.toList clock l ∧ (es.toList.filter fun e => !seen.contains e.born).map pairOf = left.map pairI ∧ b ≠ r

variable {r : Nat} {left : List (Int × Value)}

theorem RangeI.map (h : RangeI w b r l left) : MapI w b l := by
  obtain ⟨es, clock, seen, hb, _, F, _⟩ := h
  exact ⟨es, clock, hb, F⟩

theorem RangeI.at {w' : World} (h : RangeI w b r l left) (hb : w'.heap[b]? = w.heap[b]?) (hr : w'.heap[r]? = w.heap[r]?) : RangeI w' b r l left := by
  obtain ⟨es, clock, seen, h1, h2, h3⟩ := h
  exact ⟨es, clock, seen, hb.trans h1, hr.trans h2, h3⟩

theorem RangeI.lt (h : RangeI w b r l left) : b < w.heap.size ∧ r < w.heap.size := by
  obtain ⟨es, clock, seen, h1, h2, _⟩ := h
  exact ⟨heap_lt h1, heap_lt h2⟩

theorem RangeI.only {w' : World} {S : Nat → Prop} (h : RangeI w b r l left) (hk : Only S w w') (hb : ¬ S b) (hr : ¬ S r) : RangeI w' b r l left := h.at (hk.block b h.lt.1 hb) (hk.block r h.lt.2 hr)

/-- 'range m'. -/
theorem MapI.range (h : MapI w b l) (ht : P.underlying t = some (.map K E)) :
    ∃ o, (Instr.range t (.map (some b))).run P w = .ok (.pointer (some ⟨w.heap.size, 0, none⟩)) (w.alloc o) ∧ RangeI (w.alloc o) b w.heap.size l l := by
  have hlt := h.lt
  obtain ⟨es, clock, hb, F⟩ := h
  refine ⟨.mapIter (some b) clock #[] clock, ?_, es, clock, #[], blk_alloc hb _, blk_new w _, F, ?_, by omega⟩
  · simp [Instr.range, run_underlying ht, MapKept.run_getObj_map hb, newObj, Sem.run, Result.andThen]
  · rw [← F.map]
    congr 1
    apply List.filter_eq_self.2
    simp

theorem RangeI.left_keys (h : RangeI w b r l left) : ∀ p ∈ left, p ∈ l ∧ getI l p.1 = some p.2 := by
  obtain ⟨es, clock, seen, hb, hr, F, hl, hne⟩ := h
  intro p hp
  have h1 : pairI p ∈ left.map pairI := List.mem_map_of_mem hp
  rw [← hl] at h1
  obtain ⟨e, he, hpe⟩ := List.mem_map.1 h1
  have h2 : pairOf e ∈ es.toList.map pairOf := List.mem_map_of_mem (List.mem_filter.1 he).1
  rw [F.map] at h2
  obtain ⟨q, hq, hqe⟩ := List.mem_map.1 h2
  have hqp : pairI q = pairI p := hqe.trans hpe
  have hq1 : q = p := by
    have a := congrArg Prod.fst hqp
    have c := congrArg Prod.snd hqp
    simp only [pairI, Value.int.injEq, true_and] at a c
    exact Prod.ext a c
  subst hq1
  refine ⟨hq, ?_⟩
  obtain ⟨l1, l2, rfl⟩ := List.append_of_mem hq
  have hk := F.keys
  simp only [List.map_append, List.map_cons, List.nodup_append] at hk
  exact getI_mid (fun p hp e => hk.2.2 p.1 (List.mem_map_of_mem hp) q.1 (by simp) e)

theorem inj_nodup {α β : Type} (f : α → β) : ∀ {l : List α}, (l.map f).Nodup → ∀ {x y : α}, x ∈ l → y ∈ l → f x = f y → x = y
  | [], _, _, _, hx, _, _ => by simp at hx
  | z :: l, h, x, y, hx, hy, e => by
    rw [List.map_cons, List.nodup_cons] at h
    rcases List.mem_cons.1 hx with hx | hx
    · rcases List.mem_cons.1 hy with hy | hy
      · rw [hx, hy]
      · exact absurd (by rw [← hx, e]; exact List.mem_map_of_mem hy) h.1
    · rcases List.mem_cons.1 hy with hy | hy
      · exact absurd (by rw [← hy, ← e]; exact List.mem_map_of_mem hx) h.1
      · exact inj_nodup f h.2 hx hy e

theorem Ents.inj {es : List MapEntry} {clock : Nat} (F : Ents es clock l) {e f : MapEntry} (he : e ∈ es) (hf : f ∈ es) : kInt e = kInt f ↔ e.born = f.born := by
  have hkeys : (es.map kInt).Nodup := by
    have : es.map kInt = l.map Prod.fst := by
      have h := congrArg (List.map (fun q : Value × Value => intOf q.1)) F.map
      rw [List.map_map, List.map_map] at h
      exact h
    rw [this]; exact F.keys
  constructor
  · intro h
    have := inj_nodup _ hkeys he hf h
    rw [this]
  · intro h
    have := inj_nodup _ F.born he hf h
    rw [this]

/-- The loop's step. -/
theorem RangeI.next (h : RangeI w b r l left) (ty : TypeId) :
    (left = [] ∧ (Instr.next (.pointer (some ⟨r, 0, none⟩)) false ty).run P w = .ok (.tuple #[.bool false]) w) ∨
    ∃ x v w', (x, v) ∈ left ∧ (Instr.next (.pointer (some ⟨r, 0, none⟩)) false ty).run P w = .ok (.tuple #[.bool true, .int .i64 x, v]) w' ∧ RangeI w' b r l (delI left x) ∧ Only (fun k => k = r) w w' ∧ w'.heap.size = w.heap.size ∧
      (Instr.entry (.pointer (some ⟨r, 0, none⟩))).run P w' = .ok (.tuple #[.int .i64 x, v]) w' := by
  obtain ⟨es, clock, seen, hb, hr, F, hl, hne⟩ := h
  rcases run_next_at (P := P) w ty r b clock clock seen es clock hr hb F.old (Nat.le_refl _) with ⟨h0, hrun⟩ | ⟨e, he, w1, hw1, hrun⟩
  · left
    refine ⟨?_, hrun⟩
    have : (es.toList.filter fun e => !seen.contains e.born) = [] := by
      have h1 : (leftOf es seen).toList = es.toList.filter fun e => !seen.contains e.born := by simp [leftOf]
      rw [← h1]
      exact List.eq_nil_of_length_eq_zero (by simpa using h0)
    rw [this] at hl
    simpa using hl.symm
  · right
    have h1 : (leftOf es seen).toList = es.toList.filter fun e => !seen.contains e.born := by simp [leftOf]
    rw [h1] at he
    have hme : pairOf e ∈ left.map pairI := by rw [← hl]; exact List.mem_map_of_mem he
    obtain ⟨p, hp, hpe⟩ := List.mem_map.1 hme
    have hke : e.key = .int .i64 p.1 := (congrArg Prod.fst hpe).symm
    have hve : e.val = p.2 := (congrArg Prod.snd hpe).symm
    have hee := (List.mem_filter.1 he).1
    have heap1 : w1.heap = w.heap := by rcases hw1 with rfl | rfl <;> rfl
    have hr1 : w1.heap[r]? = some (.mapIter (some b) clock seen clock) := by rw [heap1]; exact hr
    have hkp : kInt e = p.1 := by simp [kInt, hke, intOf]
    have hnew : (setBlock w1 r (.mapIter (some b) clock (seen.push e.born) clock)).heap[r]? = some (.mapIter (some b) clock (seen.push e.born) clock) := by
      have := heap_lt hr1
      simp [setBlock, this]
    have hold : (setBlock w1 r (.mapIter (some b) clock (seen.push e.born) clock)).heap[b]? = some (.map es clock) := by
      simp only [setBlock, Array.getElem?_setIfInBounds]
      rw [if_neg (fun e => hne e.symm), heap1]; exact hb
    refine ⟨p.1, p.2, setBlock w1 r (.mapIter (some b) clock (seen.push e.born) clock), hp, by rw [hrun, hke, hve], ⟨es, clock, seen.push e.born, hold, hnew, F, ?_, hne⟩, ?_, by simp [setBlock, heap1], ?_⟩
    · have e1 : (es.toList.filter fun f => !(seen.push e.born).contains f.born) = (es.toList.filter fun f => !seen.contains f.born).filter (fun f => kInt f != p.1) := by
        rw [List.filter_filter]
        apply List.filter_congr
        intro f hf
        have hi := F.inj hf hee
        rw [hkp] at hi
        have hc : (seen.push e.born).contains f.born = (seen.contains f.born || f.born == e.born) := by
          simp only [Array.contains_push]
        rw [hc]
        by_cases hx : kInt f = p.1
        · have := hi.1 hx
          simp [hx, this]
        · have h3 : ¬ f.born = e.born := fun h => hx (hi.2 h)
          have e4 : (f.born == e.born) = false := by simpa using h3
          have e5 : (kInt f != p.1) = true := by simpa using hx
          rw [e4, e5]; simp
      rw [e1]
      have e2 : ((es.toList.filter fun f => !seen.contains f.born).filter (fun f => kInt f != p.1)).map pairOf = ((es.toList.filter fun f => !seen.contains f.born).map pairOf).filter (fun q => intOf q.1 != p.1) := by
        rw [List.filter_map]; rfl
      rw [e2, hl, delI, List.filter_map]
      congr 1
    · refine (?_ : Only (fun k => k = r) w w1).then (only_setBlock (o := .map es clock) w1 r _) (fun _ _ h => h)
      rcases hw1 with rfl | rfl
      · exact Only.refl _ _
      · exact (Only.refl _ _).drew
    · have := run_entry_at (P := P) _ r b clock seen es clock e hnew hold hee F.born
      rw [this, hke, hve]

/-- 'delete(m, k)' in the round. -/
theorem RangeI.del (h : RangeI w b r l left) (ht : P.underlying t = some (.map K E)) (hk : P.underlying K = some (.int .i64)) (x : Int) (ty : TypeId) :
    ∃ w', (Builtin.delete_ #[t, K] ty #[.map (some b), .int .i64 x]).run P w = .ok (.tuple #[]) w' ∧ RangeI w' b r (delI l x) (delI left x) ∧ Only (fun k => k = b) w w' ∧ w'.heap.size = w.heap.size := by
  obtain ⟨es, clock, seen, hb, hr, F, hl, hne⟩ := h
  obtain ⟨es', hrun, he⟩ := del_run hb F ht hk x ty
  refine ⟨_, hrun, ⟨es', clock, seen, heap_setBlock_same hb _, (heap_setBlock_other hb _ (fun e => hne e.symm)).trans hr, by rw [he]; exact F.del x, ?_, hne⟩, only_setBlock (o := .map es clock) w b _, by simp [setBlock]⟩
  rw [he]
  have e1 : ((es.toList.filter (fun e => kInt e != x)).filter fun e => !seen.contains e.born) = (es.toList.filter fun e => !seen.contains e.born).filter (fun e => kInt e != x) := by
    rw [List.filter_filter, List.filter_filter]
    apply List.filter_congr
    intro f _
    rw [Bool.and_comm]
  rw [e1]
  have e2 : ((es.toList.filter fun f => !seen.contains f.born).filter (fun f => kInt f != x)).map pairOf = ((es.toList.filter fun f => !seen.contains f.born).map pairOf).filter (fun q => intOf q.1 != x) := by
    rw [List.filter_map]; rfl
  rw [e2, hl, delI, List.filter_map]
  congr 1

end

section
variable {P : Program} (w : World) {ops : Array Oper} {rest : List Oper} {o : Oper} {a : Act} {Q : Exit → Act → World → Prop}

theorem wpList_look_I (hg : o.guard = none) (m x : Operand) (t : TypeId) (c : Bool) (hop : o.op = Op.lookup t m x c) (K E : TypeId) (ht : P.underlying t = some (.map K E)) (hk : P.underlying K = some (.int .i64)) (z : Value) (hz : (zeroValue E).run P w = .ok z w)
    (b : Nat) (l : List (Int × Value)) (hm : a.eval m = .map (some b)) (h : MapI w b l) (k : Int) (hx : a.eval x = .int .i64 k)
    (hK : wpList P ops Q rest (a.put o.dst (if c then .tuple #[(getI l k).getD z, .bool (getI l k).isSome] else (getI l k).getD z)) w) : wpList P ops Q (o :: rest) a w := by
  refine wpList_plain hg fun K' hK' => ?_
  unfold Oper.wp
  simp only [execOp, hop, hm, hx]
  simp [h.look ht hk hz k c, Result.andThen]
  exact hK' _ _ hK

theorem wpList_put_I (hg : o.guard = none) (m x v : Operand) (t : TypeId) (hop : o.op = Op.mapUpdate t m x v) (K E : TypeId) (ht : P.underlying t = some (.map K E)) (hk : P.underlying K = some (.int .i64))
    (b : Nat) (l : List (Int × Value)) (hm : a.eval m = .map (some b)) (h : MapI w b l) (k : Int) (u : Value) (hx : a.eval x = .int .i64 k) (hv : a.eval v = u)
    (hK : ∀ w', MapI w' b (putI l k u) → Only (fun k => k = b) w w' → w'.heap.size = w.heap.size → wpList P ops Q rest (a.put o.dst undef) w') : wpList P ops Q (o :: rest) a w := by
  refine wpList_plain hg fun K' hK' => ?_
  obtain ⟨w', hrun, r1, r2, r3⟩ := h.put ht hk k u
  unfold Oper.wp
  simp [execOp, hop, hm, hx, hv, hrun, Result.andThen]
  exact hK' _ _ (hK w' r1 r2 r3)

theorem wpList_len_I (hg : o.guard = none) (m : Operand) (t : TypeId) (hop : o.op = Op.call { callee := Callee.builtin Builtin.len, args := #[m], argTypes := #[t] }) (K E : TypeId) (ht : P.underlying t = some (.map K E))
    (b : Nat) (l : List (Int × Value)) (hm : a.eval m = .map (some b)) (h : MapI w b l) (hK : wpList P ops Q rest (a.put o.dst (.int .i64 l.length)) w) : wpList P ops Q (o :: rest) a w := by
  refine wpList_plain hg fun K' hK' => ?_
  unfold Oper.wp
  simp [execOp, hop, resolve, invoke, builtin, hm, h.len ht o.type, Result.andThen]
  exact hK' _ _ hK

theorem wpList_del_I (hg : o.guard = none) (m x : Operand) (t K : TypeId) (hop : o.op = Op.call { callee := Callee.builtin Builtin.delete, args := #[m, x], argTypes := #[t, K] }) (E : TypeId) (ht : P.underlying t = some (.map K E)) (hk : P.underlying K = some (.int .i64))
    (b : Nat) (l : List (Int × Value)) (hm : a.eval m = .map (some b)) (h : MapI w b l) (k : Int) (hx : a.eval x = .int .i64 k)
    (hK : ∀ w', MapI w' b (delI l k) → Only (fun k => k = b) w w' → w'.heap.size = w.heap.size → wpList P ops Q rest (a.put o.dst (.tuple #[])) w') : wpList P ops Q (o :: rest) a w := by
  refine wpList_plain hg fun K' hK' => ?_
  obtain ⟨w', hrun, r1, r2, r3⟩ := h.del ht hk k o.type
  unfold Oper.wp
  simp [execOp, hop, resolve, invoke, builtin, hm, hx, hrun, Result.andThen]
  exact hK' _ _ (hK w' r1 r2 r3)

theorem wpList_range_I (hg : o.guard = none) (m : Operand) (t : TypeId) (hop : o.op = Op.range t m) (K E : TypeId) (ht : P.underlying t = some (.map K E))
    (b : Nat) (l : List (Int × Value)) (hm : a.eval m = .map (some b)) (h : MapI w b l)
    (hK : ∀ w', RangeI w' b w.heap.size l l → Only (fun _ => False) w w' → w'.heap.size = w.heap.size + 1 → wpList P ops Q rest (a.put o.dst (.pointer (some ⟨w.heap.size, 0, none⟩))) w') : wpList P ops Q (o :: rest) a w := by
  refine wpList_plain hg fun K' hK' => ?_
  obtain ⟨ob, hrun, r1⟩ := h.range ht
  unfold Oper.wp
  simp [execOp, hop, hm, hrun, Result.andThen]
  exact hK' _ _ (hK _ r1 ((Only.refl _ w).alloc _) (by simp))

theorem wpList_next_I (hg : o.guard = none) (it : Operand) (hop : o.op = Op.next it false) (b r : Nat) (l left : List (Int × Value)) (hit : a.eval it = .pointer (some ⟨r, 0, none⟩)) (h : RangeI w b r l left)
    (hDone : left = [] → wpList P ops Q rest (a.put o.dst (.tuple #[.bool false])) w)
    (hMore : ∀ x v w', (x, v) ∈ left → RangeI w' b r l (delI left x) → Only (fun k => k = r) w w' → w'.heap.size = w.heap.size → (Instr.entry (.pointer (some ⟨r, 0, none⟩))).run P w' = .ok (.tuple #[.int .i64 x, v]) w' →
      wpList P ops Q rest (a.put o.dst (.tuple #[.bool true, .int .i64 x, v])) w') : wpList P ops Q (o :: rest) a w := by
  refine wpList_plain hg fun K' hK' => ?_
  unfold Oper.wp
  rcases h.next (P := P) o.type with ⟨h0, hrun⟩ | ⟨x, v, w', hx, hrun, r1, r2, r3, r4⟩
  · simp [execOp, hop, hit, hrun, Result.andThen]
    exact hK' _ _ (hDone h0)
  · simp [execOp, hop, hit, hrun, Result.andThen]
    exact hK' _ _ (hMore x v w' hx r1 r2 r3 r4)

/-- .. every element of one shape. -/
theorem wpList_next_A {α : Type} (mk : α → Value) (hg : o.guard = none) (it : Operand) (hop : o.op = Op.next it false) (b r : Nat) (l left : List (Int × Value)) (hit : a.eval it = .pointer (some ⟨r, 0, none⟩)) (h : RangeI w b r l left) (hmk : ∀ q ∈ left, ∃ y, q.2 = mk y)
    (hDone : left = [] → wpList P ops Q rest (a.put o.dst (.tuple #[.bool false])) w)
    (hMore : ∀ x y w', (x, mk y) ∈ left → RangeI w' b r l (delI left x) → Only (fun k => k = r) w w' → w'.heap.size = w.heap.size → (Instr.entry (.pointer (some ⟨r, 0, none⟩))).run P w' = .ok (.tuple #[.int .i64 x, mk y]) w' →
      wpList P ops Q rest (a.put o.dst (.tuple #[.bool true, .int .i64 x, mk y])) w') : wpList P ops Q (o :: rest) a w := by
  refine wpList_next_I w hg it hop b r l left hit h hDone ?_
  intro x v w' hx h1 h2 h3 h4
  obtain ⟨y, hy⟩ := hmk _ hx
  simp only at hy
  subst hy
  exact hMore x y w' hx h1 h2 h3 h4

theorem wpList_delr_I (hg : o.guard = none) (m x : Operand) (t K : TypeId) (hop : o.op = Op.call { callee := Callee.builtin Builtin.delete, args := #[m, x], argTypes := #[t, K] }) (E : TypeId) (ht : P.underlying t = some (.map K E)) (hk : P.underlying K = some (.int .i64))
    (b r : Nat) (l left : List (Int × Value)) (hm : a.eval m = .map (some b)) (h : RangeI w b r l left) (k : Int) (hx : a.eval x = .int .i64 k)
    (hK : ∀ w', RangeI w' b r (delI l k) (delI left k) → Only (fun k => k = b) w w' → w'.heap.size = w.heap.size → wpList P ops Q rest (a.put o.dst (.tuple #[])) w') : wpList P ops Q (o :: rest) a w := by
  refine wpList_plain hg fun K' hK' => ?_
  obtain ⟨w', hrun, r1, r2, r3⟩ := h.del ht hk k o.type
  unfold Oper.wp
  simp [execOp, hop, resolve, invoke, builtin, hm, hx, hrun, Result.andThen]
  exact hK' _ _ (hK w' r1 r2 r3)

end

/-- How many are still to come. -/
def leftN (w : World) (b r : Nat) : Nat :=
  match w.heap[b]?, w.heap[r]? with
  | some (.map es _), some (.mapIter _ _ seen _) => (es.toList.filter fun e => !seen.contains e.born).length
  | _, _ => 0

theorem RangeI.leftN_eq {w : World} {b r : Nat} {l left : List (Int × Value)} (h : RangeI w b r l left) : leftN w b r = left.length := by
  obtain ⟨es, clock, seen, hb, hr, F, hl, hne⟩ := h
  unfold leftN
  rw [hb, hr]
  have := congrArg List.length hl
  simpa using this

theorem delI_length {l : List (Int × Value)} {x : Int} {v : Value} (h : (x, v) ∈ l) : (delI l x).length < l.length := by
  unfold delI
  exact List.length_filter_lt_length_iff_exists.2 ⟨(x, v), h, by simp⟩

theorem mem_delI {l : List (Int × Value)} {x : Int} {q : Int × Value} (h : q ∈ delI l x) : q ∈ l := (List.mem_filter.1 h).1

theorem delI_twice (l : List (Int × Value)) (x : Int) : delI (delI l x) x = delI l x := by
  unfold delI
  rw [List.filter_filter]
  apply List.filter_congr
  intro p _
  simp

end Go.Proofs.Yteifehienpeaiaa
