/-
  A region that draws its order: one fact for each operation, that holds behind it whatever came up before; each operation is shown once, from the facts of those that it waits for.
  Conditions: no guards; each operation has a slot of its own.
-/
import Derived.Test.YteifehienpeaiaaBase
import Derived.Test.YteifehienpeaiaaProg
import Derived.StillTail
set_option linter.unusedVariables false
set_option linter.unusedSimpArgs false
namespace Go.Proofs.Yteifehienpeaiaa
open Go.RowKit

/-- What an operation comes to, in whatever frame that tells these operands. -/
def OpSays (P : Program) (o : Oper) (ev : Operand → Value) (w : World) (post : Value → World → Prop) : Prop :=
  (∃ v w', (execOp ev o).run P w = .ok (.value v) w' ∧ post v w') ∨
  (∃ f args w', (execOp ev o).run P w = .ok (.enter f args) w' ∧ Calls P f args w' fun e w'' => ∃ v, e = .returned v ∧ post v w'')

theorem OpSays.value {P : Program} {o : Oper} {ev : Operand → Value} {w w' : World} {v : Value} {post : Value → World → Prop} (h : (execOp ev o).run P w = .ok (.value v) w') (hp : post v w') : OpSays P o ev w post := .inl ⟨v, w', h, hp⟩
theorem OpSays.enter {P : Program} {o : Oper} {ev : Operand → Value} {w w' : World} {f : FuncId} {args : Array Value} {post : Value → World → Prop} (h : (execOp ev o).run P w = .ok (.enter f args) w') (hp : Calls P f args w' fun e w'' => ∃ v, e = .returned v ∧ post v w'') : OpSays P o ev w post := .inr ⟨f, args, w', h, hp⟩

/-- The facts of these operations. -/
def AllG (G : Nat → Value → World → Prop) (ds : Nat → Nat) (ev : Operand → Value) (w : World) : List Nat → Prop
  | [] => True
  | j :: l => G j (ev (.tmp (ds j))) w ∧ AllG G ds ev w l

theorem AllG.of {G : Nat → Value → World → Prop} {ds : Nat → Nat} {ev : Operand → Value} {w : World} : ∀ {l : List Nat}, (∀ j ∈ l, G j (ev (.tmp (ds j))) w) → AllG G ds ev w l
  | [], _ => trivial
  | j :: l, h => ⟨h j (by simp), AllG.of (fun k hk => h k (by simp [hk]))⟩

theorem AllG.get {G : Nat → Value → World → Prop} {ds : Nat → Nat} {ev : Operand → Value} {w : World} : ∀ {l : List Nat}, AllG G ds ev w l → ∀ j ∈ l, G j (ev (.tmp (ds j))) w
  | [], _, j, hj => by cases hj
  | k :: l, h, j, hj => by
    rcases List.mem_cons.1 hj with rfl | hj
    · exact h.1
    · exact AllG.get h.2 j hj

/-- The operations, one by one. -/
def EachOp : Nat → List Oper → (Nat → Oper → Prop) → Prop
  | _, [], _ => True
  | i, o :: l, p => p i o ∧ EachOp (i + 1) l p

theorem EachOp.at {p : Nat → Oper → Prop} : ∀ {l : List Oper} {k i : Nat} {o : Oper}, EachOp k l p → l[i]? = some o → p (k + i) o
  | [], _, _, _, _, h => by simp at h
  | x :: l, k, 0, o, hh, h => by
    simp only [List.getElem?_cons_zero, Option.some.injEq] at h
    subst h
    exact hh.1
  | x :: l, k, i + 1, o, hh, h => by
    have := EachOp.at hh.2 (by simpa using h)
    rwa [show k + 1 + i = k + (i + 1) by omega] at this

/-- The slots of the operations, each its own, within so many. -/
def slotsOK (ops : Array Oper) (n : Nat) (ds : List Nat) : Bool :=
  (ops.toList.map (·.dst) == ds.map some) && (ops.toList.all fun o => o.guard == none) && ds.Nodup && ds.all (· < n)
/-- Whom an operation waits for. -/
def waitsFor (need : List (List Nat)) (ops : Array Oper) : Bool :=
  (List.range ops.size).all fun i => (need.getD i []).all fun j => j < ops.size && ((ops[i]?).map fun o => o.after.any fun e => Region.binds .any e && e.on == j).getD false

theorem put_eval_same {a : Act} {d : Nat} {v : Value} (h : d < a.tmps.size) : (a.put (some d) v).eval (.tmp d) = v := by
  simp [Act.put, Act.eval, h]
theorem put_eval_other {a : Act} {d t : Nat} {v : Value} (h : d ≠ t) : (a.put (some d) v).eval (.tmp t) = a.eval (.tmp t) := by
  simp [Act.put, Act.eval, Array.getElem?_setIfInBounds_ne h]
theorem put_size {a : Act} {d : Option Nat} {v : Value} : (a.put d v).tmps.size = a.tmps.size := by
  cases d <;> simp [Act.put]
theorem put_defers {a : Act} {d : Option Nat} {v : Value} : (a.put d v).defers = a.defers := by
  cases d <;> simp [Act.put]

section
variable {P : Program} {ops : Array Oper} {Q : Exit → Act → World → Prop}

/-- The state of a region under way. -/
structure Under (ops : Array Oper) (ds : List Nat) (T : World → Prop) (G : Nat → Value → World → Prop) (a0 : Act) (listed : Array Bool) (a : Act) (w : World) : Prop where
  held : T w
  size : a.tmps.size = a0.tmps.size
  defers : a.defers = a0.defers
  len : listed.size = ops.size
  frame : ∀ t, t ∉ ds → a.eval (.tmp t) = a0.eval (.tmp t)
  fact : ∀ i, listed.getD i false = true → G i (a.eval (.tmp (ds.getD i 0))) w

theorem all_left : ∀ (fuel : Nat) (listed : Array Bool), (listed.toList.filter (· == false)).length ≤ fuel → fuel = 0 → ∀ i, i < listed.size → listed.getD i false = true := by
  intro fuel listed h h0 i hi
  subst h0
  have h1 : listed.toList.filter (· == false) = [] := List.length_eq_zero_iff.1 (by omega)
  rw [List.filter_eq_nil_iff] at h1
  have h2 := h1 listed[i] (by simp)
  simp only [beq_iff_eq, Bool.not_eq_false] at h2
  simp [Array.getD, hi, h2]

theorem filter_set (l : List Bool) : ∀ (i : Nat), l[i]? = some false → ((l.set i true).filter (· == false)).length + 1 = (l.filter (· == false)).length := by
  induction l with
  | nil => intro i h; simp at h
  | cons b l ih =>
    intro i h
    cases i with
    | zero =>
      simp only [List.getElem?_cons_zero, Option.some.injEq] at h
      subst h
      simp
    | succ i =>
      have := ih i (by simpa using h)
      cases b <;> simp_all

theorem wpAny_under {ds : List Nat} {T : World → Prop} {G : Nat → Value → World → Prop} {a0 : Act}
    (hstep : ∀ listed a w i, i ∈ Region.ready .any ops listed → Under ops ds T G a0 listed a w → wpOp P ops Q i (fun a' w' => Under ops ds T G a0 (listed.setIfInBounds i true) a' w') a w)
    (hstuck : ∀ listed : Array Bool, listed.size = ops.size → Region.ready .any ops listed = [] → ∀ i, i < ops.size → listed.getD i false = true)
    (hend : ∀ listed a w, (∀ i, i < ops.size → listed.getD i false = true) → Under ops ds T G a0 listed a w → Q .normal a w) :
    ∀ (fuel : Nat) (listed : Array Bool) (a : Act) (w : World), (listed.toList.filter (· == false)).length ≤ fuel → Under ops ds T G a0 listed a w → wpAny P .any ops Q fuel listed a w := by
  intro fuel
  induction fuel with
  | zero =>
    intro listed a w hf hU
    have hall := all_left 0 listed hf rfl
    refine ⟨?_, hend listed a w (fun i hi => hall i (by rw [hU.len]; exact hi)) hU⟩
    rw [List.eq_nil_iff_forall_not_mem]
    intro i hi
    obtain ⟨h0, o, ho, _⟩ := mem_ready.1 hi
    have hlt : i < ops.size := (Array.getElem?_eq_some_iff.1 ho).1
    have h1 := hall i (by rw [hU.len]; exact hlt)
    simp [Array.getD, hU.len, hlt] at h0 h1
    rw [h0] at h1
    cases h1
  | succ fuel ih =>
    intro listed a w hf hU
    refine ⟨fun h => hend listed a w (hstuck listed hU.len h) hU, fun i hi => ?_⟩
    refine wpOp_mono (fun a' w' h' => ih _ a' w' ?_ h') (hstep listed a w i hi hU)
    obtain ⟨h0, o, ho, _⟩ := mem_ready.1 hi
    have hlt : i < ops.size := (Array.getElem?_eq_some_iff.1 ho).1
    have h1 : listed.toList[i]? = some false := by
      have : i < listed.size := by rw [hU.len]; exact hlt
      simp [Array.getD, this] at h0
      simp [this, h0]
    have := filter_set listed.toList i h1
    rw [Array.toList_setIfInBounds]
    omega

/-- Where nothing may come up all has come up: whoever waits, waits for one ahead of it. -/
def ahead (ops : Array Oper) : Bool := (List.range ops.size).all fun i => ((ops[i]?).map fun o => o.after.all fun e => !Region.binds .any e || decide (e.on < i)).getD true

theorem stuck_all (ha : ahead ops = true) (listed : Array Bool) (hl : listed.size = ops.size) (hr : Region.ready .any ops listed = []) : ∀ i, i < ops.size → listed.getD i false = true := by
  intro i
  induction i using Nat.strongRecOn with
  | _ i ih =>
    intro hi
    by_cases h : listed.getD i false = true
    · exact h
    · exfalso
      have hm : i ∈ Region.ready .any ops listed := by
        rw [mem_ready]
        refine ⟨?_, ops[i], by simp [hi], fun e he hb => ?_⟩
        · have : i < listed.size := by omega
          simp [Array.getD, this] at h ⊢
          exact h
        · have h1 := (List.all_eq_true.1 ha) i (List.mem_range.2 hi)
          simp only [Array.getElem?_eq_getElem hi, Option.map_some, Option.getD_some] at h1
          have h2 := Array.all_eq_true_iff_forall_mem.1 h1 e he
          simp only [hb, Bool.not_true, Bool.false_or, decide_eq_true_eq] at h2
          exact ih e.on h2 (by omega)
      rw [hr] at hm
      cases hm

/-- **A region that draws, by one fact for each operation.** -/
theorem wp_region_facts {id : Nat} {a0 : Act} {w0 : World} (ds : List Nat) (need : List (List Nat)) (T : World → Prop) (Step : World → World → Prop) (G : Nat → Value → World → Prop)
    (hm : P.follows .mixedOrders = true) (hs : slotsOK ops a0.tmps.size ds = true) (hn : waitsFor need ops = true) (ha : ahead ops = true)
    (hT : T w0.drew) (hkeep : ∀ j v w w', G j v w → Step w w' → G j v w')
    (hops : EachOp 0 ops.toList fun i o => ∀ (ev : Operand → Value) (w : World), T w → (∀ v, ev (.const v) = v) → (∀ f, ev (.func f) = .func (.func f) #[] #[]) → (∀ t, t ∉ ds → ev (.tmp t) = a0.eval (.tmp t)) →
      AllG G (fun j => ds.getD j 0) ev w (need.getD i []) → OpSays P o ev w (fun v w' => T w' ∧ Step w w' ∧ G i v w'))
    (hend : ∀ (a : Act) (w : World), T w → a.tmps.size = a0.tmps.size → a.defers = a0.defers → (∀ t, t ∉ ds → a.eval (.tmp t) = a0.eval (.tmp t)) →
      AllG G (fun j => ds.getD j 0) a.eval w (List.range ops.size) → Q .normal a w) :
    (Code.region id ops true).wp P Q a0 w0 := by
  refine wp_region_any hm ?_
  unfold slotsOK at hs
  simp only [Bool.and_eq_true, beq_iff_eq, decide_eq_true_eq, List.all_eq_true] at hs
  obtain ⟨⟨⟨hs1, hs2⟩, hs3⟩, hs4⟩ := hs
  have hlen : ds.length = ops.size := by
    have := congrArg List.length hs1
    simpa using this.symm
  have hdst : ∀ i o, ops[i]? = some o → o.dst = some (ds.getD i 0) ∧ o.guard = none ∧ i < ops.size := by
    intro i o ho
    have hlt : i < ops.size := (Array.getElem?_eq_some_iff.1 ho).1
    have hol : ops.toList[i]? = some o := by rw [Array.getElem?_toList]; exact ho
    refine ⟨?_, by simpa using hs2 o (List.mem_of_getElem? hol), hlt⟩
    have h1 : (ops.toList.map (·.dst))[i]? = some o.dst := by rw [List.getElem?_map, hol]; rfl
    rw [hs1, List.getElem?_map, List.getElem?_eq_getElem (by omega)] at h1
    simp only [Option.map_some, Option.some.injEq] at h1
    rw [← h1, List.getD, List.getElem?_eq_getElem (by omega)]
    rfl
  refine wpAny_under (ds := ds) (T := T) (G := G) (a0 := a0) ?_ (stuck_all ha) ?_ ops.size _ a0 _ ?_ ?_
  · intro listed a w i hi hU
    obtain ⟨h0, o, ho, hdeps⟩ := mem_ready.1 hi
    obtain ⟨hd, hg, hlt⟩ := hdst i o ho
    have hsays := EachOp.at hops (by rw [Array.getElem?_toList]; exact ho : ops.toList[i]? = some o)
    rw [Nat.zero_add] at hsays
    have hneed : AllG G (fun j => ds.getD j 0) a.eval w (need.getD i []) := by
      refine AllG.of fun j hj => ?_
      have h1 := (List.all_eq_true.1 hn) i (List.mem_range.2 hlt)
      have h2 := (List.all_eq_true.1 h1) j hj
      simp only [ho, Option.map_some, Option.getD_some, Bool.and_eq_true, decide_eq_true_eq] at h2
      obtain ⟨e, he, hb⟩ := Array.any_eq_true'.1 h2.2
      simp only [Bool.and_eq_true, beq_iff_eq] at hb
      have h3 := hdeps e he hb.1
      rw [hb.2] at h3
      exact hU.fact j h3
    have hthen : ∀ v w', T w' ∧ Step w w' ∧ G i v w' → Under ops ds T G a0 (listed.setIfInBounds i true) (a.put o.dst v) w' := by
      rintro v w' ⟨hT', hS', hG'⟩
      have hdl : ds.getD i 0 < a.tmps.size := by
        rw [hU.size]
        have hil : i < ds.length := by omega
        have : ds.getD i 0 ∈ ds := by rw [List.getD, List.getElem?_eq_getElem hil]; exact List.getElem_mem hil
        exact hs4 _ this
      rw [hd]
      refine ⟨hT', by rw [put_size]; exact hU.size, by rw [put_defers]; exact hU.defers, by simp [hU.len], fun t ht => ?_, fun k hk => ?_⟩
      · rw [put_eval_other ?_]
        · exact hU.frame t ht
        · intro e
          apply ht
          rw [← e]
          have hil : i < ds.length := by omega
          rw [List.getD, List.getElem?_eq_getElem hil]; exact List.getElem_mem hil
      · by_cases hki : k = i
        · subst hki
          rw [put_eval_same hdl]
          exact hG'
        · have hk' : listed.getD k false = true := by rw [getD_set_ne false (fun e => hki e.symm)] at hk; exact hk
          have hkl : k < ds.length := by
            rw [hlen, ← hU.len]
            rcases Nat.lt_or_ge k listed.size with h' | h'
            · exact h'
            · simp [Array.getElem?_eq_none h'] at hk'
          have hne : ds.getD i 0 ≠ ds.getD k 0 := by
            rw [List.getD, List.getD, List.getElem?_eq_getElem (show i < ds.length by omega), List.getElem?_eq_getElem hkl]
            intro e
            exact hki ((List.getElem_inj hs3).1 e.symm)
          rw [put_eval_other hne]
          exact hkeep k _ w w' (hU.fact k hk') hS'
    unfold wpOp
    rw [ho]
    have hw : Region.wanted o (yielded ops a.tmps) = true := by unfold Region.wanted; rw [hg]
    simp only [hw, if_true]
    refine .inl ?_
    unfold Oper.wp
    rcases hsays a.eval w hU.held (fun _ => rfl) (fun _ => rfl) hU.frame hneed with ⟨v, w', hr, hp⟩ | ⟨f, args, w', hr, hp⟩
    · rw [hr, Oper.upon_value]
      exact hthen v w' hp
    · rw [hr, Oper.upon_enter]
      refine hp.mono ?_
      rintro e w'' ⟨v, rfl, hp⟩
      obtain ⟨h1, h2, h3⟩ := hp
      exact hthen v w'' ⟨h1, h2, h3⟩
  · intro listed a w hall hU
    exact hend a w hU.held hU.size hU.defers hU.frame (AllG.of fun j hj => hU.fact j (hall j (List.mem_range.1 hj)))
  · simp
  · refine ⟨hT, rfl, rfl, by simp, fun _ _ => rfl, fun i hi => ?_⟩
    exfalso
    rw [Array.getD_eq_getD_getElem?, Array.getElem?_replicate] at hi
    split at hi <;> simp at hi

/-! ### With guards, and with a tail that comes in one order -/

/-- Does an operation come about, by the Bools that are known of those who guard? -/
def wantB (gs : List (Option Bool)) (o : Oper) : Bool :=
  match o.guard with
  | none => true
  | some (g, want) => gs.getD g none == some want
def guardsOK (gs : List (Option Bool)) (ops : Array Oper) (n : Nat) : Bool :=
  (List.range n).all fun i => ((ops[i]?).map fun o => match o.guard with
    | none => true
    | some (g, _) => decide (g < n) && (gs.getD g none).isSome && o.after.any fun e => Region.binds .any e && e.on == g).getD true
/-- The slots of the first operations. -/
def slotsHead (ops : Array Oper) (m : Nat) (ds : List Nat) : Bool :=
  ((ops.toList.take ds.length).map (·.dst) == ds.map some) && ds.Nodup && ds.all (· < m)
def tailOK (ops : Array Oper) (n : Nat) : Bool :=
  decide (n ≤ ops.size) && (n == ops.size || (Region.sinkB .any ops n && Region.chainB .any ops n)) && Region.seqB .any ops (ops.size - n) n (Array.replicate n true ++ Array.replicate (ops.size - n) false)

theorem filter_zero {l : List Bool} (h : (l.filter (· == false)).length = 0) : ∀ i, i < l.length → l[i]? = some true := by
  intro i hi
  have h1 : l.filter (· == false) = [] := List.length_eq_zero_iff.1 h
  rw [List.filter_eq_nil_iff] at h1
  have h2 := h1 l[i] (by simp)
  simp only [beq_iff_eq, Bool.not_eq_false] at h2
  rw [List.getElem?_eq_getElem hi, h2]
theorem filter_pos {l : List Bool} {k : Nat} (h : (l.filter (· == false)).length = k + 1) : ∃ i : Nat, l[i]? = some false := by
  have h1 : 0 < (l.filter (· == false)).length := by omega
  obtain ⟨b, hb⟩ := List.exists_mem_of_length_pos h1
  rw [List.mem_filter] at hb
  obtain ⟨i, hi⟩ := List.getElem?_of_mem hb.1
  exact ⟨i, by rw [hi]; simpa using hb.2⟩

theorem wpAny_head {ds : List Nat} {T : World → Prop} {G : Nat → Value → World → Prop} {a0 : Act} {n : Nat} (hn : n ≤ ops.size)
    (hsink : n = ops.size ∨ (Region.sinkB .any ops n = true ∧ Region.chainB .any ops n = true))
    (hseq : Region.seqB .any ops (ops.size - n) n (Array.replicate n true ++ Array.replicate (ops.size - n) false) = true) (ha : ahead ops = true)
    (hstep : ∀ listed a w i, i < n → HeadInv .any ops n listed → i ∈ Region.ready .any ops listed → Under ops ds T G a0 listed a w → wpOp P ops Q i (fun a' w' => Under ops ds T G a0 (listed.setIfInBounds i true) a' w') a w)
    (hend : ∀ listed a w, (∀ i, i < n → listed.getD i false = true) → Under ops ds T G a0 listed a w → wpList P ops Q (ops.toList.drop n) a w) :
    ∀ (f : Nat) (listed : Array Bool) (a : Act) (w : World), ((listed.toList.take n).filter (· == false)).length = f → Under ops ds T G a0 listed a w → HeadInv .any ops n listed → wpAny P .any ops Q (f + (ops.size - n)) listed a w := by
  intro f
  induction f with
  | zero =>
    intro listed a w hf hU hI
    have hall : ∀ i, i < n → listed[i]? = some true := by
      intro i hi
      have := filter_zero hf i (by simp [hI.size]; omega)
      rw [List.getElem?_take, if_pos hi, Array.getElem?_toList] at this
      exact this
    have hcanon : listed = Array.replicate n true ++ Array.replicate (ops.size - n) false := by
      apply Array.ext
      · simp [hI.size]; omega
      · intro i h1 h2
        rcases Nat.lt_or_ge i n with h | h
        · have := hall i h
          rw [Array.getElem?_eq_getElem h1] at this
          rw [Array.getElem_append_left (by simpa using h)]
          simpa using this
        · have := hI.tail i h (by rw [← hI.size]; exact h1)
          rw [Array.getElem_append_right (by simpa using h)]
          simp [Array.getD, h1] at this
          simp [this]
    have hend' := hend listed a w (fun i hi => by
      have := hall i hi
      rw [Array.getD_eq_getD_getElem?, this]; rfl) hU
    rw [Nat.zero_add]
    have hl : (ops.toList.drop n).length = ops.size - n := by simp
    have := wpAny_of_seq (md := .any) (Q' := Q) (ops.toList.drop n) n listed a w (fun j => by rw [List.getElem?_drop, Array.getElem?_toList]) (by rw [hl, hcanon]; exact hseq) hend'
    rwa [hl] at this
  | succ f ih =>
    intro listed a w hf hU hI
    obtain ⟨i0, hi0⟩ := filter_pos hf
    have hi0n : i0 < n := by
      rcases Nat.lt_or_ge i0 n with h | h
      · exact h
      · rw [List.getElem?_take, if_neg (by omega)] at hi0; cases hi0
    rw [List.getElem?_take, if_pos hi0n, Array.getElem?_toList] at hi0
    rw [show f + 1 + (ops.size - n) = (f + (ops.size - n)) + 1 by omega]
    have hless : ∀ i ∈ Region.ready .any ops listed, i < n := by
      intro i hi
      rcases Nat.lt_or_ge i n with h | h
      · exact h
      · exfalso
        rcases hsink with h1 | ⟨h1, h2⟩
        · obtain ⟨_, o, ho, _⟩ := mem_ready.1 hi
          have := (Array.getElem?_eq_some_iff.1 ho).1
          omega
        · rcases Nat.lt_or_ge n ops.size with h3 | h3
          · exact tail_waits h1 h2 h3 hI _ i0 rfl hi0n (by rw [Array.getD_eq_getD_getElem?, hi0]; rfl) i h hi
          · obtain ⟨_, o, ho, _⟩ := mem_ready.1 hi
            have := (Array.getElem?_eq_some_iff.1 ho).1
            omega
    refine ⟨fun h => ?_, fun i hi => ?_⟩
    · have := stuck_all ha listed hI.size h i0 (by omega)
      rw [Array.getD_eq_getD_getElem?, hi0] at this
      cases this
    · have hin := hless i hi
      refine wpOp_mono (fun a' w' h' => ih _ a' w' ?_ h' (hI.set hi hin)) (hstep listed a w i hin hI hi hU)
      obtain ⟨h0, o, ho, _⟩ := mem_ready.1 hi
      have h1 : (listed.toList.take n)[i]? = some false := by
        rw [List.getElem?_take, if_pos hin, Array.getElem?_toList]
        have : i < listed.size := by rw [hI.size]; omega
        simp [Array.getD, this] at h0
        simp [this, h0]
      have := filter_set (listed.toList.take n) i h1
      rw [Array.toList_setIfInBounds, List.take_set]
      omega

/-- **A region that draws, by one fact for each operation of its head; behind it the tail in the order of the text.** -/
theorem wp_region_facts_tail {l : List Oper} {id : Nat} {a0 : Act} {w0 : World} (n : Nat) (ds : List Nat) (need : List (List Nat)) (gs : List (Option Bool)) (T : World → Prop) (Step : World → World → Prop) (G : Nat → Value → World → Prop)
    (hm : P.follows .mixedOrders = true) (hdn : ds.length = n) (hs : slotsHead l.toArray a0.tmps.size ds = true) (hn : waitsFor need l.toArray = true) (ha : ahead l.toArray = true) (hg : guardsOK gs l.toArray n = true) (ht : tailOK l.toArray n = true)
    (hT : T w0.drew) (hkeep : ∀ j v w w', G j v w → Step w w' → G j v w') (hgs : ∀ g b, gs.getD g none = some b → ∀ v w, G g v w → v = .bool b)
    (hops : EachOp 0 (l.take n) fun i o => ∀ (ev : Operand → Value) (w : World), T w → (∀ v, ev (.const v) = v) → (∀ f, ev (.func f) = .func (.func f) #[] #[]) → (∀ t, t ∉ ds → ev (.tmp t) = a0.eval (.tmp t)) →
      AllG G (fun j => ds.getD j 0) ev w (need.getD i []) → if wantB gs o = true then OpSays P o ev w (fun v w' => T w' ∧ Step w w' ∧ G i v w') else G i undef w)
    (hend : ∀ (a : Act) (w : World), T w → a.tmps.size = a0.tmps.size → a.defers = a0.defers → (∀ t, t ∉ ds → a.eval (.tmp t) = a0.eval (.tmp t)) →
      AllG G (fun j => ds.getD j 0) a.eval w (List.range n) → wpList P l.toArray Q (l.drop n) a w) :
    (Code.region id l.toArray true).wp P Q a0 w0 := by
  refine wp_region_any hm ?_
  have hsize : l.toArray.size = l.length := by simp
  unfold slotsHead at hs
  unfold tailOK at ht
  simp only [Bool.and_eq_true, Bool.or_eq_true, beq_iff_eq, decide_eq_true_eq, List.all_eq_true] at hs ht
  obtain ⟨⟨hs1, hs3⟩, hs4⟩ := hs
  obtain ⟨⟨ht1, ht2⟩, ht3⟩ := ht
  have hdst : ∀ i o, i < n → l[i]? = some o → o.dst = some (ds.getD i 0) := by
    intro i o hin ho
    have h1 : ((l.take ds.length).map (·.dst))[i]? = some o.dst := by rw [List.getElem?_map, List.getElem?_take, if_pos (by omega), ho]; rfl
    rw [hs1, List.getElem?_map, List.getElem?_eq_getElem (by omega)] at h1
    simp only [Option.map_some, Option.some.injEq] at h1
    rw [← h1, List.getD, List.getElem?_eq_getElem (by omega)]
    rfl
  have hbelow : ∀ i, i < n → ds.getD i 0 < a0.tmps.size ∧ ds.getD i 0 ∈ ds := by
    intro i hin
    have hil : i < ds.length := by omega
    have : ds.getD i 0 ∈ ds := by rw [List.getD, List.getElem?_eq_getElem hil]; exact List.getElem_mem hil
    exact ⟨hs4 _ this, this⟩
  have h0 : ((Array.replicate l.toArray.size false).toList.take n).filter (· == false) = List.replicate n false := by
    rw [Array.toList_replicate, List.take_replicate, Nat.min_eq_left ht1]
    simp
  have hmain := wpAny_head (P := P) (ops := l.toArray) (Q := Q) (ds := ds) (T := T) (G := G) (a0 := a0) (n := n) ht1 ht2 ht3 ha ?_ ?_ n (Array.replicate l.toArray.size false) a0 w0.drew (by rw [h0]; simp) ?_ ?_
  · rw [show n + (l.toArray.size - n) = l.toArray.size by omega] at hmain
    exact hmain
  · intro listed a w i hin hI hi hU
    obtain ⟨h0, o, ho, hdeps⟩ := mem_ready.1 hi
    have hol : l[i]? = some o := by simpa using ho
    have hd := hdst i o hin hol
    have hlt : i < l.toArray.size := (Array.getElem?_eq_some_iff.1 ho).1
    have hsays := EachOp.at hops (show (l.take n)[i]? = some o by rw [List.getElem?_take, if_pos hin]; exact hol)
    rw [Nat.zero_add] at hsays
    have hneed : AllG G (fun j => ds.getD j 0) a.eval w (need.getD i []) := by
      refine AllG.of fun j hj => ?_
      have h1 := (List.all_eq_true.1 hn) i (List.mem_range.2 hlt)
      have h2 := (List.all_eq_true.1 h1) j hj
      simp only [ho, Option.map_some, Option.getD_some, Bool.and_eq_true, decide_eq_true_eq] at h2
      obtain ⟨e, he, hb⟩ := Array.any_eq_true'.1 h2.2
      simp only [Bool.and_eq_true, beq_iff_eq] at hb
      have h3 := hdeps e he hb.1
      rw [hb.2] at h3
      exact hU.fact j h3
    have hput : ∀ v w', T w' → (∀ k, k ≠ i → listed.getD k false = true → G k (a.eval (.tmp (ds.getD k 0))) w') → G i v w' → (∀ k, listed.getD k false = true → k < n) → Under l.toArray ds T G a0 (listed.setIfInBounds i true) (a.put o.dst v) w' := by
      intro v w' hT' hK hG' hln
      obtain ⟨hb1, hb2⟩ := hbelow i hin
      rw [hd]
      refine ⟨hT', by rw [put_size]; exact hU.size, by rw [put_defers]; exact hU.defers, by simp [hU.len], fun t ht => ?_, fun k hk => ?_⟩
      · rw [put_eval_other (by intro e; rw [e] at hb2; exact ht hb2)]
        exact hU.frame t ht
      · by_cases hki : k = i
        · subst hki
          rw [put_eval_same (by rw [hU.size]; exact hb1)]
          exact hG'
        · have hk' : listed.getD k false = true := by rw [getD_set_ne false (fun e => hki e.symm)] at hk; exact hk
          have hkn := hln k hk'
          have hne : ds.getD i 0 ≠ ds.getD k 0 := by
            rw [List.getD, List.getD, List.getElem?_eq_getElem (show i < ds.length by omega), List.getElem?_eq_getElem (show k < ds.length by omega)]
            intro e
            exact hki ((List.getElem_inj hs3).1 e.symm)
          rw [put_eval_other hne]
          exact hK k hki hk'
    have hln : ∀ k, listed.getD k false = true → k < n := by
      intro k hk
      rcases Nat.lt_or_ge k n with h | h
      · exact h
      · exfalso
        rcases Nat.lt_or_ge k listed.size with hks | hks
        · have := hI.tail k h (by rw [← hI.size]; exact hks)
          rw [Array.getD, dif_pos hks] at this hk
          rw [this] at hk
          cases hk
        · rw [Array.getD, dif_neg (by omega)] at hk
          cases hk
    have hwanted : Region.wanted o (yielded l.toArray a.tmps) = wantB gs o := by
      unfold Region.wanted wantB
      cases hgd : o.guard with
      | none => rfl
      | some gw =>
        obtain ⟨g, want⟩ := gw
        have h1 := (List.all_eq_true.1 hg) i (List.mem_range.2 hin)
        simp only [ho, Option.map_some, Option.getD_some, hgd, Bool.and_eq_true, decide_eq_true_eq] at h1
        obtain ⟨⟨hgn, hsome⟩, hany⟩ := h1
        obtain ⟨e, he, hb⟩ := Array.any_eq_true'.1 hany
        simp only [Bool.and_eq_true, beq_iff_eq] at hb
        have h3 := hdeps e he hb.1
        rw [hb.2] at h3
        have hfact := hU.fact g h3
        obtain ⟨b, hb2⟩ := Option.isSome_iff_exists.1 hsome
        have hv := hgs g b hb2 _ _ hfact
        have hgl : g < l.length := by rw [hsize] at ht1; omega
        have hdg := hdst g l[g] hgn (List.getElem?_eq_getElem hgl)
        have hy : yielded l.toArray a.tmps g = some b := by
          unfold yielded
          have h5 : l.toArray[g]? = some l[g] := by simp [hgl]
          rw [h5]
          simp only [Option.bind_some, hdg]
          have hlt := (hbelow g hgn).1
          rw [← hU.size] at hlt
          have h6 : a.tmps[ds.getD g 0]? = some (.bool b) := by
            have hv' : a.tmps.getD (ds.getD g 0) undef = .bool b := hv
            rw [Array.getElem?_eq_getElem hlt]
            rw [Array.getD, dif_pos hlt] at hv'
            exact congrArg some hv'
          rw [h6]
        simp only
        rw [hy, hb2]
    have hfa : ∀ k, k ≠ i → listed.getD k false = true → G k (a.eval (.tmp (ds.getD k 0))) w := fun k _ hk => hU.fact k hk
    have hs := hsays a.eval w hU.held (fun _ => rfl) (fun _ => rfl) hU.frame hneed
    unfold wpOp
    rw [ho]
    simp only [hwanted]
    cases hwb : wantB gs o with
    | false =>
      rw [hwb] at hs
      simp only [Bool.false_eq_true, if_false] at hs ⊢
      exact hput undef w hU.held hfa hs hln
    | true =>
      rw [hwb] at hs
      simp only [if_true] at hs ⊢
      refine .inl ?_
      unfold Oper.wp
      rcases hs with ⟨v, w', hr, hp1, hp2, hp3⟩ | ⟨f, args, w', hr, hp⟩
      · rw [hr, Oper.upon_value]
        exact hput v w' hp1 (fun k hk hl => hkeep k _ w w' (hfa k hk hl) hp2) hp3 hln
      · rw [hr, Oper.upon_enter]
        refine hp.mono ?_
        rintro e w'' ⟨v, rfl, hp1, hp2, hp3⟩
        exact hput v w'' hp1 (fun k hk hl => hkeep k _ w w'' (hfa k hk hl) hp2) hp3 hln
  · intro listed a w hall hU
    exact hend a w hU.held hU.size hU.defers hU.frame (AllG.of fun j hj => hU.fact j (hall j (List.mem_range.1 hj)))
  · refine ⟨hT, rfl, rfl, by simp, fun _ _ => rfl, fun i hi => ?_⟩
    exfalso
    rw [Array.getD_eq_getD_getElem?, Array.getElem?_replicate] at hi
    split at hi <;> simp at hi
  · refine ⟨by simp, fun j oj hj hl => ?_, fun t ht ht' => ?_⟩
    · rw [getD_replicate_false] at hl; cases hl
    · have : t < l.length := by simpa using ht'
      simp [Array.getD, this]
end

/-- An array of so many values, written out. -/
theorem arr_eta {xs : Array Value} {n : Nat} (h : xs.size = n) : xs = ((List.range n).map fun i => xs.getD i undef).toArray := by
  apply Array.ext
  · simp [h]
  · intro i h1 h2
    simp [h1]

end Go.Proofs.Yteifehienpeaiaa
