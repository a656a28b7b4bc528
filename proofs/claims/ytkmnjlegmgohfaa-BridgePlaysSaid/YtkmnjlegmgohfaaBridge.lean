/-
  The contracts of package bridge.
  Conditions: numbers are of the kind int, the bridge's own in their bounds.
-/
import Derived.Test.YtkmnjlegmgohfaaMaps
set_option linter.unusedVariables false
set_option linter.unusedSimpArgs false
namespace Go.Proofs.Ytkmnjlegmgohfaa
open Go.RowKit
attribute [local go_sem] max_ii min_ii min_iii

def heardV (h : Int × Int) : Value := .agg #[.int .i64 h.1, .int .i64 h.2]
def encH (L : List (Int × Int × Int)) : List (Int × Value) := L.map (fun p => (p.1, heardV p.2))

/-- A bridge's state: ports, age, room, now, what it has heard. -/
structure BS where
  ports : Int
  age : Int
  room : Int
  now : Int
  L : List (Int × Int × Int)

def BridgeAt (w : World) (c g : Nat) (s : BS) : Prop :=
  w.heap[g]? = some (.cells #[.int .i64 s.ports, .int .i64 s.age, .int .i64 s.room, .int .i64 s.now, .map (some c)] 58 (0, 0)) ∧ MapI w c (encH s.L) ∧ c ≠ g

theorem und_map : Try.prog.underlying 56 = some (.map 3 62) := by kernel_rfl
theorem und_int : Try.prog.underlying 3 = some (.int .i64) := by kernel_rfl
theorem zero_heard (w : World) : (zeroValue 62).run Try.prog w = .ok (heardV (0, 0)) w := by kernel_rfl

theorem new_good (p a r : Int) (w : World) (h1 : 1 ≤ p) (h2 : p ≤ 16) (h3 : 1 ≤ a) (h4 : a ≤ 1048576) (h5 : 1 ≤ r) (h6 : r ≤ 1024) : Calls Try.prog 7 #[.int .i64 p, .int .i64 a, .int .i64 r] w fun e w' => e = .returned (.tuple #[.pointer (some ⟨w.heap.size + 1, 0, none⟩), .int .i64 0]) ∧ BridgeAt w' w.heap.size (w.heap.size + 1) ⟨p, a, r, 0, []⟩ ∧ Only (fun _ => False) w w' := by
  have hm : ¬ mn (mn p a) r < 1 := by unfold mn; omega
  have hmm := @run_makeMap Try.prog
  go_enter Try.func7, Try.ntmps7
  go_wp2_with fail
  go_ret2
  exact ⟨rfl, ⟨blk_new2 w _ _, (MapI.made w).at (Below.heap_alloc _ _ _ (by simp)), by omega⟩, ((Only.refl _ w).alloc _).alloc _⟩

theorem old_blk (s : BS) (c g : Nat) (w : World) (h : Int × Int) (now : Int) (hg : w.heap[g]? = some (.cells #[.int .i64 s.ports, .int .i64 s.age, .int .i64 s.room, .int .i64 s.now, .map (some c)] 58 (0, 0))) (ha : 0 ≤ s.age) (ha2 : s.age ≤ 1048576) (h0 : 0 ≤ h.2) (h1 : h.2 ≤ 1099511627776) :
    Calls Try.prog 26 #[.pointer (some ⟨g, 0, none⟩), (.agg #[.int .i64 h.1, .int .i64 h.2]), .int .i64 now] w fun e w' => e = .returned (.bool (decide (h.2 + s.age ≤ now))) ∧ Only (fun _ => False) w w' := by
  have x1 := blk_cell hg 1
  simp only [List.getElem?_toArray, List.getElem?_cons_zero, List.getElem?_cons_succ] at x1
  have hO := (Only.refl (fun _ => False) w).alloc (.cells #[.int .i64 h.1, .int .i64 h.2] 62)
  have hz := blk_new w (.cells #[.int .i64 h.1, .int .i64 h.2] 62)
  have z1 := blk_cell hz 1
  simp only [List.getElem?_toArray, List.getElem?_cons_zero, List.getElem?_cons_succ] at z1
  have y1 : (w.alloc (.cells #[.int .i64 h.1, .int .i64 h.2] 62)).cell? ⟨g, 1, none⟩ = some (.int .i64 s.age) := cell_only ((Only.refl (fun _ => False) w).alloc _) (fun h => h) x1
  clear x1
  go_enter Try.func26, Try.ntmps26
  go_wp2_with fail
  generalize w.alloc (.cells #[.int .i64 h.1, .int .i64 h.2] 62) = wa at z1 y1 hO ⊢
  go_quiet (fail)
  go_wp2_with fail
  go_ret
  exact ⟨rfl, hO.drewN _⟩

theorem old_any (s : BS) (c g : Nat) (w : World) (h : Int × Int) (now : Int) (hb : BridgeAt w c g s) (ha : 0 ≤ s.age) (ha2 : s.age ≤ 1048576) (h0 : 0 ≤ h.2) (h1 : h.2 ≤ 1099511627776) :
    Calls Try.prog 26 #[.pointer (some ⟨g, 0, none⟩), heardV h, .int .i64 now] w fun e w' => e = .returned (.bool (decide (h.2 + s.age ≤ now))) ∧ Only (fun _ => False) w w' := old_blk s c g w h now hb.1 ha ha2 h0 h1

theorem portno_any (s : BS) (c g : Nat) (w : World) (p : Int) (hb : BridgeAt w c g s) : Calls Try.prog 23 #[.pointer (some ⟨g, 0, none⟩), .int .i64 p] w fun e w' => e = .returned (.int .i64 (if 0 ≤ p ∧ p < s.ports then 0 else 100)) ∧ w = w' := by
  have x0 := blk_cell hb.1 0
  simp only [List.getElem?_toArray, List.getElem?_cons_zero, List.getElem?_cons_succ] at x0
  clear hb
  by_cases h0 : 0 ≤ p
  · by_cases h1 : p < s.ports
    · have d1 : decide (s.ports ≤ p) = false := by simp; omega
      rw [if_pos ⟨h0, h1⟩]
      clear h1
      go_enter Try.func23, Try.ntmps23
      go_wp2_with fail
      go_ret
      exact ⟨rfl, rfl⟩
    · have d1 : decide (s.ports ≤ p) = true := by simp; omega
      rw [if_neg (fun h => h1 h.2)]
      clear h1
      go_enter Try.func23, Try.ntmps23
      go_wp2_with fail
      go_ret
      exact ⟨rfl, rfl⟩
  · rw [if_neg (fun h => h0 h.1)]
    go_enter Try.func23, Try.ntmps23
    go_wp2_with fail
    go_ret
    exact ⟨rfl, rfl⟩

def lookH (L : List (Int × Int × Int)) (a : Int) : Option (Int × Int) := (L.find? (fun p => p.1 == a)).map (·.2)

theorem getI_encH (a : Int) : ∀ L : List (Int × Int × Int), getI (encH L) a = (lookH L a).map heardV
  | [] => rfl
  | p :: L => by
    have ih := getI_encH a L
    unfold getI lookH encH at ih ⊢
    simp only [List.map_cons, List.find?_cons]
    cases hp : p.1 == a with
    | true => rfl
    | false => exact ih

theorem lookH_mem {L : List (Int × Int × Int)} {a : Int} {h : Int × Int} (e : lookH L a = some h) : (a, h) ∈ L := by
  unfold lookH at e
  cases hf : L.find? (fun p => p.1 == a) with
  | none => rw [hf] at e; cases e
  | some p =>
    rw [hf] at e
    have h1 := List.mem_of_find?_eq_some hf
    have h2 := List.find?_some hf
    simp only [beq_iff_eq] at h2
    simp only [Option.map_some, Option.some.injEq] at e
    rw [← h2, ← e]; exact h1

structure BOk (s : BS) : Prop where
  p1 : 1 ≤ s.ports
  p2 : s.ports ≤ 16
  a1 : 1 ≤ s.age
  a2 : s.age ≤ 1048576
  r1 : 1 ≤ s.room
  r2 : s.room ≤ 1024
  n1 : 0 ≤ s.now
  n2 : s.now ≤ 1099511627776
  at0 : ∀ p ∈ s.L, 0 ≤ p.2.2 ∧ p.2.2 ≤ s.now

/-- The port of an address, if it is known. -/
def BS.find (s : BS) (a now : Int) : Option Int :=
  match lookH s.L a with
  | none => none
  | some h => if h.2 + s.age ≤ now then none else some h.1

theorem BridgeAt.only {w w' : World} {c g : Nat} {s : BS} (h : BridgeAt w c g s) (hk : Only (fun _ => False) w w') : BridgeAt w' c g s :=
  ⟨hk.at h.1 (fun h => h), h.2.1.only hk (fun h => h), h.2.2⟩

theorem port_any (s : BS) (c g : Nat) (w : World) (a now : Int) (hb : BridgeAt w c g s) (ho : BOk s) : Calls Try.prog 14 #[.pointer (some ⟨g, 0, none⟩), .int .i64 a, .int .i64 now] w fun e w' => e = .returned (.tuple #[.int .i64 ((s.find a now).getD 0), .bool (s.find a now).isSome]) ∧ Only (fun _ => False) w w' := by
  have x4 := blk_cell hb.1 4
  simp only [List.getElem?_toArray, List.getElem?_cons_zero, List.getElem?_cons_succ] at x4
  have hm := hb.2.1
  cases hl : lookH s.L a with
  | none =>
    have hg : getI (encH s.L) a = none := by rw [getI_encH, hl]; rfl
    have hf : s.find a now = none := by unfold BS.find; rw [hl]
    rw [hf]
    clear hf hl
    have HB := Lib.hid hb
    clear hb
    go_enter Try.func14, Try.ntmps14
    go_wp2_with (at_lookup; refine wpList_look_I _ rfl _ _ 56 true rfl 3 62 und_map und_int _ (zero_heard _) c _ rfl hm _ rfl ?_; rw [hg]; simp only [if_true, Option.getD_none, Option.isSome_none, heardV])
    go_ret2
    exact ⟨rfl, (Only.refl _ w).alloc _⟩
  | some h =>
    have hg : getI (encH s.L) a = some (heardV h) := by rw [getI_encH, hl]; rfl
    have hat := ho.at0 _ (lookH_mem hl)
    have hn2 := ho.n2
    have hf : s.find a now = if h.2 + s.age ≤ now then none else some h.1 := by unfold BS.find; rw [hl]
    have HO := Lib.hid (Only.refl (fun _ => False) w)
    have HB := Lib.hid hb
    have ha1 := ho.a1
    have ha2 := ho.a2
    have hz := blk_new w (.cells #[.int .i64 h.1, .int .i64 h.2] 62)
    have z0 := blk_cell hz 0
    have z1 := blk_cell hz 1
    simp only [List.getElem?_toArray, List.getElem?_cons_zero, List.getElem?_cons_succ] at z0 z1
    by_cases hold : h.2 + s.age ≤ now
    · rw [hf, if_pos hold]
      have hd : decide (h.2 + s.age ≤ now) = true := by simpa using hold
      clear hf hl hold hb
      go_enter Try.func14, Try.ntmps14
      go_wp2_with (at_lookup; refine wpList_look_I _ rfl _ _ 56 true rfl 3 62 und_map und_int _ (zero_heard _) c _ rfl hm _ rfl ?_; rw [hg]; simp only [if_true, Option.getD_some, Option.isSome_some, heardV])
      refine (old_any s c g _ h now (HB.out.only (HO.out.alloc _)) (by omega) ha2 hat.1 (by omega)).mono ?_
      rintro e w1 ⟨rfl, hk⟩
      rw [hd]
      go_wp2_with fail
      go_ret2
      exact ⟨rfl, (HO.out.alloc _).trans hk⟩
    · rw [hf, if_neg hold]
      have hd : decide (h.2 + s.age ≤ now) = false := by simpa using hold
      clear hf hl hold hb
      go_enter Try.func14, Try.ntmps14
      go_wp2_with (at_lookup; refine wpList_look_I _ rfl _ _ 56 true rfl 3 62 und_map und_int _ (zero_heard _) c _ rfl hm _ rfl ?_; rw [hg]; simp only [if_true, Option.getD_some, Option.isSome_some, heardV])
      refine (old_any s c g _ h now (HB.out.only (HO.out.alloc _)) (by omega) ha2 hat.1 (by omega)).mono ?_
      rintro e w1 ⟨rfl, hk⟩
      rw [hd]
      replace z0 := cell_only hk (fun h => h) z0
      go_wp2_with fail
      go_ret2
      exact ⟨rfl, (HO.out.alloc _).trans hk⟩

def keepB (a age now : Int) (p : Int × Value) : Bool := p.1 != a && (match p.2 with | .agg #[_, .int _ t] => decide (now < t + age) | _ => true)
def keepH (a age now : Int) (p : Int × Int × Int) : Bool := p.1 != a && decide (now < p.2.2 + age)

/-- What is left of a map behind a loop that strikes what is not kept, some entries still to come. -/
def sweep (l left : List (Int × Value)) (keep : Int × Value → Bool) : List (Int × Value) := l.filter (fun p => left.any (fun q => q.1 == p.1) || keep p)

theorem sweep_start (l : List (Int × Value)) (keep : Int × Value → Bool) : sweep l l keep = l := by
  apply List.filter_eq_self.2
  intro p hp
  have : l.any (fun q => q.1 == p.1) = true := List.any_eq_true.2 ⟨p, hp, by simp⟩
  rw [this]; rfl

theorem sweep_end (l : List (Int × Value)) (keep : Int × Value → Bool) : sweep l [] keep = l.filter keep := by
  apply List.filter_congr
  intro p _
  simp

theorem nodup_keys {l : List (Int × Value)} (hn : (l.map Prod.fst).Nodup) {p q : Int × Value} (hp : p ∈ l) (hq : q ∈ l) (e : p.1 = q.1) : p = q := inj_nodup _ hn hp hq e

theorem any_del (left : List (Int × Value)) (x y : Int) : (delI left x).any (fun q => q.1 == y) = (left.any (fun q => q.1 == y) && y != x) := by
  unfold delI
  rw [List.any_filter]
  induction left with
  | nil => simp
  | cons q left ih =>
    simp only [List.any_cons]
    rw [ih]
    by_cases h1 : q.1 = y
    · subst h1
      by_cases h2 : q.1 = x
      · simp [h2]
      · simp [h2]
    · have h3 : (q.1 == y) = false := by simpa using h1
      simp [h3]

theorem sweep_drop {l left : List (Int × Value)} {keep : Int × Value → Bool} {x : Int} {v : Value} (hn : (l.map Prod.fst).Nodup) (hm : (x, v) ∈ l) (hk : keep (x, v) = false) : delI (sweep l left keep) x = sweep l (delI left x) keep := by
  unfold delI sweep
  rw [List.filter_filter]
  apply List.filter_congr
  intro p hp
  rw [show (List.filter (fun p => p.1 != x) left).any (fun q => q.1 == p.1) = _ from any_del left x p.1]
  by_cases hx : p.1 = x
  · have : p = (x, v) := nodup_keys hn hp hm hx
    subst this
    simp [hk]
  · have : (p.1 != x) = true := by simpa using hx
    simp [this]

theorem sweep_keep {l left : List (Int × Value)} {keep : Int × Value → Bool} {x : Int} {v : Value} (hn : (l.map Prod.fst).Nodup) (hm : (x, v) ∈ l) (hk : keep (x, v) = true) : sweep l left keep = sweep l (delI left x) keep := by
  unfold sweep
  apply List.filter_congr
  intro p hp
  rw [any_del left x p.1]
  by_cases hx : p.1 = x
  · have : p = (x, v) := nodup_keys hn hp hm hx
    subst this
    simp [hk]
  · have : (p.1 != x) = true := by simpa using hx
    rw [this, Bool.and_true]

end Go.Proofs.Ytkmnjlegmgohfaa
