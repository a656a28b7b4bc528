/-
  Maps of pairs of numbers: look-up, and what a loop that strikes entries leaves.
  No conditions.
-/
import Derived.Test.YthgkdfllddljcaaMaps
set_option linter.unusedVariables false
set_option linter.unusedSimpArgs false
namespace Go.Proofs.Ythgkdfllddljcaa
open Go.RowKit

def heardV (h : Int × Int) : Value := .agg #[.int .i64 h.1, .int .i64 h.2]
def encH (L : List (Int × Int × Int)) : List (Int × Value) := L.map (fun p => (p.1, heardV p.2))

def lookH (L : List (Int × Int × Int)) (a : Int) : Option (Int × Int) := (L.find? (fun p => p.1 == a)).map (·.2)

theorem getI_encH (a : Int) : ∀ L : List (Int × Int × Int), getI (encH L) a = (lookH L a).map heardV
  | [] => rfl
  | p :: L => by
    have ih := getI_encH a L
    unfold getI lookH encH at ih ⊢
    simp only [List.map_cons, List.find?_cons]
    cases hp : p.1 == a with
    | true => rfl
    | false => exact ih

theorem lookH_mem {L : List (Int × Int × Int)} {a : Int} {h : Int × Int} (e : lookH L a = some h) : (a, h) ∈ L := by
  unfold lookH at e
  cases hf : L.find? (fun p => p.1 == a) with
  | none => rw [hf] at e; cases e
  | some p =>
    rw [hf] at e
    have h1 := List.mem_of_find?_eq_some hf
    have h2 := List.find?_some hf
    simp only [beq_iff_eq] at h2
    simp only [Option.map_some, Option.some.injEq] at e
    rw [← h2, ← e]; exact h1

def keepB (a age now : Int) (p : Int × Value) : Bool := p.1 != a && (match p.2 with | .agg #[_, .int _ t] => decide (now < t + age) | _ => true)
def keepH (a age now : Int) (p : Int × Int × Int) : Bool := p.1 != a && decide (now < p.2.2 + age)

/-- What is left of a map behind a loop that strikes what is not kept, some entries still to come. -/
def sweep (l left : List (Int × Value)) (keep : Int × Value → Bool) : List (Int × Value) := l.filter (fun p => left.any (fun q => q.1 == p.1) || keep p)

theorem sweep_start (l : List (Int × Value)) (keep : Int × Value → Bool) : sweep l l keep = l := by
  apply List.filter_eq_self.2
  intro p hp
  have : l.any (fun q => q.1 == p.1) = true := List.any_eq_true.2 ⟨p, hp, by simp⟩
  rw [this]; rfl

theorem sweep_end (l : List (Int × Value)) (keep : Int × Value → Bool) : sweep l [] keep = l.filter keep := by
  apply List.filter_congr
  intro p _
  simp

theorem nodup_keys {l : List (Int × Value)} (hn : (l.map Prod.fst).Nodup) {p q : Int × Value} (hp : p ∈ l) (hq : q ∈ l) (e : p.1 = q.1) : p = q := inj_nodup _ hn hp hq e

theorem any_del (left : List (Int × Value)) (x y : Int) : (delI left x).any (fun q => q.1 == y) = (left.any (fun q => q.1 == y) && y != x) := by
  unfold delI
  rw [List.any_filter]
  induction left with
  | nil => simp
  | cons q left ih =>
    simp only [List.any_cons]
    rw [ih]
    by_cases h1 : q.1 = y
    · subst h1
      by_cases h2 : q.1 = x
      · simp [h2]
      · simp [h2]
    · have h3 : (q.1 == y) = false := by simpa using h1
      simp [h3]

theorem sweep_drop {l left : List (Int × Value)} {keep : Int × Value → Bool} {x : Int} {v : Value} (hn : (l.map Prod.fst).Nodup) (hm : (x, v) ∈ l) (hk : keep (x, v) = false) : delI (sweep l left keep) x = sweep l (delI left x) keep := by
  unfold delI sweep
  rw [List.filter_filter]
  apply List.filter_congr
  intro p hp
  rw [show (List.filter (fun p => p.1 != x) left).any (fun q => q.1 == p.1) = _ from any_del left x p.1]
  by_cases hx : p.1 = x
  · have : p = (x, v) := nodup_keys hn hp hm hx
    subst this
    simp [hk]
  · have : (p.1 != x) = true := by simpa using hx
    simp [this]

theorem sweep_keep {l left : List (Int × Value)} {keep : Int × Value → Bool} {x : Int} {v : Value} (hn : (l.map Prod.fst).Nodup) (hm : (x, v) ∈ l) (hk : keep (x, v) = true) : sweep l left keep = sweep l (delI left x) keep := by
  unfold sweep
  apply List.filter_congr
  intro p hp
  rw [any_del left x p.1]
  by_cases hx : p.1 = x
  · have : p = (x, v) := nodup_keys hn hp hm hx
    subst this
    simp [hk]
  · have : (p.1 != x) = true := by simpa using hx
    rw [this, Bool.and_true]

end Go.Proofs.Ythgkdfllddljcaa
