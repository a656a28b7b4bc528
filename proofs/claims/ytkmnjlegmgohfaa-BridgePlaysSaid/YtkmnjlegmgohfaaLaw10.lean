/-
  What the laws of layer 10 share: the contract of the chapter's example.
  No conditions.
-/
import Derived.Test.YtkmnjlegmgohfaaBridgeTake
import Derived.Test.YtkmnjlegmgohfaaLists
import Derived.Test.YtkmnjlegmgohfaaAmong
set_option linter.unusedVariables false
set_option linter.unusedSimpArgs false
namespace Go.Proofs.Ytkmnjlegmgohfaa
open Go.RowKit

theorem OwnL.slice {w : World} {base : Nat} {v : Value} {l : List Int} (h : OwnL w base v l) (hs : l.length ≤ 1099511627776) : ∃ a cap, v = .slice a l.length cap ∧ ListAt w a cap l ∧ ∀ ad : Addr, a = some ad → base ≤ ad.block := by
  obtain ⟨h1, h2⟩ := h
  rcases h2 with ⟨rfl, h0⟩ | ⟨g, cap, cur, rfl, hb, hg, hc, hm, hz, ht⟩
  · have : l = [] := List.eq_nil_of_length_eq_zero h0
    subst this
    exact ⟨none, 0, rfl, ListAt.nil w, fun ad e => by cases e⟩
  · exact ⟨some ⟨g, 0, none⟩, cap, rfl, ListAt.block hg hc hs (by rw [Nat.mul_one] at ht; exact ht), fun ad e => by cases e; exact hb⟩

theorem BOk.took {s : BS} (h : BOk s) (f p : Int) {now : Int} (h1 : s.now ≤ now) (h2 : now ≤ 1099511627776) : BOk (s.took f p now) := (h.tick h1 h2).learn f p

theorem BOk.new {p a r : Int} (h1 : 1 ≤ p) (h2 : p ≤ 16) (h3 : 1 ≤ a) (h4 : a ≤ 1048576) (h5 : 1 ≤ r) (h6 : r ≤ 1024) : BOk ⟨p, a, r, 0, []⟩ :=
  ⟨h1, h2, h3, h4, h5, h6, by show (0 : Int) ≤ 0; omega, by show (0 : Int) ≤ _; omega, fun q hq => by cases hq⟩

theorem works_any (w : World) : Calls Try.prog 8 #[] w fun e w' => e = .returned (.bool true) ∧ Only (fun _ => False) w w' := by
  go_enter Try.func8, Try.ntmps8
  go_wp2_with fail
  refine (new_good 3 10 9 _ (by omega) (by omega) (by omega) (by omega) (by omega) (by omega)).mono ?_
  rintro e w1 ⟨rfl, hb1, hk1⟩
  have o1 := BOk.new (p := 3) (a := 10) (r := 9) (by omega) (by omega) (by omega) (by omega) (by omega) (by omega)
  have hS : ∀ i, i < w.heap.size → (i = w.heap.size ∨ i = w.heap.size + 1) → False := fun i h1 h2 => by omega
  have hc0 : w.heap.size ≤ w.heap.size + 1 := by omega
  have hsz1 : w.heap.size + 1 < w1.heap.size := heap_lt hb1.1
  go_wp2_with fail
  refine (take_ok _ w.heap.size (w.heap.size + 1) _ 0 6 5 2048 1 _ hb1 o1 (by show (0 : Int) ≤ 0 ∧ (0 : Int) < 3; omega) (by show (0 : Int) ≤ 1; omega) (by omega) ⟨⟨by omega, by omega⟩, ⟨by omega, by omega⟩, by decide, by omega, by omega, by decide⟩).mono ?_
  rintro e w2 ⟨v, rfl, hl, hb2, hk2⟩
  have e1 : (⟨3, 10, 9, 0, []⟩ : BS).took 5 0 1 = ⟨3, 10, 9, 1, [(5, 0, 1)]⟩ := rfl
  have o2 := o1.took 5 0 (now := 1) (by show (0 : Int) ≤ 1; omega) (by omega)
  rw [e1] at hb2 o2 hl
  have e2 : roads 0 (groupB 6) ((⟨3, 10, 9, 1, [(5, 0, 1)]⟩ : BS).find 6 1).isSome (((⟨3, 10, 9, 1, [(5, 0, 1)]⟩ : BS).find 6 1).getD 0) (3 : Int).toNat = [1, 2] := rfl
  rw [show roads 0 (groupB 6) ((⟨3, 10, 9, 1, [(5, 0, 1)]⟩ : BS).find 6 1).isSome (((⟨3, 10, 9, 1, [(5, 0, 1)]⟩ : BS).find 6 1).getD 0) ((⟨3, 10, 9, 0, []⟩ : BS).ports).toNat = [1, 2] from e2] at hl
  have hK2 : Only (fun _ => False) w w2 := hk1.then hk2 (fun i h1 h2 => hS i h1 h2)
  obtain ⟨a1, cap1, rfl, hl1, hn1⟩ := hl.slice (by decide)
  clear hl hk1 hk2
  go_wp2_with fail
  refine (take_ok _ w.heap.size (w.heap.size + 1) _ 2 5 6 2048 2 _ hb2 o2 (by show (0 : Int) ≤ 2 ∧ (2 : Int) < 3; omega) (by show (1 : Int) ≤ 2; omega) (by omega) ⟨⟨by omega, by omega⟩, ⟨by omega, by omega⟩, by decide, by omega, by omega, by decide⟩).mono ?_
  rintro e w3 ⟨v, rfl, hl, hb3, hk3⟩
  have e3 : (⟨3, 10, 9, 1, [(5, 0, 1)]⟩ : BS).took 6 2 2 = ⟨3, 10, 9, 2, [(5, 0, 1), (6, 2, 2)]⟩ := rfl
  rw [e3] at hl
  rw [show roads 2 (groupB 5) ((⟨3, 10, 9, 2, [(5, 0, 1), (6, 2, 2)]⟩ : BS).find 5 2).isSome (((⟨3, 10, 9, 2, [(5, 0, 1), (6, 2, 2)]⟩ : BS).find 5 2).getD 0) ((⟨3, 10, 9, 1, [(5, 0, 1)]⟩ : BS).ports).toNat = [0] from rfl] at hl
  have hK3 : Only (fun _ => False) w w3 := hK2.then hk3 (fun i h1 h2 => hS i h1 h2)
  obtain ⟨a2, cap2, rfl, hl2, hn2⟩ := hl.slice (by decide)
  have hl1' : ListAt w3 a1 cap1 [1, 2] := by
    refine ⟨hl1.le, hl1.small, fun i hi => ?_⟩
    obtain ⟨ad, e, hs, hc⟩ := hl1.at_ i hi
    refine ⟨ad, e, hs, ?_⟩
    have hb := World.block_lt_of_cell? w2 _ hc
    rw [World.cell?_of_block (w := w2) (w' := w3) (a := ⟨ad.block, ad.off + i, none⟩) (hk3.block ad.block hb (fun h => ?_))]
    · exact hc
    · have := hn1 ad e; omega
  clear hl hk3 hl1
  go_wp2_with fail
  have hA : ListAt (w3.alloc (.cells #[.int .i64 1, .int .i64 2] 3)) (some ⟨w3.heap.size, 0, none⟩) 2 [1, 2] := ListAt.block (blk_new w3 _) (by decide) (by decide) rfl
  have hk4 := (Only.refl (fun _ => False) w3).alloc (.cells #[.int .i64 1, .int .i64 2] 3)
  refine (same_ints _ a1 (some ⟨w3.heap.size, 0, none⟩) cap1 2 [1, 2] [1, 2] (hl1'.only hk4 (fun _ _ h => h)) hA).mono ?_
  rintro e w5 ⟨rfl, hk5⟩
  rw [show (([1, 2] : List Int) == [1, 2]) = true from rfl]
  have hl2' := (hl2.only hk4 (fun _ _ h => h)).only hk5 (fun _ _ h => h)
  have hK5 := (hK3.trans hk4).trans hk5
  clear hA hl1' hk4 hk5 hl2
  go_wp2_with fail
  have hA : ListAt (w5.alloc (.cells #[.int .i64 0] 3)) (some ⟨w5.heap.size, 0, none⟩) 1 [0] := ListAt.block (blk_new w5 _) (by decide) (by decide) rfl
  have hk4 := (Only.refl (fun _ => False) w5).alloc (.cells #[.int .i64 0] 3)
  refine (same_ints _ a2 (some ⟨w5.heap.size, 0, none⟩) cap2 1 [0] [0] (hl2'.only hk4 (fun _ _ h => h)) hA).mono ?_
  rintro e w6 ⟨rfl, hk6⟩
  rw [show (([0] : List Int) == [0]) = true from rfl]
  go_wp2_with fail
  go_ret
  exact ⟨rfl, (hK5.trans hk4).trans hk6⟩

end Go.Proofs.Ytkmnjlegmgohfaa
