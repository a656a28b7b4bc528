/-
  made and right of the law ChannelBrings.
  Conditions: lists of at most a million.
-/
import Derived.Test.YteifehienpeaiaaPair
import Derived.Deep.QuietTactic
set_option linter.unusedVariables false
set_option linter.unusedSimpArgs false
set_option maxRecDepth 100000
namespace Go.Proofs.Yteifehienpeaiaa
open Go.RowKit

def newEnd (room mark : Int) : CS := ⟨room, 4, 6, 7, 3, mark, 0, 0, 0, 0, 0, 0, 0, 0, [], []⟩
def newPS (room : Int) : PS := ⟨fun k => newEnd room k, fun _ => [], 0⟩

set_option maxHeartbeats 4000000 in
theorem made_any (W : World) (room : Int) (hr : 1 ≤ room ∧ room ≤ 64) :
    Calls Try.prog 23 #[.int .i64 room] W fun e w' => ∃ (p : Nat) (g mo me : Nat → Nat) (rv : Nat → Value), e = .returned (.pointer (some ⟨p, 0, none⟩)) ∧ PAt W w' 6 p g mo me rv (newPS room) := by
  obtain ⟨r1, r2⟩ := hr
  have hO := (Only.refl (fun _ => False) W).alloc (.cells #[Value.pointer none, Value.pointer none, Value.slice none 0 0, Value.slice none 0 0, Value.slice none 0 0, Value.slice none 0 0, Value.slice none 0 0, Value.slice none 0 0, Value.int IntKind.i64 0] 55)
  have hx := blk_new W (.cells #[Value.pointer none, Value.pointer none, Value.slice none 0 0, Value.slice none 0 0, Value.slice none 0 0, Value.slice none 0 0, Value.slice none 0 0, Value.slice none 0 0, Value.int IntKind.i64 0] 55)
  have hs0 : (W.alloc (.cells #[Value.pointer none, Value.pointer none, Value.slice none 0 0, Value.slice none 0 0, Value.slice none 0 0, Value.slice none 0 0, Value.slice none 0 0, Value.slice none 0 0, Value.int IntKind.i64 0] 55)).heap.size = W.heap.size + 1 := by rw [World.size_alloc]
  go_enter Try.func23, Try.ntmps23
  go_wp2_with fail
  refine wp_loop_rounds 3 ?_
  rw [rounds_succ]
  generalize W.alloc (.cells #[Value.pointer none, Value.pointer none, Value.slice none 0 0, Value.slice none 0 0, Value.slice none 0 0, Value.slice none 0 0, Value.slice none 0 0, Value.slice none 0 0, Value.int IntKind.i64 0] 55) = w0 at hO hx hs0 ⊢
  obtain ⟨p, hp⟩ : ∃ p, p = W.heap.size := ⟨_, rfl⟩
  rw [← hp] at hx hs0 ⊢
  have HP := Lib.hid hp
  clear hp
  go_wp2_with fail
  refine (end_new _ room 4 6 7 3 0 0 ⟨r1, r2⟩ (by decide) (by decide) (by decide) (by decide) (by decide) (by decide)).mono ?_
  rintro e w1 ⟨g0, mo0, me0, rfl, h0, a0, a1, a2, hk1⟩
  have hx1 := hk1.at hx (fun h => h)
  have f0 := blk_free hx1 0
  have x0 := (blk_cell hx1 0).trans (show _ = some (.pointer none) from rfl)
  have hx2 := (blk_set hx1 0 (.pointer (some ⟨g0, 0, none⟩))).trans rfl
  have hks := (Only.refl (fun k => k = p) w1).setCell ⟨p, 0, none⟩ (.pointer (some ⟨g0, 0, none⟩)) (fun _ => rfl)
  have h0' := h0.only hks (fun k hf e => foot_pair h0 hx1 (e ▸ hf))
  have hsz1 := hk1.size
  have hsz2 := hks.size
  have H0 := Lib.hid h0'
  have hO1 : Only (fun k => k = p) w0 (w1.setCell ⟨p, 0, none⟩ (.pointer (some ⟨g0, 0, none⟩))) := (hk1.mono (fun _ _ h => h.elim)).trans hks
  clear h0 h0' hk1 hks hx1
  go_wp2_with fail
  rw [rounds_succ]
  generalize w1.setCell ⟨p, 0, none⟩ (.pointer (some ⟨g0, 0, none⟩)) = w2 at hx2 hsz2 H0 hO1 ⊢
  clear f0 x0
  go_wp2_with fail
  refine (end_new _ room 4 6 7 3 1 0 ⟨r1, r2⟩ (by decide) (by decide) (by decide) (by decide) (by decide) (by decide)).mono ?_
  rintro e w3 ⟨g1, mo1, me1, rfl, h1, b0, b1, b2, hk3⟩
  have hx3 := hk3.at hx2 (fun h => h)
  have f1 := blk_free hx3 1
  have x1 := (blk_cell hx3 1).trans (show _ = some (.pointer none) from rfl)
  have hx4 := (blk_set hx3 1 (.pointer (some ⟨g1, 0, none⟩))).trans rfl
  have hks := (Only.refl (fun k => k = p) w3).setCell ⟨p, 1, none⟩ (.pointer (some ⟨g1, 0, none⟩)) (fun _ => rfl)
  have h1' := h1.only hks (fun k hf e => foot_pair h1 hx3 (e ▸ hf))
  have h03 := H0.out.keep hk3
  have h04 := h03.only hks (fun k hf e => foot_pair h03 hx3 (e ▸ hf))
  have hsz3 := hk3.size
  have hsz4 := hks.size
  have hlt := H0.out.lt
  have H1 := Lib.hid h1'
  have H04 := Lib.hid h04
  have hO4 : Only (fun k => k = p) w0 (w3.setCell ⟨p, 1, none⟩ (.pointer (some ⟨g1, 0, none⟩))) := (hO1.then hk3 (fun _ _ h => h.elim)).trans hks
  have HLT := Lib.hid hlt
  clear h1 h1' h03 h04 hk3 hks hx3 hx2 H0 hO1 hlt
  go_wp2_with fail
  rw [rounds_succ]
  generalize w3.setCell ⟨p, 1, none⟩ (.pointer (some ⟨g1, 0, none⟩)) = w4 at hx4 hsz4 H04 H1 hO4 ⊢
  clear f1 x1
  go_wp2_with fail
  go_ret
  refine ⟨p, put (fun _ => g1) 0 g0, put (fun _ => mo1) 0 mo0, put (fun _ => me1) 0 me0, fun _ => .slice none 0 0, rfl, ⟨hx4, fun j hj => ?_, fun k k0 k1 => ?_, fun i hi _ => World.ownsRow_nil _ _ _ _, fun i j _ _ _ _ _ b hb => (by cases hb), fun j hj k hf => ?_, by have := HP.out; omega, hO.then hO4 (fun k h1 h2 => by have := HP.out; omega)⟩⟩
  · have : j = 0 ∨ j = 1 := by omega
    rcases this with rfl | rfl
    · exact H04.out
    · exact H1.out
  · have h2 : k < w2.heap.size := HLT.out k k0
    replace k1 : Foot g1 mo1 me1 [] k := k1
    rcases k1 with rfl | rfl | rfl | ⟨x, hx, _⟩
    · omega
    · omega
    · omega
    · cases hx
  · have hp := HP.out
    have : j = 0 ∨ j = 1 := by omega
    rcases this with rfl | rfl
    · replace hf : Foot g0 mo0 me0 [] k := hf
      rcases hf with rfl | rfl | rfl | ⟨x, hx, _⟩
      · omega
      · omega
      · omega
      · cases hx
    · replace hf : Foot g1 mo1 me1 [] k := hf
      rcases hf with rfl | rfl | rfl | ⟨x, hx, _⟩
      · omega
      · omega
      · omega
      · cases hx

/-- What was brought is a beginning of what was given. -/
def RightOk (S : PS) : Prop := (∃ n, S.L 4 = (S.L 3).take n ∧ n ≤ (S.L 3).length) ∧ (∃ n, S.L 5 = (S.L 2).take n ∧ n ≤ (S.L 2).length)

theorem TextsAt.take {w : World} {a : Option Addr} {L : List ByteArray} (h : TextsAt w a L) (n : Nat) : TextsAt w a (L.take n) := fun i hi => by
  rw [List.length_take] at hi
  obtain ⟨blk, e1, e2, e3⟩ := h i (by omega)
  refine ⟨blk, e1, e2, ?_⟩
  rw [e3, List.getD_eq_getElem?_getD, List.getD_eq_getElem?_getD, List.getElem?_take, if_pos (by omega)]
theorem same_prefix (w : World) (a b : Option Addr) (ca cb n : Nat) (L M : List ByteArray) (ha : TextsAt w a L) (hb : TextsAt w b M) (he : L = M.take n) (hn : n ≤ M.length) (hm : M.length ≤ 1000000) :
    Calls Try.prog 55 #[.slice a n ca, .slice b n cb] w fun e w' => e = .returned (.bool true) ∧ Only (fun _ => False) w w' := by
  have hl : L.length = n := by rw [he, List.length_take]; omega
  have h := same_texts w a b ca cb L (by omega) ha (he ▸ hb.take n)
  rw [hl] at h
  exact h

set_option maxHeartbeats 4000000 in
theorem right_true (W w : World) (p : Nat) (g mo me : Nat → Nat) (rv : Nat → Value) (S : PS) (h : PAt W w 6 p g mo me rv S) (hR : RightOk S) (hl : ∀ i, i < 6 → (S.L i).length ≤ 1000000) :
    Calls Try.prog 27 #[.pointer (some ⟨p, 0, none⟩)] w fun e w' => e = .returned (.bool true) ∧ Only (fun _ => False) w w' := by
  obtain ⟨⟨n0, h40, hn0⟩, ⟨n1, h51, hn1⟩⟩ := hR
  have l4 : (S.L 4).length = n0 := by rw [h40, List.length_take]; omega
  have l5 : (S.L 5).length = n1 := by rw [h51, List.length_take]; omega
  obtain ⟨a4, c4, e4, b4, t4⟩ := row_texts (h.rows 4 (by decide) (by decide))
  obtain ⟨a5, c5, e5, b5, t5⟩ := row_texts (h.rows 5 (by decide) (by decide))
  obtain ⟨a2, c2, e2, b2, t2⟩ := row_texts (h.rows 2 (by decide) (by decide))
  obtain ⟨a3, c3, e3, b3, t3⟩ := row_texts (h.rows 3 (by decide) (by decide))
  have x4 := h.cRow (i := 4) (by decide)
  have x5 := h.cRow (i := 5) (by decide)
  have x2 := h.cRow (i := 2) (by decide)
  have x3 := h.cRow (i := 3) (by decide)
  rw [e4, l4] at x4
  rw [e5, l5] at x5
  rw [e2] at x2
  rw [e3] at x3
  simp only [Nat.reduceAdd] at x4 x5 x2 x3
  have m2 := hl 2 (by decide)
  have m3 := hl 3 (by decide)
  have H := Lib.hid h
  have T := Lib.hid (And.intro t4 (And.intro t5 (And.intro t2 (And.intro t3 (And.intro h40 (And.intro h51 (And.intro l4 l5)))))))
  clear h hl h40 h51 e4 e5 e2 e3 t4 t5 t2 t3 l4 l5 b4 b5
  generalize hN2 : (S.L 2).length = N2 at *
  generalize hN3 : (S.L 3).length = N3 at *
  have HN := Lib.hid (And.intro hN2 hN3)
  clear hN2 hN3
  go_enter Try.func27, Try.ntmps27
  go_wp2_with fail
  refine wp_loop_rounds 3 ?_
  rw [rounds_succ]
  go_wp2_with fail
  go_quiet (fail)
  go_wp2_with fail
  refine (same_prefix _ a4 a3 c4 c3 n0 (S.L 4) (S.L 3) (T.out.1.keep ((Only.refl _ w).drewN nq)) (T.out.2.2.2.1.keep ((Only.refl _ w).drewN nq)) T.out.2.2.2.2.1 (by rw [HN.out.2]; exact hn0) (by rw [HN.out.2]; exact m3)).mono ?_
  rintro e w2 ⟨rfl, hk2⟩
  have hO2 : Only (fun _ => False) w w2 := ((Only.refl _ w).drewN nq).trans hk2
  have y5 := cell_only hO2 (fun h => h) x5
  have y2 := cell_only hO2 (fun h => h) x2
  have T5 := T.out.2.1.keep hO2
  have T2 := T.out.2.2.1.keep hO2
  have HT := Lib.hid (And.intro T5 T2)
  clear x4 x5 x2 x3 hk2 T5 T2
  go_wp2_with fail
  rw [rounds_succ]
  go_wp2_with fail
  go_quiet (fail)
  go_wp2_with fail
  refine (same_prefix _ a5 a2 c5 c2 n1 (S.L 5) (S.L 2) (HT.out.1.keep ((Only.refl _ w2).drewN _)) (HT.out.2.keep ((Only.refl _ w2).drewN _)) T.out.2.2.2.2.2.1 (by rw [HN.out.1]; exact hn1) (by rw [HN.out.1]; exact m2)).mono ?_
  rintro e w3 ⟨rfl, hk3⟩
  have HO3 := Lib.hid (show Only (fun _ => False) w w3 from (hO2.trans ((Only.refl _ w2).drewN _)).trans hk3)
  clear hk3 y5 y2
  go_wp2_with fail
  rw [rounds_succ]
  go_wp2_with fail
  go_ret
  exact ⟨rfl, HO3.out⟩

end Go.Proofs.Yteifehienpeaiaa
