/-
  The contracts of the reference for layer 3.
  Conditions: strings within the form's reach.
-/
import Derived.Test.YtcopdgaidfchlaaEtherCode
import Derived.Test.YtcopdgaidfchlaaText
import Derived.Deep.RegionHeld3
set_option linter.unusedVariables false
set_option linter.unusedSimpArgs false
namespace Go.Proofs.Ytcopdgaidfchlaa
open Go.RowKit

theorem mac_ok (a : Int) (w : World) (h : MacOk a) : Calls Try.prog 22 #[.int .i64 a] w fun e w' => e = .returned (.bool true) ∧ w = w' := by
  obtain ⟨h0, h1⟩ := h
  have d1 : decide (a ≤ 281474976710655) = true := decide_eq_true h1
  go_enter Try.func22, Try.ntmps22
  go_wp2
  go_ret
  exact ⟨rfl, rfl⟩
theorem mac_bad (a : Int) (w : World) (h : ¬ MacOk a) : Calls Try.prog 22 #[.int .i64 a] w fun e w' => e = .returned (.bool false) ∧ w = w' := by
  unfold MacOk at h
  by_cases h0 : 0 ≤ a
  · have d1 : decide (a ≤ 281474976710655) = false := decide_eq_false (fun x => h ⟨h0, x⟩)
    clear h
    go_enter Try.func22, Try.ntmps22
    go_wp2
    go_ret
    exact ⟨rfl, rfl⟩
  · clear h
    go_enter Try.func22, Try.ntmps22
    go_wp2
    go_ret
    exact ⟨rfl, rfl⟩
theorem rgroup_any (a : Int) (w : World) (h : MacOk a) : Calls Try.prog 23 #[.int .i64 a] w fun e w' => e = .returned (.bool (groupB a)) ∧ w = w' := by
  obtain ⟨h0, h1⟩ := h
  have q0 : 0 ≤ a / 1099511627776 := by omega
  go_enter Try.func23, Try.ntmps23
  go_wp2
  go_ret
  exact ⟨rfl, rfl⟩
theorem rGroup_ok (a : Int) (w : World) (h : MacOk a) : Calls Try.prog 18 #[.int .i64 a] w fun e w' => e = .returned (.tuple #[.bool (groupB a), .int .i64 0]) ∧ w = w' := by
  go_enter Try.func18, Try.ntmps18
  go_wp2_with fail
  refine (mac_ok a _ h).mono ?_
  rintro e _ ⟨rfl, rfl⟩
  go_wp2_with fail
  refine (rgroup_any a _ h).mono ?_
  rintro e _ ⟨rfl, rfl⟩
  go_wp2_with fail
  go_ret2
  exact ⟨rfl, rfl⟩
theorem rGroup_bad (a : Int) (w : World) (h : ¬ MacOk a) : Calls Try.prog 18 #[.int .i64 a] w fun e w' => e = .returned (.tuple #[.bool false, .int .i64 1]) ∧ w = w' := by
  go_enter Try.func18, Try.ntmps18
  go_wp2_with fail
  refine (mac_bad a _ h).mono ?_
  rintro e _ ⟨rfl, rfl⟩
  go_wp2
  go_ret2
  exact ⟨rfl, rfl⟩

theorem rcheck_ok (t f k : Int) (d : ByteArray) (w : World) (h : FrameOk t f k d) :
    Calls Try.prog 10 #[.agg #[.int .i64 t, .int .i64 f, .int .i64 k, .string d]] w fun e w' => e = .returned (.int .i64 0) ∧ Only (fun _ => False) w w' := by
  obtain ⟨h1, h2, h3, h4, h5, h6⟩ := h
  have H1 := Lib.hid h1
  have H2 := Lib.hid h2
  have H3 := Lib.hid h3
  clear h1 h2 h3
  go_enter Try.func10, Try.ntmps10
  go_wp2_with fail
  refine (mac_ok t _ H1.out).mono ?_
  rintro e _ ⟨rfl, rfl⟩
  go_wp2_with fail
  refine (mac_ok f _ H2.out).mono ?_
  rintro e _ ⟨rfl, rfl⟩
  go_wp2_with fail
  refine (rgroup_any f _ H2.out).mono ?_
  rintro e _ ⟨rfl, rfl⟩
  rw [H3.out]
  go_wp2_with fail
  go_ret
  exact ⟨rfl, (Only.refl _ _).alloc _⟩

theorem rcheck_bad (t f k : Int) (d : ByteArray) (w : World) (h : ¬ FrameOk t f k d) :
    Calls Try.prog 10 #[.agg #[.int .i64 t, .int .i64 f, .int .i64 k, .string d]] w fun e w' => e = .returned (.int .i64 30) ∧ Only (fun _ => False) w w' := by
  have H := Lib.hid h
  clear h
  go_enter Try.func10, Try.ntmps10
  go_wp2_with fail
  by_cases ht : MacOk t
  · refine (mac_ok t _ ht).mono ?_
    rintro e _ ⟨rfl, rfl⟩
    have Ht := Lib.hid ht
    clear ht
    go_wp2_with fail
    by_cases hf : MacOk f
    · refine (mac_ok f _ hf).mono ?_
      rintro e _ ⟨rfl, rfl⟩
      have Hf := Lib.hid hf
      clear hf
      go_wp2_with fail
      refine (rgroup_any f _ Hf.out).mono ?_
      rintro e _ ⟨rfl, rfl⟩
      cases hg : groupB f with
      | true =>
        clear hg
        go_wp2_with fail
        go_ret
        exact ⟨rfl, (Only.refl _ _).alloc _⟩
      | false =>
        have Hg := Lib.hid hg
        clear hg
        by_cases c1 : k < 1536
        · go_wp2_with fail
          go_ret
          exact ⟨rfl, (Only.refl _ _).alloc _⟩
        · by_cases c2 : 65535 < k
          · go_wp2_with fail
            go_ret
            exact ⟨rfl, (Only.refl _ _).alloc _⟩
          · have c3 : 1500 < d.size := by
              rcases Nat.lt_or_ge 1500 d.size with h | h
              · exact h
              · exact (H.out ⟨Ht.out, Hf.out, Hg.out, by omega, by omega, h⟩).elim
            go_wp2_with fail
            go_ret
            exact ⟨rfl, (Only.refl _ _).alloc _⟩
    · refine (mac_bad f _ hf).mono ?_
      rintro e _ ⟨rfl, rfl⟩
      go_wp2_with fail
      go_ret
      exact ⟨rfl, (Only.refl _ _).alloc _⟩
  · refine (mac_bad t _ ht).mono ?_
    rintro e _ ⟨rfl, rfl⟩
    go_wp2_with fail
    go_ret
    exact ⟨rfl, (Only.refl _ _).alloc _⟩

set_option maxHeartbeats 1000000 in
theorem rbytes_ok (t f k : Int) (d : ByteArray) (w : World) (h : FrameOk t f k d) :
    Calls Try.prog 20 #[.agg #[.int .i64 t, .int .i64 f, .int .i64 k, .string d]] w fun e w' => e = .returned (.string (frameText t f k d)) ∧ Only (fun _ => False) w w' := by
  have t0 := h.to.1
  have t1 := h.to.2
  have f0 := h.fr.1
  have f1 := h.fr.2
  have k0 := h.k0
  have k1 := h.k1
  have z1 : (textOf 6 t).size ≤ 6 := by rw [textOf_size]; omega
  have z2 : (textOf 6 f).size ≤ 6 := by rw [textOf_size]; omega
  have z3 : (textOf 2 k).size ≤ 2 := by rw [textOf_size]; omega
  have z4 := h.dd
  have a1 : ¬ 9223372036854775807 < (textOf 6 t).size + (textOf 6 f).size := by omega
  have a2 : ¬ 9223372036854775807 < (textOf 6 t).size + (textOf 6 f).size + (textOf 2 k).size := by omega
  have a3 : ¬ 9223372036854775807 < (textOf 6 t).size + (textOf 6 f).size + (textOf 2 k).size + d.size := by omega
  clear h
  go_enter Try.func20, Try.ntmps20
  go_wp2_with fail
  have hb := blk_new w (.cells #[.int .i64 t, .int .i64 f, .int .i64 k, .string d] 23)
  have c0 := blk_cell hb 0
  have c1 := blk_cell hb 1
  have c2 := blk_cell hb 2
  have c3 := blk_cell hb 3
  simp only [List.getElem?_toArray, List.getElem?_cons_zero, List.getElem?_cons_succ] at c0 c1 c2 c3
  have hO : Only (fun _ => False) w (w.alloc (.cells #[.int .i64 t, .int .i64 f, .int .i64 k, .string d] 23)) := (Only.refl _ _).alloc _
  generalize w.alloc (.cells #[.int .i64 t, .int .i64 f, .int .i64 k, .string d] 23) = w0 at *
  clear hb
  generalize w.heap.size = p at *
  go_region_held3 (fun w' => (w'.cell? ⟨p, 0, none⟩ = some (.int .i64 t) ∧ w'.cell? ⟨p, 1, none⟩ = some (.int .i64 f) ∧ w'.cell? ⟨p, 2, none⟩ = some (.int .i64 k) ∧ w'.cell? ⟨p, 3, none⟩ = some (.string d)) ∧ Only (fun _ => False) w w')
    (first | exact ⟨⟨c0, c1, c2, c3⟩, hO⟩ | exact ⟨⟨c0, c1, c2, c3⟩, hO.drew⟩ | assumption)
    (first | (go_at_call 28; refine (rtext_any _ _ _ (by omega)).mono ?_; rintro e wn ⟨rfl, hk⟩; replace c0 := cell_only hk (fun h => h) c0; replace c1 := cell_only hk (fun h => h) c1; replace c2 := cell_only hk (fun h => h) c2; replace c3 := cell_only hk (fun h => h) c3; replace hO := hO.step hk ⟨rfl, rfl, rfl, rfl⟩ (fun _ _ h => h)))
  go_wp2_with fail
  go_ret
  exact ⟨rfl, hO⟩

theorem rencode_ok (t f k : Int) (d : ByteArray) (w : World) (h : FrameOk t f k d) :
    Calls Try.prog 7 #[.agg #[.int .i64 t, .int .i64 f, .int .i64 k, .string d]] w fun e w' => e = .returned (.tuple #[.string (frameText t f k d), .int .i64 0]) ∧ Only (fun _ => False) w w' := by
  have H := Lib.hid h
  clear h
  go_enter Try.func7, Try.ntmps7
  go_wp2_with fail
  refine (rcheck_ok t f k d _ H.out).mono ?_
  rintro e w1 ⟨rfl, hk1⟩
  have hb1 := hk1.at (blk_new w _) (fun h => h)
  have hK1 := ((Only.refl (fun _ => False) w).alloc _).then hk1 (fun _ _ h => h)
  have x0 := blk_cell hb1 0
  have x1 := blk_cell hb1 1
  have x2 := blk_cell hb1 2
  have x3 := blk_cell hb1 3
  simp only [List.getElem?_toArray, List.getElem?_cons_zero, List.getElem?_cons_succ] at x0 x1 x2 x3
  go_wp2_with fail
  refine (rbytes_ok t f k d _ H.out).mono ?_
  rintro e w2 ⟨rfl, hk2⟩
  go_wp2_with fail
  go_ret2
  exact ⟨rfl, hK1.trans hk2⟩

theorem rencode_bad (t f k : Int) (d : ByteArray) (w : World) (h : ¬ FrameOk t f k d) :
    Calls Try.prog 7 #[.agg #[.int .i64 t, .int .i64 f, .int .i64 k, .string d]] w fun e w' => e = .returned (.tuple #[.string ⟨#[]⟩, .int .i64 30]) ∧ Only (fun _ => False) w w' := by
  have H := Lib.hid h
  clear h
  go_enter Try.func7, Try.ntmps7
  go_wp2_with fail
  refine (rcheck_bad t f k d _ H.out).mono ?_
  rintro e w1 ⟨rfl, hk1⟩
  have hK1 := ((Only.refl (fun _ => False) w).alloc _).then hk1 (fun _ _ h => h)
  go_wp2_with fail
  go_ret2
  exact ⟨rfl, hK1⟩

theorem rdecode_short (s : ByteArray) (w : World) (h : s.size < 14) :
    Calls Try.prog 16 #[.string s] w fun e w' => e = .returned (.tuple #[.agg #[.int .i64 0, .int .i64 0, .int .i64 0, .string ⟨#[]⟩], .int .i64 30]) ∧ Only (fun _ => False) w w' := by
  go_enter Try.func16, Try.ntmps16
  go_wp2_with fail
  refine bodyPost_ret (v := .tuple #[.agg #[.int .i64 0, .int .i64 0, .int .i64 0, .string ⟨#[]⟩], .int .i64 30]) (by simp [results, Try.results16, go_sem]) rfl ⟨rfl, ?_⟩
  repeat (first | exact Only.refl _ _ | apply Only.alloc | refine Only.setCell ?_ _ _ (by simp))

theorem num_ext (s : ByteArray) (a b : Nat) (w : World) (hb : b ≤ a + 6) :
    Calls Try.prog 27 #[.string (s.extract a b)] w fun e w' => e = .returned (.int .i64 (numAt s a (b - a))) ∧ w = w' :=
  (num_any (s.extract a b) w (by rw [ByteArray.size_extract]; omega)).mono fun _ _ x => ⟨by rw [x.1, nums_extract]; rfl, x.2⟩

set_option maxHeartbeats 4000000 in
theorem rdecode_ok (s : ByteArray) (w : World) (h : 14 ≤ s.size) (hs : s.size ≤ 140737488355328) (hok : FrameOk (frTo s) (frFrom s) (frType s) (frData s)) :
    Calls Try.prog 16 #[.string s] w fun e w' => e = .returned (.tuple #[.agg #[.int .i64 (frTo s), .int .i64 (frFrom s), .int .i64 (frType s), .string (frData s)], .int .i64 0]) ∧ Only (fun _ => False) w w' := by
  have HOK := Lib.hid hok
  clear hok
  unfold frTo frFrom frType frData at *
  have s6 : (6 : Int) ≤ (s.size : Int) := by omega
  have s12 : (12 : Int) ≤ (s.size : Int) := by omega
  have s14 : (14 : Int) ≤ (s.size : Int) := by omega
  go_enter Try.func16, Try.ntmps16
  go_wp2_with fail
  have hO : Only (fun _ => False) w (w.alloc (.cells #[.int .i64 0, .int .i64 0, .int .i64 0, .string ⟨#[]⟩] 23)) := (Only.refl _ _).alloc _
  go_region_held3 (fun w' => Only (fun _ => False) w w')
    (first | exact hO | exact hO.drew | assumption | exact hO.drew.alloc _ | exact (hO.alloc _).drew | exact ((hO.alloc _).drew).setCell _ _ (by simp) | exact ((hO.alloc _).setCell _ _ (by simp)).drew)
    (first | (go_at_call 27; refine (num_ext s _ _ _ (by omega)).mono ?_; rintro e _ ⟨rfl, rfl⟩))
  all_goals
    go_wp2_with fail
    have hA0 := blk_alloc (blk_new w (.cells #[.int .i64 0, .int .i64 0, .int .i64 0, .string ⟨#[]⟩] 23)) (.cells #[.int .i64 (numAt s 0 6), .int .i64 (numAt s 6 6), .int .i64 (numAt s 12 2), .string (s.extract 14 s.size)] 23)
    have hB0 := blk_new2 w (.cells #[.int .i64 0, .int .i64 0, .int .i64 0, .string ⟨#[]⟩] 23) (.cells #[.int .i64 (numAt s 0 6), .int .i64 (numAt s 6 6), .int .i64 (numAt s 12 2), .string (s.extract 14 s.size)] 23)
    have hK0 : Only (fun _ => False) w ((w.alloc (.cells #[.int .i64 0, .int .i64 0, .int .i64 0, .string ⟨#[]⟩] 23)).alloc (.cells #[.int .i64 (numAt s 0 6), .int .i64 (numAt s 6 6), .int .i64 (numAt s 12 2), .string (s.extract 14 s.size)] 23)) := hO.alloc _
    refine (rcheck_ok _ _ _ _ _ HOK.out).mono ?_
    rintro e w2 ⟨rfl, hk⟩
    have hA1 := hk.undrew.at hA0 (fun h => h)
    have hB1 := hk.undrew.at hB0 (fun h => h)
    have hK1 := hK0.trans hk.undrew
    clear hk hA0 hB0 hK0
    have y0 := blk_cell hB1 0
    have y1 := blk_cell hB1 1
    have y2 := blk_cell hB1 2
    have y3 := blk_cell hB1 3
    have z0 := blk_cell hA1 0
    have z1 := blk_cell hA1 1
    have z2 := blk_cell hA1 2
    have z3 := blk_cell hA1 3
    have zf := blk_free hA1
    simp only [List.getElem?_toArray, List.getElem?_cons_zero, List.getElem?_cons_succ] at y0 y1 y2 y3 z0 z1 z2 z3
    go_wp2_with fail
    refine bodyPost_ret (v := .tuple #[.agg #[.int .i64 (numAt s 0 6), .int .i64 (numAt s 6 6), .int .i64 (numAt s 12 2), .string (s.extract 14 s.size)], .int .i64 0]) (by simp [results, Try.results16, go_sem, y0, y1, y2, y3, z0, z1, z2, z3]) rfl ⟨rfl, ?_⟩
    repeat (first | exact hK1 | apply Only.alloc | refine Only.setCell ?_ _ _ (by simp))


set_option maxHeartbeats 4000000 in
theorem rdecode_bad (s : ByteArray) (w : World) (h : 14 ≤ s.size) (hs : s.size ≤ 140737488355328) (hok : ¬ FrameOk (frTo s) (frFrom s) (frType s) (frData s)) :
    Calls Try.prog 16 #[.string s] w fun e w' => e = .returned (.tuple #[.agg #[.int .i64 0, .int .i64 0, .int .i64 0, .string ⟨#[]⟩], .int .i64 30]) ∧ Only (fun _ => False) w w' := by
  have HOK := Lib.hid hok
  clear hok
  unfold frTo frFrom frType frData at *
  have s6 : (6 : Int) ≤ (s.size : Int) := by omega
  have s12 : (12 : Int) ≤ (s.size : Int) := by omega
  have s14 : (14 : Int) ≤ (s.size : Int) := by omega
  go_enter Try.func16, Try.ntmps16
  go_wp2_with fail
  have hO : Only (fun _ => False) w (w.alloc (.cells #[.int .i64 0, .int .i64 0, .int .i64 0, .string ⟨#[]⟩] 23)) := (Only.refl _ _).alloc _
  go_region_held3 (fun w' => Only (fun _ => False) w w')
    (first | exact hO | exact hO.drew | assumption | exact hO.drew.alloc _ | exact (hO.alloc _).drew | exact ((hO.alloc _).drew).setCell _ _ (by simp) | exact ((hO.alloc _).setCell _ _ (by simp)).drew)
    (first | (go_at_call 27; refine (num_ext s _ _ _ (by omega)).mono ?_; rintro e _ ⟨rfl, rfl⟩))
  all_goals
    go_wp2_with fail
    have hA0 := blk_alloc (blk_new w (.cells #[.int .i64 0, .int .i64 0, .int .i64 0, .string ⟨#[]⟩] 23)) (.cells #[.int .i64 (numAt s 0 6), .int .i64 (numAt s 6 6), .int .i64 (numAt s 12 2), .string (s.extract 14 s.size)] 23)
    have hB0 := blk_new2 w (.cells #[.int .i64 0, .int .i64 0, .int .i64 0, .string ⟨#[]⟩] 23) (.cells #[.int .i64 (numAt s 0 6), .int .i64 (numAt s 6 6), .int .i64 (numAt s 12 2), .string (s.extract 14 s.size)] 23)
    have hK0 : Only (fun _ => False) w ((w.alloc (.cells #[.int .i64 0, .int .i64 0, .int .i64 0, .string ⟨#[]⟩] 23)).alloc (.cells #[.int .i64 (numAt s 0 6), .int .i64 (numAt s 6 6), .int .i64 (numAt s 12 2), .string (s.extract 14 s.size)] 23)) := hO.alloc _
    refine (rcheck_bad _ _ _ _ _ HOK.out).mono ?_
    rintro e w2 ⟨rfl, hk⟩
    have hA1 := hk.undrew.at hA0 (fun h => h)
    have hB1 := hk.undrew.at hB0 (fun h => h)
    have hK1 := hK0.trans hk.undrew
    clear hk hA0 hB0 hK0
    have y0 := blk_cell hB1 0
    have y1 := blk_cell hB1 1
    have y2 := blk_cell hB1 2
    have y3 := blk_cell hB1 3
    have z0 := blk_cell hA1 0
    have z1 := blk_cell hA1 1
    have z2 := blk_cell hA1 2
    have z3 := blk_cell hA1 3
    have zf := blk_free hA1
    simp only [List.getElem?_toArray, List.getElem?_cons_zero, List.getElem?_cons_succ] at y0 y1 y2 y3 z0 z1 z2 z3
    go_wp2_with fail
    refine bodyPost_ret (v := .tuple #[.agg #[.int .i64 0, .int .i64 0, .int .i64 0, .string ⟨#[]⟩], .int .i64 30]) (by simp [results, Try.results16, go_sem, y0, y1, y2, y3, z0, z1, z2, z3]) rfl ⟨rfl, ?_⟩
    repeat (first | exact hK1 | apply Only.alloc | refine Only.setCell ?_ _ _ (by simp))


end Go.Proofs.Ytcopdgaidfchlaa
