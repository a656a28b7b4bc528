/-
  The bytes of a letter, by the code and by the reference.
  Conditions: letters that may be.
-/
import Derived.Test.YteifehienpeaiaaLetter
import Derived.Test.YteifehienpeaiaaRev
import Derived.Test.YteifehienpeaiaaSum
import Derived.Test.YteifehienpeaiaaText
import Derived.Deep.RegionHeld3
import Derived.Deep.RegionWith
set_option linter.unusedVariables false
set_option linter.unusedSimpArgs false
set_option maxRecDepth 100000
namespace Go.Proofs.Yteifehienpeaiaa
open Go.RowKit

theorem num1 (n : Int) (w : World) (h0 : 0 ≤ n) (h1 : n < 256) : Calls Try.prog 68 #[.int .i64 n, .int .i64 1] w fun e w' => e = .returned (.string (textOf 1 n)) ∧ Only (fun _ => False) w w' := by
  go_enter Try.func68, Try.ntmps68
  go_wp2_with fail
  refine (put1 n _ h0 h1).mono ?_
  rintro e w1 ⟨rfl, hk⟩
  go_wp2_with fail
  go_ret
  exact ⟨rfl, hk⟩
theorem num2 (n : Int) (w : World) (h0 : 0 ≤ n) (h1 : n < 65536) : Calls Try.prog 68 #[.int .i64 n, .int .i64 2] w fun e w' => e = .returned (.string (textOf 2 n)) ∧ Only (fun _ => False) w w' := by
  go_enter Try.func68, Try.ntmps68
  go_wp2_with fail
  refine (put2 n _ h0 h1).mono ?_
  rintro e w1 ⟨rfl, hk⟩
  go_wp2_with fail
  go_ret
  exact ⟨rfl, hk⟩
theorem num4 (n : Int) (w : World) (h0 : 0 ≤ n) (h1 : n < 4294967296) : Calls Try.prog 68 #[.int .i64 n, .int .i64 4] w fun e w' => e = .returned (.string (textOf 4 n)) ∧ Only (fun _ => False) w w' := by
  go_enter Try.func68, Try.ntmps68
  go_wp2_with fail
  refine (put4 n _ h0 h1).mono ?_
  rintro e w1 ⟨rfl, hk⟩
  go_wp2_with fail
  go_ret
  exact ⟨rfl, hk⟩

/-- A letter's bytes ahead of its check. -/
def letHead (k e r n a : Int) (d : ByteArray) : ByteArray := textOf 1 k ++ textOf 4 e ++ textOf 1 r ++ textOf 4 n ++ textOf 4 a ++ textOf 2 d.size ++ d

/-- Four bytes of a number, the least one first. -/
def tailOf (n : Int) : ByteArray := strOfNums [n % 256, n / 256 % 256, n / 65536 % 256, n / 16777216]
/-- A letter's bytes. -/
def letBytes (k e r n a : Int) (d : ByteArray) : ByteArray := letHead k e r n a d ++ tailOf (crcV (letHead k e r n a d) : Nat)

theorem letterB_bounds {k e r n a : Int} {d : ByteArray} (h : letterB k e r n a d = true) : (k = 1 ∨ k = 2) ∧ (0 ≤ e ∧ e < 4294967296) ∧ (0 ≤ n ∧ n < 4294967296) ∧ (0 ≤ a ∧ a < 4294967296) ∧ (0 ≤ r ∧ r ≤ 5) ∧ d.size ≤ 4096 := by
  unfold letterB wordB roleB at h
  simp only [Bool.and_eq_true, Bool.or_eq_true, decide_eq_true_eq, beq_iff_eq] at h
  obtain ⟨⟨⟨⟨⟨h1, h2⟩, h3⟩, h4⟩, h5⟩, h6⟩ := h
  refine ⟨by rcases h6 with h6 | h6 <;> omega, by omega, by omega, by omega, by omega, by omega⟩

set_option maxHeartbeats 4000000 in
theorem text_any (k e r n a : Int) (d : ByteArray) (w : World) (h : letterB k e r n a d = true) : Calls Try.prog 40 #[.agg #[.int .i64 k, .int .i64 e, .int .i64 r, .int .i64 n, .int .i64 a, .string d]] w fun e' w' => e' = .returned (.string (letBytes k e r n a d)) ∧ Only (fun _ => False) w w' := by
  obtain ⟨hk0, ⟨e0, e1⟩, ⟨n0, n1⟩, ⟨a0, a1⟩, ⟨r0, r1⟩, d1⟩ := letterB_bounds h
  have k0 : 0 ≤ k := by omega
  have k1 : k < 3 := by omega
  clear h hk0
  have y0 : (textOf 1 k).size ≤ 1 := by rw [textOf_size]; omega
  have y1 : (textOf 4 e).size ≤ 4 := by rw [textOf_size]; omega
  have y2 : (textOf 1 r).size ≤ 1 := by rw [textOf_size]; omega
  have y3 : (textOf 4 n).size ≤ 4 := by rw [textOf_size]; omega
  have y4 : (textOf 4 a).size ≤ 4 := by rw [textOf_size]; omega
  have y5 : (textOf 2 d.size).size ≤ 2 := by rw [textOf_size]; omega
  have s1 : ¬ 9223372036854775807 < (textOf 1 k).size + (textOf 4 e).size := by omega
  have s2 : ¬ 9223372036854775807 < (textOf 1 k).size + (textOf 4 e).size + (textOf 1 r).size := by omega
  have s3 : ¬ 9223372036854775807 < (textOf 1 k).size + (textOf 4 e).size + (textOf 1 r).size + (textOf 4 n).size := by omega
  have s4 : ¬ 9223372036854775807 < (textOf 1 k).size + (textOf 4 e).size + (textOf 1 r).size + (textOf 4 n).size + (textOf 4 a).size := by omega
  have s5 : ¬ 9223372036854775807 < (textOf 1 k).size + (textOf 4 e).size + (textOf 1 r).size + (textOf 4 n).size + (textOf 4 a).size + (textOf 2 d.size).size := by omega
  have s6 : ¬ 9223372036854775807 < (textOf 1 k).size + (textOf 4 e).size + (textOf 1 r).size + (textOf 4 n).size + (textOf 4 a).size + (textOf 2 d.size).size + d.size := by omega
  clear y0 y1 y2 y3 y4 y5
  have hO := (Only.refl (fun _ => False) w).alloc (.cells #[.int .i64 k, .int .i64 e, .int .i64 r, .int .i64 n, .int .i64 a, .string d] 23)
  have hz := blk_new w (.cells #[.int .i64 k, .int .i64 e, .int .i64 r, .int .i64 n, .int .i64 a, .string d] 23)
  have z0 := blk_cell hz 0
  have z1 := blk_cell hz 1
  have z2 := blk_cell hz 2
  have z3 := blk_cell hz 3
  have z4 := blk_cell hz 4
  have z5 := blk_cell hz 5
  simp only [List.getElem?_toArray, List.getElem?_cons_zero, List.getElem?_cons_succ] at z0 z1 z2 z3 z4 z5
  clear hz
  go_enter Try.func40, Try.ntmps40
  go_wp2_with fail
  generalize w.alloc (.cells #[.int .i64 k, .int .i64 e, .int .i64 r, .int .i64 n, .int .i64 a, .string d] 23) = wa at hO z0 z1 z2 z3 z4 z5 ⊢
  generalize w.heap.size = p at z0 z1 z2 z3 z4 z5 ⊢
  go_region_held3 (fun w' => (w'.cell? ⟨p, 0, none⟩ = some (.int .i64 k) ∧ w'.cell? ⟨p, 1, none⟩ = some (.int .i64 e) ∧ w'.cell? ⟨p, 2, none⟩ = some (.int .i64 r) ∧ w'.cell? ⟨p, 3, none⟩ = some (.int .i64 n) ∧ w'.cell? ⟨p, 4, none⟩ = some (.int .i64 a) ∧ w'.cell? ⟨p, 5, none⟩ = some (.string d)) ∧ Only (fun _ => False) w w')
    (first | exact ⟨⟨z0, z1, z2, z3, z4, z5⟩, hO⟩ | exact ⟨⟨z0, z1, z2, z3, z4, z5⟩, hO.drew⟩ | assumption)
    (first | (go_at_call_of 68 (Value.int IntKind.i64 k); refine (num1 k _ (by omega) (by omega)).mono ?_; rintro e' wn ⟨rfl, hk⟩; replace z0 := cell_only hk (fun h => h) z0; replace z1 := cell_only hk (fun h => h) z1; replace z2 := cell_only hk (fun h => h) z2; replace z3 := cell_only hk (fun h => h) z3; replace z4 := cell_only hk (fun h => h) z4; replace z5 := cell_only hk (fun h => h) z5; replace hO := hO.step hk ⟨rfl, rfl, rfl, rfl⟩ (fun _ _ h => h)) | (go_at_call_of 68 (Value.int IntKind.i64 e); refine (num4 e _ (by omega) (by omega)).mono ?_; rintro e' wn ⟨rfl, hk⟩; replace z0 := cell_only hk (fun h => h) z0; replace z1 := cell_only hk (fun h => h) z1; replace z2 := cell_only hk (fun h => h) z2; replace z3 := cell_only hk (fun h => h) z3; replace z4 := cell_only hk (fun h => h) z4; replace z5 := cell_only hk (fun h => h) z5; replace hO := hO.step hk ⟨rfl, rfl, rfl, rfl⟩ (fun _ _ h => h)) | (go_at_call_of 68 (Value.int IntKind.i64 r); refine (num1 r _ (by omega) (by omega)).mono ?_; rintro e' wn ⟨rfl, hk⟩; replace z0 := cell_only hk (fun h => h) z0; replace z1 := cell_only hk (fun h => h) z1; replace z2 := cell_only hk (fun h => h) z2; replace z3 := cell_only hk (fun h => h) z3; replace z4 := cell_only hk (fun h => h) z4; replace z5 := cell_only hk (fun h => h) z5; replace hO := hO.step hk ⟨rfl, rfl, rfl, rfl⟩ (fun _ _ h => h)) | (go_at_call_of 68 (Value.int IntKind.i64 n); refine (num4 n _ (by omega) (by omega)).mono ?_; rintro e' wn ⟨rfl, hk⟩; replace z0 := cell_only hk (fun h => h) z0; replace z1 := cell_only hk (fun h => h) z1; replace z2 := cell_only hk (fun h => h) z2; replace z3 := cell_only hk (fun h => h) z3; replace z4 := cell_only hk (fun h => h) z4; replace z5 := cell_only hk (fun h => h) z5; replace hO := hO.step hk ⟨rfl, rfl, rfl, rfl⟩ (fun _ _ h => h)) | (go_at_call_of 68 (Value.int IntKind.i64 a); refine (num4 a _ (by omega) (by omega)).mono ?_; rintro e' wn ⟨rfl, hk⟩; replace z0 := cell_only hk (fun h => h) z0; replace z1 := cell_only hk (fun h => h) z1; replace z2 := cell_only hk (fun h => h) z2; replace z3 := cell_only hk (fun h => h) z3; replace z4 := cell_only hk (fun h => h) z4; replace z5 := cell_only hk (fun h => h) z5; replace hO := hO.step hk ⟨rfl, rfl, rfl, rfl⟩ (fun _ _ h => h)) | (go_at_call_of 68 (Value.int IntKind.i64 (d.size : Int)); refine (num2 (d.size : Int) _ (by omega) (by omega)).mono ?_; rintro e' wn ⟨rfl, hk⟩; replace z0 := cell_only hk (fun h => h) z0; replace z1 := cell_only hk (fun h => h) z1; replace z2 := cell_only hk (fun h => h) z2; replace z3 := cell_only hk (fun h => h) z3; replace z4 := cell_only hk (fun h => h) z4; replace z5 := cell_only hk (fun h => h) z5; replace hO := hO.step hk ⟨rfl, rfl, rfl, rfl⟩ (fun _ _ h => h)))
  have hhs : (letHead k e r n a d).size ≤ 8192 := by
    unfold letHead
    simp only [ByteArray.size_append, textOf_size]
    omega
  have HL : letHead k e r n a d = textOf 1 k ++ textOf 4 e ++ textOf 1 r ++ textOf 4 n ++ textOf 4 a ++ textOf 2 d.size ++ d := rfl
  rw [← HL]
  clear HL s1 s2 s3 s4 s5 s6 z0 z1 z2 z3 z4 z5
  have hT := Lib.hid (show letBytes k e r n a d = letHead k e r n a d ++ tailOf (crcV (letHead k e r n a d) : Nat) from rfl)
  generalize letHead k e r n a d = H at hhs hT ⊢
  go_wp2_with fail
  refine (crc_any H _ (by omega)).mono ?_
  rintro e' w1 ⟨rfl, hk1⟩
  replace hO := hO.then hk1 (fun _ _ h => h)
  have hc1 : crcV H < 4294967296 := Nat.xor_lt_two_pow (n := 32) (crcN_lt H _) (by decide)
  generalize hC : crcV H = c at hc1 hT ⊢
  clear hC
  go_wp2_with fail
  refine (num4 (c : Int) _ (by omega) (by omega)).mono ?_
  rintro e' w2 ⟨rfl, hk2⟩
  replace hO := hO.then hk2 (fun _ _ h => h)
  have hts : (textOf 4 (c : Int)).size = 4 := textOf_size _ _
  have hconv := Lib.run_convert_string_bytes (P := Try.prog) w2 9 34 5 (textOf 4 (c : Int)) Try.underlying9 Try.underlying34 Try.underlying5
  have hcell := bytesWorld_cell' w2 (textOf 4 (c : Int))
  have hnew := Lib.bytesWorld_at_new w2 5 (textOf 4 (c : Int))
  have hbo := bytesWorld_only w2 (textOf 4 (c : Int))
  have hbs := Lib.bytesWorld_size w2 5 (textOf 4 (c : Int))
  have hcap : 4 ≤ grownCap w2 (textOf 4 (c : Int)).size 0 5 := by rw [hts]; exact grownCap_ge _ _ _ _
  rw [hts] at hconv hcap
  have hcs : (Lib.bytesCells w2 5 (textOf 4 (c : Int))).size = grownCap w2 4 0 5 := by
    unfold Lib.bytesCells
    rw [hts]
    simp only [Array.size_append, Array.size_map, Array.size_replicate]
    have : (textOf 4 (c : Int)).data.size = 4 := hts
    omega
  have hnu : nums (textOf 4 (c : Int)) = [(c : Int) / 16777216, (c : Int) / 65536 % 256, (c : Int) / 256 % 256, (c : Int) % 256] := by
    rw [← text4 (c : Int) (by omega) (by omega)]
    refine nums_strOf _ ?_
    simp only [List.mem_cons, List.not_mem_nil, or_false]
    rintro x (rfl | rfl | rfl | rfl) <;> omega
  rw [hts, hnu] at hcell
  have y0 := hcell 0 (by omega)
  have y1 := hcell 1 (by omega)
  have y2 := hcell 2 (by omega)
  have y3 := hcell 3 (by omega)
  simp only [List.getD_cons_zero, List.getD_cons_succ] at y0 y1 y2 y3
  have hfz : ∀ i, i < 4 → (Lib.bytesWorld w2 5 (textOf 4 (c : Int))).frozen? ⟨w2.heap.size, i, none⟩ = false := by
    intro i hi
    unfold World.frozen?
    rw [hnew, hcs]
    simp only [Bool.and_eq_false_iff, decide_eq_false_iff_not]
    exact Or.inl (by omega)
  have f0 := hfz 0 (by omega)
  have f1 := hfz 1 (by omega)
  have f2 := hfz 2 (by omega)
  have f3 := hfz 3 (by omega)
  clear hfz hcs hnu hcell hnew hts
  have hsz := Nat.le_trans hO.size (Nat.le_refl _)
  replace hO := hO.then hbo (fun _ _ h => h)
  generalize hbw : Lib.bytesWorld w2 5 (textOf 4 (c : Int)) = w3 at *
  generalize grownCap w2 4 0 5 = cap at hconv hcap ⊢
  generalize hp2 : w2.heap.size = p2 at *
  clear hbw
  go_wp2_with fail
  clear hconv
  refine (reverse4 p2 cap _ _ _ _ w3 hcap y0 y1 y2 y3 f0 f1 f2 f3).mono ?_
  rintro e' w4 ⟨rfl, ⟨v0, v1, v2, v3⟩, hk4⟩
  have hO4 : Only (fun _ => False) w w4 := hO.then hk4 (fun i hi h => by omega)
  clear y0 y1 y2 y3 f0 f1 f2 f3 hk4 hO hbo
  have hcv := run_convert_bytes_arg (P := Try.prog) w4 34 5 Try.underlying34 Try.underlying5 p2 0 4 cap [(c : Int) % 256, (c : Int) / 256 % 256, (c : Int) / 65536 % 256, (c : Int) / 16777216] rfl (fun i hi => by
    rw [Nat.zero_add]
    match i, hi with
    | 0, _ => exact v0
    | 1, _ => exact v1
    | 2, _ => exact v2
    | 3, _ => exact v3) 9 Try.underlying9
  rw [show strOfNums [(c : Int) % 256, (c : Int) / 256 % 256, (c : Int) / 65536 % 256, (c : Int) / 16777216] = tailOf c from rfl] at hcv
  have hts2 : (tailOf c).size = 4 := by unfold tailOf; rw [strOfNums_size]; rfl
  have hsum : ¬ 9223372036854775807 < H.size + (tailOf c).size := by omega
  clear v0 v1 v2 v3
  go_wp2_with fail
  go_ret
  exact ⟨by rw [hT.out]; rfl, hO4⟩

end Go.Proofs.Yteifehienpeaiaa
