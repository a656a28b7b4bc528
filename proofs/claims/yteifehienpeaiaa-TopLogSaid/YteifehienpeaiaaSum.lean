/-
  The contracts of sum.Put and sum.Get at the numbers of bytes that are used: a number's bytes, the greatest first, and the number of bytes at a place.
  Conditions: the number fits; the place lies within.
-/
import Derived.Test.YteifehienpeaiaaProg
import Derived.Test.YteifehienpeaiaaBytes
set_option linter.unusedVariables false
set_option linter.unusedSimpArgs false
set_option maxRecDepth 100000
namespace Go.Proofs.Yteifehienpeaiaa
open Go.RowKit

theorem put1 (n : Int) (w : World) (h0 : 0 ≤ n) (h1 : n < 256) :
    Calls Try.prog 78 #[.int .i64 n, .int .i64 1] w fun e w' => e = .returned (.tuple #[.string (textOf 1 n), .int .i64 0]) ∧ Only (fun _ => False) w w' := by
  have hmk : ∀ w, (Instr.makeSlice 34 (.int .i64 1) (.int .i64 1)).run Try.prog w = .ok (.slice (some ⟨w.heap.size, 0, none⟩) 1 1) (w.alloc (.cells #[.int .u8 0] 5)) := fun _ => by kernel_rfl
  have hb := blk_new w (.cells #[.int .u8 (n)] 5)
  have hcv := run_convert_bytes_arg (P := Try.prog) (w := w.alloc (.cells #[.int .u8 (n)] 5)) 34 5 Try.underlying34 Try.underlying5 w.heap.size 0 1 1 [n] rfl
    (fun i hi => (blk_cell hb (0 + i)).trans (by rcases i with _ | i <;> first | rfl | omega)) 9 Try.underlying9
  have HCV := Lib.hid hcv
  clear hb hcv
  go_enter Try.func78, Try.ntmps78
  go_wp2_with fail
  refine wp_loop_rounds 2 ?_
  rw [rounds_succ]
  go_wp2_with fail
  rw [rounds_succ]
  go_wp2_with fail
  rw [HCV.out]
  go_wp2_with fail
  go_ret2
  exact ⟨by rw [← text1 n h0 h1]; rfl, (Only.refl _ _).alloc _⟩

theorem put2 (n : Int) (w : World) (h0 : 0 ≤ n) (h1 : n < 65536) :
    Calls Try.prog 78 #[.int .i64 n, .int .i64 2] w fun e w' => e = .returned (.tuple #[.string (textOf 2 n), .int .i64 0]) ∧ Only (fun _ => False) w w' := by
  have hmk : ∀ w, (Instr.makeSlice 34 (.int .i64 2) (.int .i64 2)).run Try.prog w = .ok (.slice (some ⟨w.heap.size, 0, none⟩) 2 2) (w.alloc (.cells #[.int .u8 0, .int .u8 0] 5)) := fun _ => by kernel_rfl
  have hb := blk_new w (.cells #[.int .u8 (n / 256), .int .u8 (n % 256)] 5)
  have hcv := run_convert_bytes_arg (P := Try.prog) (w := w.alloc (.cells #[.int .u8 (n / 256), .int .u8 (n % 256)] 5)) 34 5 Try.underlying34 Try.underlying5 w.heap.size 0 2 2 [n / 256, n % 256] rfl
    (fun i hi => (blk_cell hb (0 + i)).trans (by rcases i with _ | _ | i <;> first | rfl | omega)) 9 Try.underlying9
  have HCV := Lib.hid hcv
  clear hb hcv
  go_enter Try.func78, Try.ntmps78
  go_wp2_with fail
  refine wp_loop_rounds 3 ?_
  rw [rounds_succ]
  go_wp2_with fail
  rw [rounds_succ]
  go_wp2_with fail
  rw [rounds_succ]
  go_wp2_with fail
  rw [HCV.out]
  go_wp2_with fail
  go_ret2
  exact ⟨by rw [← text2 n h0 h1]; rfl, (Only.refl _ _).alloc _⟩

theorem put4 (n : Int) (w : World) (h0 : 0 ≤ n) (h1 : n < 4294967296) :
    Calls Try.prog 78 #[.int .i64 n, .int .i64 4] w fun e w' => e = .returned (.tuple #[.string (textOf 4 n), .int .i64 0]) ∧ Only (fun _ => False) w w' := by
  have hmk : ∀ w, (Instr.makeSlice 34 (.int .i64 4) (.int .i64 4)).run Try.prog w = .ok (.slice (some ⟨w.heap.size, 0, none⟩) 4 4) (w.alloc (.cells #[.int .u8 0, .int .u8 0, .int .u8 0, .int .u8 0] 5)) := fun _ => by kernel_rfl
  have hb := blk_new w (.cells #[.int .u8 (n / 16777216), .int .u8 (n / 65536 % 256), .int .u8 (n / 256 % 256), .int .u8 (n % 256)] 5)
  have hcv := run_convert_bytes_arg (P := Try.prog) (w := w.alloc (.cells #[.int .u8 (n / 16777216), .int .u8 (n / 65536 % 256), .int .u8 (n / 256 % 256), .int .u8 (n % 256)] 5)) 34 5 Try.underlying34 Try.underlying5 w.heap.size 0 4 4 [n / 16777216, n / 65536 % 256, n / 256 % 256, n % 256] rfl
    (fun i hi => (blk_cell hb (0 + i)).trans (by rcases i with _ | _ | _ | _ | i <;> first | rfl | omega)) 9 Try.underlying9
  have HCV := Lib.hid hcv
  clear hb hcv
  go_enter Try.func78, Try.ntmps78
  go_wp2_with fail
  refine wp_loop_rounds 5 ?_
  rw [rounds_succ]
  go_wp2_with fail
  rw [rounds_succ]
  go_wp2_with fail
  rw [rounds_succ]
  go_wp2_with fail
  rw [rounds_succ]
  go_wp2_with fail
  rw [rounds_succ]
  go_wp2_with fail
  rw [HCV.out]
  go_wp2_with fail
  go_ret2
  exact ⟨by rw [← text4 n h0 h1]; rfl, (Only.refl _ _).alloc _⟩

theorem put6 (n : Int) (w : World) (h0 : 0 ≤ n) (h1 : n < 281474976710656) :
    Calls Try.prog 78 #[.int .i64 n, .int .i64 6] w fun e w' => e = .returned (.tuple #[.string (textOf 6 n), .int .i64 0]) ∧ Only (fun _ => False) w w' := by
  have hmk : ∀ w, (Instr.makeSlice 34 (.int .i64 6) (.int .i64 6)).run Try.prog w = .ok (.slice (some ⟨w.heap.size, 0, none⟩) 6 6) (w.alloc (.cells #[.int .u8 0, .int .u8 0, .int .u8 0, .int .u8 0, .int .u8 0, .int .u8 0] 5)) := fun _ => by kernel_rfl
  have hb := blk_new w (.cells #[.int .u8 (n / 1099511627776), .int .u8 (n / 4294967296 % 256), .int .u8 (n / 16777216 % 256), .int .u8 (n / 65536 % 256), .int .u8 (n / 256 % 256), .int .u8 (n % 256)] 5)
  have hcv := run_convert_bytes_arg (P := Try.prog) (w := w.alloc (.cells #[.int .u8 (n / 1099511627776), .int .u8 (n / 4294967296 % 256), .int .u8 (n / 16777216 % 256), .int .u8 (n / 65536 % 256), .int .u8 (n / 256 % 256), .int .u8 (n % 256)] 5)) 34 5 Try.underlying34 Try.underlying5 w.heap.size 0 6 6 [n / 1099511627776, n / 4294967296 % 256, n / 16777216 % 256, n / 65536 % 256, n / 256 % 256, n % 256] rfl
    (fun i hi => (blk_cell hb (0 + i)).trans (by rcases i with _ | _ | _ | _ | _ | _ | i <;> first | rfl | omega)) 9 Try.underlying9
  have HCV := Lib.hid hcv
  clear hb hcv
  go_enter Try.func78, Try.ntmps78
  go_wp2_with fail
  refine wp_loop_rounds 7 ?_
  rw [rounds_succ]
  go_wp2_with fail
  rw [rounds_succ]
  go_wp2_with fail
  rw [rounds_succ]
  go_wp2_with fail
  rw [rounds_succ]
  go_wp2_with fail
  rw [rounds_succ]
  go_wp2_with fail
  rw [rounds_succ]
  go_wp2_with fail
  rw [rounds_succ]
  go_wp2_with fail
  rw [HCV.out]
  go_wp2_with fail
  go_ret2
  exact ⟨by rw [← text6 n h0 h1]; rfl, (Only.refl _ _).alloc _⟩

theorem get1 (s : ByteArray) (off : Int) (w : World) (h0 : 0 ≤ off) (h1 : off + 1 ≤ s.size) (hs : s.size ≤ 140737488355328) :
    Calls Try.prog 43 #[.string s, .int .i64 off, .int .i64 1] w fun e w' => e = .returned (.tuple #[.int .i64 (numAt s off.toNat 1), .int .i64 0]) ∧ Only (fun _ => False) w w' := by
  obtain ⟨o, rfl⟩ := Int.eq_ofNat_of_zero_le h0
  have hcv := Lib.run_convert_string_bytes (P := Try.prog) w 9 34 5 (s.extract o (o + 1)) Try.underlying9 Try.underlying34 Try.underlying5
  have hsz : (s.extract o (o + 1)).size = 1 := by rw [ByteArray.size_extract]; omega
  have hco := bytesWorld_cell' w (s.extract o (o + 1))
  have hon := bytesWorld_only w (s.extract o (o + 1))
  rw [hsz] at hcv hco
  have hnu : nums (s.extract o (o + 1)) = ((nums s).drop o).take 1 := by rw [nums_extract, show o + 1 - o = 1 by omega]
  rw [hnu] at hco
  have hnb : ∀ c ∈ ((nums s).drop o).take 1, 0 ≤ c ∧ c ≤ 255 := fun c hc => nums_bounds s c (List.mem_of_mem_drop (List.mem_of_mem_take hc))
  have hnl : (((nums s).drop o).take 1).length = 1 := by rw [← hnu, nums_length, hsz]
  have HN : Hid (numAt s o 1 = numOf (((nums s).drop o).take 1)) := rfl
  clear hnu hsz
  generalize ((nums s).drop o).take 1 = l at *
  have HCV := Lib.hid hcv
  have HCO := Lib.hid hco
  have HNB := Lib.hid hnb
  have HNL := Lib.hid hnl
  clear hcv hco hnb hnl
  have HT := Lib.hid (take_all (l := l) (k := 1) HNL.out)
  go_enter Try.func43, Try.ntmps43
  go_wp2_with fail
  rw [HCV.out]
  generalize Lib.bytesWorld w 5 (s.extract o (o + 1)) = w1 at hon HCO
  generalize grownCap w 1 0 5 = cap
  clear HCV
  go_wp2_with fail
  go_loop [8, 37] (fun n i => ∃ j : Nat, i = .int .i64 j ∧ j ≤ 1 ∧ n = .int .i64 (numOf (l.take j))) (fun _ i => 1 - (intOf i).toNat)
  case atStart => exact ⟨0, rfl, by omega, rfl⟩
  case round =>
    obtain ⟨j, rfl, hj, rfl⟩ := hrel
    by_cases hlt : j < 1
    · have hc := HCO.out j hlt
      obtain ⟨nb, cb, hsn⟩ := take_step HNB.out HNL.out (by have := HNL.out; omega) (by omega : j < 6)
      have hor := or_byte (numOf (l.take j)) (l.getD j 0) nb.1 nb.2 cb.1 cb.2
      have HS := Lib.hid hsn
      clear hsn
      have n0 := nb.1
      have n1 := nb.2
      have c0 := cb.1
      have c1 := cb.2
      clear nb cb
      generalize numOf (l.take j) = m at *
      generalize l.getD j 0 = c at *
      go_wp2_with fail
      go_round
      case rel => exact ⟨j + 1, by go_num, by omega, by rw [HS.out]⟩
      case measure => simp [intOf]; omega
    · obtain rfl : j = 1 := by omega
      go_wp2_with fail
      go_ret2
      exact ⟨by simp only [Int.toNat_natCast]; rw [HN.out, HT.out]; rfl, hon⟩

theorem get2 (s : ByteArray) (off : Int) (w : World) (h0 : 0 ≤ off) (h1 : off + 2 ≤ s.size) (hs : s.size ≤ 140737488355328) :
    Calls Try.prog 43 #[.string s, .int .i64 off, .int .i64 2] w fun e w' => e = .returned (.tuple #[.int .i64 (numAt s off.toNat 2), .int .i64 0]) ∧ Only (fun _ => False) w w' := by
  obtain ⟨o, rfl⟩ := Int.eq_ofNat_of_zero_le h0
  have hcv := Lib.run_convert_string_bytes (P := Try.prog) w 9 34 5 (s.extract o (o + 2)) Try.underlying9 Try.underlying34 Try.underlying5
  have hsz : (s.extract o (o + 2)).size = 2 := by rw [ByteArray.size_extract]; omega
  have hco := bytesWorld_cell' w (s.extract o (o + 2))
  have hon := bytesWorld_only w (s.extract o (o + 2))
  rw [hsz] at hcv hco
  have hnu : nums (s.extract o (o + 2)) = ((nums s).drop o).take 2 := by rw [nums_extract, show o + 2 - o = 2 by omega]
  rw [hnu] at hco
  have hnb : ∀ c ∈ ((nums s).drop o).take 2, 0 ≤ c ∧ c ≤ 255 := fun c hc => nums_bounds s c (List.mem_of_mem_drop (List.mem_of_mem_take hc))
  have hnl : (((nums s).drop o).take 2).length = 2 := by rw [← hnu, nums_length, hsz]
  have HN : Hid (numAt s o 2 = numOf (((nums s).drop o).take 2)) := rfl
  clear hnu hsz
  generalize ((nums s).drop o).take 2 = l at *
  have HCV := Lib.hid hcv
  have HCO := Lib.hid hco
  have HNB := Lib.hid hnb
  have HNL := Lib.hid hnl
  clear hcv hco hnb hnl
  have HT := Lib.hid (take_all (l := l) (k := 2) HNL.out)
  go_enter Try.func43, Try.ntmps43
  go_wp2_with fail
  rw [HCV.out]
  generalize Lib.bytesWorld w 5 (s.extract o (o + 2)) = w1 at hon HCO
  generalize grownCap w 2 0 5 = cap
  clear HCV
  go_wp2_with fail
  go_loop [8, 37] (fun n i => ∃ j : Nat, i = .int .i64 j ∧ j ≤ 2 ∧ n = .int .i64 (numOf (l.take j))) (fun _ i => 2 - (intOf i).toNat)
  case atStart => exact ⟨0, rfl, by omega, rfl⟩
  case round =>
    obtain ⟨j, rfl, hj, rfl⟩ := hrel
    by_cases hlt : j < 2
    · have hc := HCO.out j hlt
      obtain ⟨nb, cb, hsn⟩ := take_step HNB.out HNL.out (by have := HNL.out; omega) (by omega : j < 6)
      have hor := or_byte (numOf (l.take j)) (l.getD j 0) nb.1 nb.2 cb.1 cb.2
      have HS := Lib.hid hsn
      clear hsn
      have n0 := nb.1
      have n1 := nb.2
      have c0 := cb.1
      have c1 := cb.2
      clear nb cb
      generalize numOf (l.take j) = m at *
      generalize l.getD j 0 = c at *
      go_wp2_with fail
      go_round
      case rel => exact ⟨j + 1, by go_num, by omega, by rw [HS.out]⟩
      case measure => simp [intOf]; omega
    · obtain rfl : j = 2 := by omega
      go_wp2_with fail
      go_ret2
      exact ⟨by simp only [Int.toNat_natCast]; rw [HN.out, HT.out]; rfl, hon⟩

theorem get4 (s : ByteArray) (off : Int) (w : World) (h0 : 0 ≤ off) (h1 : off + 4 ≤ s.size) (hs : s.size ≤ 140737488355328) :
    Calls Try.prog 43 #[.string s, .int .i64 off, .int .i64 4] w fun e w' => e = .returned (.tuple #[.int .i64 (numAt s off.toNat 4), .int .i64 0]) ∧ Only (fun _ => False) w w' := by
  obtain ⟨o, rfl⟩ := Int.eq_ofNat_of_zero_le h0
  have hcv := Lib.run_convert_string_bytes (P := Try.prog) w 9 34 5 (s.extract o (o + 4)) Try.underlying9 Try.underlying34 Try.underlying5
  have hsz : (s.extract o (o + 4)).size = 4 := by rw [ByteArray.size_extract]; omega
  have hco := bytesWorld_cell' w (s.extract o (o + 4))
  have hon := bytesWorld_only w (s.extract o (o + 4))
  rw [hsz] at hcv hco
  have hnu : nums (s.extract o (o + 4)) = ((nums s).drop o).take 4 := by rw [nums_extract, show o + 4 - o = 4 by omega]
  rw [hnu] at hco
  have hnb : ∀ c ∈ ((nums s).drop o).take 4, 0 ≤ c ∧ c ≤ 255 := fun c hc => nums_bounds s c (List.mem_of_mem_drop (List.mem_of_mem_take hc))
  have hnl : (((nums s).drop o).take 4).length = 4 := by rw [← hnu, nums_length, hsz]
  have HN : Hid (numAt s o 4 = numOf (((nums s).drop o).take 4)) := rfl
  clear hnu hsz
  generalize ((nums s).drop o).take 4 = l at *
  have HCV := Lib.hid hcv
  have HCO := Lib.hid hco
  have HNB := Lib.hid hnb
  have HNL := Lib.hid hnl
  clear hcv hco hnb hnl
  have HT := Lib.hid (take_all (l := l) (k := 4) HNL.out)
  go_enter Try.func43, Try.ntmps43
  go_wp2_with fail
  rw [HCV.out]
  generalize Lib.bytesWorld w 5 (s.extract o (o + 4)) = w1 at hon HCO
  generalize grownCap w 4 0 5 = cap
  clear HCV
  go_wp2_with fail
  go_loop [8, 37] (fun n i => ∃ j : Nat, i = .int .i64 j ∧ j ≤ 4 ∧ n = .int .i64 (numOf (l.take j))) (fun _ i => 4 - (intOf i).toNat)
  case atStart => exact ⟨0, rfl, by omega, rfl⟩
  case round =>
    obtain ⟨j, rfl, hj, rfl⟩ := hrel
    by_cases hlt : j < 4
    · have hc := HCO.out j hlt
      obtain ⟨nb, cb, hsn⟩ := take_step HNB.out HNL.out (by have := HNL.out; omega) (by omega : j < 6)
      have hor := or_byte (numOf (l.take j)) (l.getD j 0) nb.1 nb.2 cb.1 cb.2
      have HS := Lib.hid hsn
      clear hsn
      have n0 := nb.1
      have n1 := nb.2
      have c0 := cb.1
      have c1 := cb.2
      clear nb cb
      generalize numOf (l.take j) = m at *
      generalize l.getD j 0 = c at *
      go_wp2_with fail
      go_round
      case rel => exact ⟨j + 1, by go_num, by omega, by rw [HS.out]⟩
      case measure => simp [intOf]; omega
    · obtain rfl : j = 4 := by omega
      go_wp2_with fail
      go_ret2
      exact ⟨by simp only [Int.toNat_natCast]; rw [HN.out, HT.out]; rfl, hon⟩

theorem get6 (s : ByteArray) (off : Int) (w : World) (h0 : 0 ≤ off) (h1 : off + 6 ≤ s.size) (hs : s.size ≤ 140737488355328) :
    Calls Try.prog 43 #[.string s, .int .i64 off, .int .i64 6] w fun e w' => e = .returned (.tuple #[.int .i64 (numAt s off.toNat 6), .int .i64 0]) ∧ Only (fun _ => False) w w' := by
  obtain ⟨o, rfl⟩ := Int.eq_ofNat_of_zero_le h0
  have hcv := Lib.run_convert_string_bytes (P := Try.prog) w 9 34 5 (s.extract o (o + 6)) Try.underlying9 Try.underlying34 Try.underlying5
  have hsz : (s.extract o (o + 6)).size = 6 := by rw [ByteArray.size_extract]; omega
  have hco := bytesWorld_cell' w (s.extract o (o + 6))
  have hon := bytesWorld_only w (s.extract o (o + 6))
  rw [hsz] at hcv hco
  have hnu : nums (s.extract o (o + 6)) = ((nums s).drop o).take 6 := by rw [nums_extract, show o + 6 - o = 6 by omega]
  rw [hnu] at hco
  have hnb : ∀ c ∈ ((nums s).drop o).take 6, 0 ≤ c ∧ c ≤ 255 := fun c hc => nums_bounds s c (List.mem_of_mem_drop (List.mem_of_mem_take hc))
  have hnl : (((nums s).drop o).take 6).length = 6 := by rw [← hnu, nums_length, hsz]
  have HN : Hid (numAt s o 6 = numOf (((nums s).drop o).take 6)) := rfl
  clear hnu hsz
  generalize ((nums s).drop o).take 6 = l at *
  have HCV := Lib.hid hcv
  have HCO := Lib.hid hco
  have HNB := Lib.hid hnb
  have HNL := Lib.hid hnl
  clear hcv hco hnb hnl
  have HT := Lib.hid (take_all (l := l) (k := 6) HNL.out)
  go_enter Try.func43, Try.ntmps43
  go_wp2_with fail
  rw [HCV.out]
  generalize Lib.bytesWorld w 5 (s.extract o (o + 6)) = w1 at hon HCO
  generalize grownCap w 6 0 5 = cap
  clear HCV
  go_wp2_with fail
  go_loop [8, 37] (fun n i => ∃ j : Nat, i = .int .i64 j ∧ j ≤ 6 ∧ n = .int .i64 (numOf (l.take j))) (fun _ i => 6 - (intOf i).toNat)
  case atStart => exact ⟨0, rfl, by omega, rfl⟩
  case round =>
    obtain ⟨j, rfl, hj, rfl⟩ := hrel
    by_cases hlt : j < 6
    · have hc := HCO.out j hlt
      obtain ⟨nb, cb, hsn⟩ := take_step HNB.out HNL.out (by have := HNL.out; omega) (by omega : j < 6)
      have hor := or_byte (numOf (l.take j)) (l.getD j 0) nb.1 nb.2 cb.1 cb.2
      have HS := Lib.hid hsn
      clear hsn
      have n0 := nb.1
      have n1 := nb.2
      have c0 := cb.1
      have c1 := cb.2
      clear nb cb
      generalize numOf (l.take j) = m at *
      generalize l.getD j 0 = c at *
      go_wp2_with fail
      go_round
      case rel => exact ⟨j + 1, by go_num, by omega, by rw [HS.out]⟩
      case measure => simp [intOf]; omega
    · obtain rfl : j = 6 := by omega
      go_wp2_with fail
      go_ret2
      exact ⟨by simp only [Int.toNat_natCast]; rw [HN.out, HT.out]; rfl, hon⟩

end Go.Proofs.Yteifehienpeaiaa
