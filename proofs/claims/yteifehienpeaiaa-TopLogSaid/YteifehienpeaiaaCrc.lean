/-
  The contracts of the two checks over bytes (channel.Crc, sternpostref24.Crc): one function of the bytes.
  Conditions: strings of at most 2^40 bytes.
-/
import Derived.Test.YteifehienpeaiaaBytes
import Derived.Test.YteifehienpeaiaaProg
import Derived.StillTailTactics
set_option linter.unusedVariables false
set_option linter.unusedSimpArgs false
namespace Go.Proofs.Yteifehienpeaiaa
open Go.RowKit

def crcStep (x : Nat) : Nat := if x % 2 = 1 then (x / 2) ^^^ 3988292384 else x / 2
def crcSteps : Nat → Nat → Nat
  | 0, x => x
  | n + 1, x => crcStep (crcSteps n x)
/-- The state behind so many bytes. -/
def crcN (s : ByteArray) : Nat → Nat
  | 0 => 4294967295
  | k + 1 => crcSteps 8 (crcN s k ^^^ (s.data.toList.getD k 0).toNat)
def crcV (s : ByteArray) : Nat := crcN s s.size ^^^ 4294967295

theorem crcStep_lt {x : Nat} (h : x < 4294967296) : crcStep x < 4294967296 := by
  unfold crcStep
  split
  · exact Nat.xor_lt_two_pow (n := 32) (by omega) (by decide)
  · omega
theorem crcSteps_lt {x : Nat} (h : x < 4294967296) : ∀ n, crcSteps n x < 4294967296
  | 0 => h
  | n + 1 => crcStep_lt (crcSteps_lt h n)
theorem crcN_lt (s : ByteArray) : ∀ k, crcN s k < 4294967296
  | 0 => show (4294967295 : Nat) < 4294967296 by decide
  | k + 1 => crcSteps_lt (Nat.xor_lt_two_pow (n := 32) (crcN_lt s k) (Nat.lt_trans (UInt8.toNat_lt _) (by decide))) 8

theorem xor_nat (a b : Nat) (ha : a < 4294967296) (hb : b < 4294967296) : bits .xor .i64 (a : Int) (b : Int) = ((a ^^^ b : Nat) : Int) := by
  have hx : a ^^^ b < 4294967296 := Nat.xor_lt_two_pow (n := 32) ha hb
  have ha' : a % 2 ^ IntKind.i64.bits = a := Nat.mod_eq_of_lt (by show a < 2 ^ 64; omega)
  have hb' : b % 2 ^ IntKind.i64.bits = b := Nat.mod_eq_of_lt (by show b < 2 ^ 64; omega)
  simp only [bits, BitVec.ofInt_natCast, BitVec.toNat_xor, BitVec.toNat_ofNat, ha', hb']
  rw [IntKind.wrap_i64]
  omega

theorem and_one (a : Nat) (ha : a < 4294967296) : bits .and .i64 (a : Int) 1 = ((a % 2 : Nat) : Int) := by
  have := and_mask (a : Int) 1 (by decide)
  rw [show ((2 : Int) ^ 1 - 1) = 1 from rfl] at this
  rw [this]
  simp

theorem byte_getD (s : ByteArray) (k : Nat) (h : k < s.size) : s.data.toList.getD k 0 = s[k] := by
  have h2 : k < s.data.toList.length := by simpa using h
  rw [List.getD, List.getElem?_eq_getElem h2]
  rfl

set_option maxHeartbeats 1000000 in
set_option maxRecDepth 100000 in
theorem rcrc_any (s : ByteArray) (w : World) (hs : s.size ≤ 1099511627776) : Calls Try.prog 18 #[.string s] w fun e w' => e = .returned (.int .i64 (crcV s : Nat)) ∧ Only (fun _ => False) w w' := by
  go_enter Try.func18, Try.ntmps18
  go_wp2_with fail
  go_loopw [4, 3] (fun i x wr => ∃ k : Nat, i = .int .i64 k ∧ x = .int .i64 (crcN s k : Nat) ∧ k ≤ s.size ∧ Only (fun _ => False) w wr) (fun i _ _ => s.size - (intOf i).toNat)
  case atStart => exact ⟨0, rfl, rfl, by omega, Only.refl _ _⟩
  case round =>
    obtain ⟨k, rfl, rfl, hk, hO⟩ := hrel
    have hN := Lib.hid (show crcN s (k + 1) = crcSteps 8 (crcN s k ^^^ (s.data.toList.getD k 0).toNat) from rfl)
    have hlt0 := crcN_lt s k
    generalize hX : crcN s k = x at hN hlt0 ⊢
    by_cases hlt : k < s.size
    · have hc256 : s[k].toNat < 256 := UInt8.toNat_lt _
      have hget : (s.data.toList.getD k 0).toNat = s[k].toNat := by rw [byte_getD s k hlt]
      rw [hget] at hN
      have hw : wrap64 (s[k].toNat : Int) = (s[k].toNat : Int) := by unfold wrap64; omega
      have hxr := xor_nat x s[k].toNat hlt0 (by omega)
      have hy0 : x ^^^ s[k].toNat < 4294967296 := Nat.xor_lt_two_pow (n := 32) hlt0 (by omega)
      generalize hY : x ^^^ s[k].toNat = y at hxr hy0 hN
      clear hY hget
      go_wp2_with fail
      clear hxr hw
      go_loopw [5, 3] (fun jv xv wq => ∃ j : Nat, jv = .int .i64 j ∧ xv = .int .i64 (crcSteps j y : Nat) ∧ j ≤ 8 ∧ Only (fun _ => False) w wq) (fun j _ _ => 8 - (intOf j).toNat)
      case atStart => exact ⟨0, rfl, rfl, by omega, hO⟩
      case round =>
        clear hO
        obtain ⟨j, rfl, rfl, hj, hO⟩ := hrel
        have hS := Lib.hid (show crcSteps (j + 1) y = crcStep (crcSteps j y) from rfl)
        have hz0 := crcSteps_lt hy0 j
        generalize hZ : crcSteps j y = z at hS hz0 ⊢
        have HZ := Lib.hid hZ
        clear hZ
        have hdiv : (z : Int) / 2 = ((z / 2 : Nat) : Int) := by omega
        by_cases hj8 : j < 8
        · by_cases hodd : z % 2 = 1
          · have b1 : ((z : Int) % 2 == 1) = true := by simp; omega
            have hx2 : bits .xor .i64 ((z : Int) / 2) 3988292384 = ((z / 2 ^^^ 3988292384 : Nat) : Int) := by
              rw [hdiv]; exact xor_nat (z / 2) 3988292384 (by omega) (by decide)
            have hs2 : crcSteps (j + 1) y = z / 2 ^^^ 3988292384 := by rw [hS.out]; unfold crcStep; rw [if_pos hodd]
            have HS2 := Lib.hid hs2
            clear hs2 hodd hdiv
            go_wp2_with fail
            go_roundw
            case rel => exact ⟨j + 1, by go_num, by rw [HS2.out], by omega, hO⟩
            case measure => simp [intOf]; omega
          · have b1 : ((z : Int) % 2 == 1) = false := by simp; omega
            have hs2 : crcSteps (j + 1) y = z / 2 := by rw [hS.out]; unfold crcStep; rw [if_neg hodd]
            have HS2 := Lib.hid hs2
            have HD := Lib.hid hdiv
            clear hs2 hodd hdiv
            go_wp2_with fail
            go_roundw
            case rel => exact ⟨j + 1, by go_num, by rw [HS2.out, ← HD.out], by omega, hO⟩
            case measure => simp [intOf]; omega
        · obtain rfl : j = 8 := by omega
          clear hdiv
          go_wp2_with fail
          go_roundw
          case rel => exact ⟨k + 1, by go_num, by rw [hN.out, HZ.out], by omega, hO⟩
          case measure => simp [intOf]; omega
    · obtain rfl : k = s.size := by omega
      have hv : crcV s = x ^^^ 4294967295 := by unfold crcV; rw [hX]
      have hfin : bits .xor .i64 (x : Int) 4294967295 = ((crcV s : Nat) : Int) := by rw [hv]; exact xor_nat x 4294967295 hlt0 (by decide)
      clear hv hX
      go_wp2_with fail
      go_ret
      exact ⟨rfl, hO⟩

set_option maxHeartbeats 1000000 in
set_option maxRecDepth 100000 in
theorem crc_any (s : ByteArray) (w : World) (hs : s.size ≤ 1099511627776) : Calls Try.prog 17 #[.string s] w fun e w' => e = .returned (.int .i64 (crcV s : Nat)) ∧ Only (fun _ => False) w w' := by
  have hconv := Lib.run_convert_string_bytes (P := Try.prog) w 9 34 5 s Try.underlying9 Try.underlying34 Try.underlying5
  have hO0 : Only (fun _ => False) w (Lib.bytesWorld w 5 s) := ⟨rfl, rfl, rfl, by rw [Lib.bytesWorld_size]; omega, fun k hk _ => Lib.bytesWorld_at_old w 5 s k hk⟩
  have hcells := Lib.hid (Lib.bytesWorld_cell w 5 s)
  have hbb : w.heap.size < (Lib.bytesWorld w 5 s).heap.size := by rw [Lib.bytesWorld_size]; omega
  go_enter Try.func17, Try.ntmps17
  go_wp2_with fail
  clear hconv
  have hbs : (Lib.bytesWorld w 5 s).heap.size = w.heap.size + 1 := Lib.bytesWorld_size w 5 s
  generalize hbw : Lib.bytesWorld w 5 s = w0 at hO0 hcells hbb hbs ⊢
  generalize hp : w.heap.size = p at hcells hbb hbs ⊢
  clear hbw hbs
  go_loopw [10, 3] (fun i x wr => ∃ k : Nat, i = .int .i64 k ∧ x = .int .i64 (crcN s k : Nat) ∧ k ≤ s.size ∧ Only (fun _ => False) w0 wr) (fun i _ _ => s.size - (intOf i).toNat)
  case atStart => exact ⟨0, rfl, rfl, by omega, Only.refl _ _⟩
  case round =>
    obtain ⟨k, rfl, rfl, hk, hO⟩ := hrel
    have hN := Lib.hid (show crcN s (k + 1) = crcSteps 8 (crcN s k ^^^ (s.data.toList.getD k 0).toNat) from rfl)
    have hlt0 := crcN_lt s k
    generalize hX : crcN s k = x at hN hlt0 ⊢
    by_cases hlt : k < s.size
    · have hcell : wr.cell? ⟨p, k, none⟩ = some (.int .u8 (s.data.toList.getD k 0).toNat) := cell_only hO (fun h => h) (hcells.out k hlt)
      have hc256 : (s.data.toList.getD k 0).toNat < 256 := UInt8.toNat_lt _
      generalize (s.data.toList.getD k 0).toNat = cc at hcell hc256 hN
      have hw : wrap64 (cc : Int) = (cc : Int) := by unfold wrap64; omega
      have hxr := xor_nat x cc hlt0 (by omega)
      have hy0 : x ^^^ cc < 4294967296 := Nat.xor_lt_two_pow (n := 32) hlt0 (by omega)
      generalize hY : x ^^^ cc = y at hxr hy0 hN
      clear hY
      go_wp2_with fail
      clear hxr hw hcell
      go_loopw [18, 3] (fun jv xv wq => ∃ j : Nat, jv = .int .i64 j ∧ xv = .int .i64 (crcSteps j y : Nat) ∧ j ≤ 8 ∧ Only (fun _ => False) w0 wq) (fun j _ _ => 8 - (intOf j).toNat)
      case atStart => exact ⟨0, rfl, rfl, by omega, hO⟩
      case round =>
        clear hO
        obtain ⟨j, rfl, rfl, hj, hO⟩ := hrel
        have hS := Lib.hid (show crcSteps (j + 1) y = crcStep (crcSteps j y) from rfl)
        have hz0 := crcSteps_lt hy0 j
        generalize hZ : crcSteps j y = z at hS hz0 ⊢
        have HZ := Lib.hid hZ
        clear hZ
        have hdiv : (z : Int) / 2 = ((z / 2 : Nat) : Int) := by omega
        have hand := and_one z hz0
        by_cases hj8 : j < 8
        · by_cases hodd : z % 2 = 1
          · rw [hodd] at hand
            have hx2 : bits .xor .i64 ((z : Int) / 2) 3988292384 = ((z / 2 ^^^ 3988292384 : Nat) : Int) := by
              rw [hdiv]; exact xor_nat (z / 2) 3988292384 (by omega) (by decide)
            have hs2 : crcSteps (j + 1) y = z / 2 ^^^ 3988292384 := by rw [hS.out]; unfold crcStep; rw [if_pos hodd]
            have HS2 := Lib.hid hs2
            clear hs2 hodd hdiv
            go_wp2_with fail
            go_roundw
            case rel => exact ⟨j + 1, by go_num, by rw [HS2.out], by omega, hO⟩
            case measure => simp [intOf]; omega
          · rw [show z % 2 = 0 from by omega] at hand
            have hs2 : crcSteps (j + 1) y = z / 2 := by rw [hS.out]; unfold crcStep; rw [if_neg hodd]
            have HS2 := Lib.hid hs2
            have HD := Lib.hid hdiv
            clear hs2 hodd hdiv
            go_wp2_with fail
            go_roundw
            case rel => exact ⟨j + 1, by go_num, by rw [HS2.out, ← HD.out], by omega, hO⟩
            case measure => simp [intOf]; omega
        · obtain rfl : j = 8 := by omega
          clear hdiv hand
          go_wp2_with fail
          go_roundw
          case rel => exact ⟨k + 1, by go_num, by rw [hN.out, HZ.out], by omega, hO⟩
          case measure => simp [intOf]; omega
    · obtain rfl : k = s.size := by omega
      have hv : crcV s = x ^^^ 4294967295 := by unfold crcV; rw [hX]
      have hfin : bits .xor .i64 (x : Int) 4294967295 = ((crcV s : Nat) : Int) := by rw [hv]; exact xor_nat x 4294967295 hlt0 (by decide)
      clear hv hX
      go_wp2_with fail
      go_ret
      exact ⟨rfl, hO0.trans hO⟩

end Go.Proofs.Yteifehienpeaiaa
