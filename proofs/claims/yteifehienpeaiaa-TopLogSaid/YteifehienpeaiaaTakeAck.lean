/-
  An end of a channel takes an acknowledgement.
  Conditions: numbers are of the kind int, the end's own in their bounds.
-/
import Derived.Test.YteifehienpeaiaaEndTick
set_option linter.unusedVariables false
set_option linter.unusedSimpArgs false
set_option maxRecDepth 100000
namespace Go.Proofs.Yteifehienpeaiaa
open Go.RowKit

def CS.acks (s : CS) (n : Int) : CS := if s.last < n ∨ n ≤ s.acked then s else { s with acked := n, O := s.O.filter (fun x => decide (n < x.key)) }
def CS.ackd (s : CS) (j : Nat) : CS := { s with acked := s.acked + j, O := s.O.filter (fun x => decide (s.acked + j < x.key)) }

theorem delI_encO (k : Int) (O : List Sn) : delI (encO O) k = encO (O.filter (fun x => x.key != k)) := by
  unfold delI encO
  rw [List.filter_map]
  rfl

theorem ackd_zero (s : CS) (h : ∀ x ∈ s.O, s.acked < x.key) : s.ackd 0 = s := by
  have e : s.O.filter (fun x => decide (s.acked + ((0 : Nat) : Int) < x.key)) = s.O := by
    rw [List.filter_eq_self]
    intro x hx
    have := h x hx
    simpa using this
  unfold CS.ackd
  rw [e]
  cases s
  simp

theorem ackd_succ (s : CS) (j : Nat) : ((s.ackd j).O.filter (fun x => x.key != s.acked + j + 1)) = (s.ackd (j + 1)).O := by
  show (s.O.filter (fun x => decide (s.acked + j < x.key))).filter (fun x => x.key != s.acked + j + 1) = s.O.filter (fun x => decide (s.acked + ((j + 1 : Nat) : Int) < x.key))
  rw [List.filter_filter]
  refine List.filter_congr fun x _ => ?_
  rw [Bool.eq_iff_iff]
  simp only [Bool.and_eq_true, bne_iff_ne, decide_eq_true_eq]
  omega

/-- A letter that is acknowledged goes. -/
theorem EndAt.del {w w' : World} {g mo me : Nat} {s : CS} {k : Int} (h : EndAt w g mo me s) (hm : MapI w' mo (delI (encO s.O) k)) (hk : Only (fun b => b = mo) w w') : EndAt w' g mo me { s with O := s.O.filter (fun x => x.key != k) } := by
  have hmg : mo ≠ g := map_cells h.omap h.cell
  refine ⟨hk.at h.cell (fun e => hmg e.symm), by rw [← delI_encO]; exact hm, h.emap.only hk (fun e => h.dis e.symm), fun x hx => ?_, h.dis, h.own.sublist ((List.filter_sublist).map _), fun x hx => h.far x (List.mem_filter.1 hx).1⟩
  have hc := h.sent x (List.mem_filter.1 hx).1
  exact hk.at hc (fun e => map_cells h.omap hc e.symm)

/-- How far an end is acknowledged. -/
def ackedOf (w : World) (g : Nat) : Int := intOf ((w.cell? ⟨g, 9, none⟩).getD undef)
theorem EndAt.ackedOf {w : World} {g mo me : Nat} {s : CS} (h : EndAt w g mo me s) : ackedOf w g = s.acked := by
  have x9 := (blk_cell h.cell 9).trans (show (s.cells mo me)[9]? = some (.int .i64 s.acked) from rfl)
  unfold Go.Proofs.Yteifehienpeaiaa.ackedOf
  rw [x9]
  rfl

set_option maxHeartbeats 1000000 in
theorem ack_any (w : World) (g mo me : Nat) (s : CS) (n : Int) (h : EndAt w g mo me s) (hkeys : ∀ x ∈ s.O, s.acked < x.key) (ha : 0 ≤ s.acked) (hl : s.last ≤ 4294967295) :
    Calls Try.prog 53 #[.pointer (some ⟨g, 0, none⟩), .int .i64 n] w fun e w' => e = .returned (.tuple #[]) ∧ EndAt w' g mo me (s.acks n) ∧ Only (fun k => k = g ∨ k = mo) w w' := by
  have x8 := (blk_cell h.cell 8).trans (show (s.cells mo me)[8]? = some (.int .i64 s.last) from rfl)
  by_cases h1 : s.last < n
  · have HA := Lib.hid (show s.acks n = s from if_pos (.inl h1))
    have H := Lib.hid h
    clear h hkeys
    go_enter Try.func53, Try.ntmps53
    go_wp2_with fail
    refine bodyPost_ret (results_none rfl _ _ _) rfl ?_
    exact ⟨rfl, by rw [HA.out]; exact H.out, Only.refl _ _⟩
  · by_cases h2 : n ≤ s.acked
    · have HA := Lib.hid (show s.acks n = s from if_pos (.inr h2))
      have x9 := (blk_cell h.cell 9).trans (show (s.cells mo me)[9]? = some (.int .i64 s.acked) from rfl)
      have d2 : ¬ s.acked < n := by omega
      have H := Lib.hid h
      clear h hkeys h2
      go_enter Try.func53, Try.ntmps53
      go_wp2_with fail
      refine wp_loop_rounds 1 ?_
      rw [rounds_succ]
      go_wp2_with fail
      go_end0
      exact ⟨rfl, by rw [HA.out]; exact H.out, Only.refl _ _⟩
    · have hacks : s.acks n = { s with acked := n, O := s.O.filter (fun x => decide (n < x.key)) } := if_neg (by omega)
      have HA := Lib.hid hacks
      have h0 : EndAt w g mo me (s.ackd 0) := by rw [ackd_zero s hkeys]; exact h
      have H0 := Lib.hid h0
      clear h hkeys hacks h0
      go_enter Try.func53, Try.ntmps53
      go_wp2_with fail
      go_loopw [] (fun wr => ∃ j : Nat, s.acked + j ≤ n ∧ EndAt wr g mo me (s.ackd j) ∧ Only (fun k => k = g ∨ k = mo) w wr) (fun wr => (n - ackedOf wr g).toNat)
      case atStart => exact ⟨0, by omega, H0.out, Only.refl _ _⟩
      case round =>
        obtain ⟨j, hj, hE, hO⟩ := hrel
        have hao : ackedOf wr g = s.acked + j := hE.ackedOf
        have HAO := Lib.hid hao
        clear hao
        have x9 := (blk_cell hE.cell 9).trans (show ((s.ackd j).cells mo me)[9]? = some (.int .i64 (s.acked + j)) from rfl)
        have x14 := (blk_cell hE.cell 14).trans (show ((s.ackd j).cells mo me)[14]? = some (.map (some mo)) from rfl)
        by_cases hjn : s.acked + (j : Int) < n
        · have hEd := hE.keep ((Only.refl (fun _ => False) wr).drew)
          have hOd := hO.drew
          obtain ⟨w3, hdel, hm3, hk3, hz3⟩ := hEd.omap.del und_mapO und_int (s.acked + (j : Int) + 1) 0
          have hwr : IntKind.i64.wrap (s.acked + (j : Int) + 1) = s.acked + (j : Int) + 1 := by rw [IntKind.wrap_i64]; omega
          have hE3 : EndAt w3 g mo me { s.ackd j with O := (s.ackd (j + 1)).O } := by
            rw [← ackd_succ]
            exact hEd.del hm3 hk3
          have hO3 : Only (fun k => k = g ∨ k = mo) w w3 := hOd.then hk3 (fun _ _ e => .inr e)
          have HE3 := Lib.hid hE3
          clear hE3 hE hEd hO hOd hm3 hk3 hz3
          go_wp2_with fail
          go_region
          have y9 := (blk_cell HE3.out.cell 9).trans (show (({ s.ackd j with O := (s.ackd (j + 1)).O } : CS).cells mo me)[9]? = some (.int .i64 (s.acked + j)) from rfl)
          have yf := blk_free HE3.out.cell 9
          clear hdel hwr x9 x14
          go_wp2_with fail
          have hE4 : EndAt (w3.setCell ⟨g, 9, none⟩ (.int .i64 (s.acked + (j : Int) + 1))) g mo me (s.ackd (j + 1)) := by
            have := HE3.out.set (s' := s.ackd (j + 1)) 9 (.int .i64 (s.acked + (j : Int) + 1)) (by
              show _ = CS.cells _ mo me
              unfold CS.cells CS.ackd
              simp [Int.add_assoc]) rfl rfl
            exact this
          have hO4 := hO3.setCell ⟨g, 9, none⟩ (.int .i64 (s.acked + (j : Int) + 1)) (fun _ => .inl rfl)
          have ha4 : ackedOf (w3.setCell ⟨g, 9, none⟩ (.int .i64 (s.acked + (j : Int) + 1))) g = s.acked + ((j + 1 : Nat) : Int) := hE4.ackedOf
          have HA4 := Lib.hid ha4
          clear ha4 y9 yf
          go_roundw
          case rel => exact ⟨j + 1, by omega, hE4, hO4⟩
          case measure => rw [HA4.out, HAO.out]; omega
        · have hjn2 : s.acked + (j : Int) = n := by omega
          have hfin : s.ackd j = s.acks n := by
            rw [HA.out]
            unfold CS.ackd
            rw [hjn2]
          have HF := Lib.hid hfin
          have HE := Lib.hid hE
          clear hfin hE hjn2
          go_wp2_with fail
          go_end0
          exact ⟨rfl, by rw [← HF.out]; exact HE.out, hO⟩

end Go.Proofs.Yteifehienpeaiaa
