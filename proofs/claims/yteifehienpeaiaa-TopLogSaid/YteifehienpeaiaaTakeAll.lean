/-
  An end of a channel takes a letter of its epoch.
  Conditions: numbers are of the kind int, the end's own in their bounds; strings within the form's reach.
-/
import Derived.Test.YteifehienpeaiaaTakeNext
import Derived.Test.YteifehienpeaiaaTakeNo
set_option linter.unusedVariables false
set_option linter.unusedSimpArgs false
set_option maxRecDepth 100000
namespace Go.Proofs.Yteifehienpeaiaa
open Go.RowKit

/-- An end that has heard a letter: when, its role, what it acknowledges. -/
def CS.hears (s : CS) (r a now : Int) : CS := ({ s.ticked now with hat := (s.ticked now).now, hrole := r } : CS).acks a
/-- One more that came ahead of its turn. -/
def CS.keeps (s : CS) (n : Int) (d : ByteArray) : CS := if (lookE s.E n).isSome ∨ n ≤ s.taken ∨ s.room < n - s.taken then s else { s with E := s.E ++ [(n, d)] }
/-- An end behind a letter, and what it brings. -/
def CS.takes (s : CS) (k r n a : Int) (d : ByteArray) (now : Int) : CS := if k = 2 then { s.hears r a now with hmark := n } else (({ s.hears r a now with bat := (s.hears r a now).now } : CS).keeps n d).nexts
def CS.brings (s : CS) (k r n a : Int) (d : ByteArray) (now : Int) : List ByteArray := if k = 2 then [] else (({ s.hears r a now with bat := (s.hears r a now).now } : CS).keeps n d).news

theorem acks_frame (s : CS) (a : Int) : (s.acks a).E = s.E ∧ (s.acks a).taken = s.taken ∧ (s.acks a).room = s.room ∧ (s.acks a).now = s.now := by
  unfold CS.acks
  split <;> exact ⟨rfl, rfl, rfl, rfl⟩
theorem hears_frame (s : CS) (r a now : Int) : (s.hears r a now).E = s.E ∧ (s.hears r a now).taken = s.taken ∧ (s.hears r a now).room = s.room ∧ (s.hears r a now).now = (s.ticked now).now := by
  unfold CS.hears
  obtain ⟨h1, h2, h3, h4⟩ := acks_frame ({ s.ticked now with hat := (s.ticked now).now, hrole := r } : CS) a
  exact ⟨h1, h2, h3, h4⟩

theorem putI_encE {E : List (Int × ByteArray)} {n : Int} (h : lookE E n = none) (d : ByteArray) : putI (encE E) n (.string d) = encE (E ++ [(n, d)]) := by
  unfold putI
  rw [getI_encE, h]
  simp [encE]

set_option maxHeartbeats 4000000 in
theorem take_letter (w : World) (g mo me : Nat) (s : CS) (S : ByteArray) (now : Int) (h : EndAt w g mo me s) (hs : S.size ≤ 140737488355328) (hok : DecOk S) (he : numAt S 1 4 = s.epoch) (hkeys : ∀ x ∈ s.O, s.acked < x.key) (ha : 0 ≤ s.acked) (hl : s.last ≤ 4294967295) (t0 : 0 ≤ s.taken) (t1 : s.taken + s.E.length + 1 ≤ 4294967295) (hEl : s.E.length ≤ 999999) (hroom : 0 ≤ s.room ∧ s.room ≤ 64)
    (k r n a : Int) (d : ByteArray) (hk : numAt S 0 1 = k) (hr : numAt S 5 1 = r) (hn : numAt S 6 4 = n) (haa : numAt S 10 4 = a) (hd : S.extract 16 (S.size - 4) = d) (n0 : 0 ≤ n) (n1 : n ≤ 4294967295) (k12 : k = 1 ∨ k = 2) :
    Calls Try.prog 25 #[.pointer (some ⟨g, 0, none⟩), .string S, .int .i64 now] w fun e w' => ∃ v, e = .returned (.tuple #[v, .int .i64 0]) ∧ w'.ownsRow w.heap.size 9 1 v (s.brings k r n a d now).length ((s.brings k r n a d now).map Value.string) ∧ EndAt w' g mo me (s.takes k r n a d now) ∧ Only (fun x => x = g ∨ x = mo ∨ x = me) w w' := by
  have H := Lib.hid h
  have HK := Lib.hid hok
  have HE := Lib.hid he
  have HKEYS := Lib.hid hkeys
  have HV := Lib.hid (show _ ∧ _ ∧ _ ∧ _ ∧ _ from ⟨hk, hr, hn, haa, hd⟩)
  obtain ⟨q0, q1⟩ := hroom
  clear h hok he hkeys hk hr hn haa hd
  go_enter Try.func25, Try.ntmps25
  go_wp2_with fail
  refine (decode_ok S _ hs HK.out).mono ?_
  rintro e w1 ⟨rfl, hk1⟩
  unfold letterV
  rw [HV.out.1, HV.out.2.1, HV.out.2.2.1, HV.out.2.2.2.1, HV.out.2.2.2.2, HE.out]
  have hO := hk1.alloc (.cells #[.int .i64 k, .int .i64 s.epoch, .int .i64 r, .int .i64 n, .int .i64 a, .string d] 23)
  have h1 := H.out.keep hO
  have hx := blk_new w1 (.cells #[.int .i64 k, .int .i64 s.epoch, .int .i64 r, .int .i64 n, .int .i64 a, .string d] 23)
  have hpw := hk1.size
  have y1 := (blk_cell hx 1).trans rfl
  have x3 := (blk_cell h1.cell 3).trans (show (s.cells mo me)[3]? = some (.int .i64 s.epoch) from rfl)
  have H1 := Lib.hid h1
  have HX := Lib.hid hx
  clear h1 hx
  go_wp2_with fail
  generalize w1.alloc (.cells #[.int .i64 k, .int .i64 s.epoch, .int .i64 r, .int .i64 n, .int .i64 a, .string d] 23) = w2 at hO y1 x3 H1 HX ⊢
  generalize w1.heap.size = p at hpw y1 HX ⊢
  go_quiet (fail)
  have hp0 := (blk_cell HX.out 0).trans (show #[(.int .i64 k : Value), .int .i64 s.epoch, .int .i64 r, .int .i64 n, .int .i64 a, .string d][0]? = some (.int .i64 k) from rfl)
  have hp2 := (blk_cell HX.out 2).trans (show #[(.int .i64 k : Value), .int .i64 s.epoch, .int .i64 r, .int .i64 n, .int .i64 a, .string d][2]? = some (.int .i64 r) from rfl)
  have hp3 := (blk_cell HX.out 3).trans (show #[(.int .i64 k : Value), .int .i64 s.epoch, .int .i64 r, .int .i64 n, .int .i64 a, .string d][3]? = some (.int .i64 n) from rfl)
  have hp4 := (blk_cell HX.out 4).trans (show #[(.int .i64 k : Value), .int .i64 s.epoch, .int .i64 r, .int .i64 n, .int .i64 a, .string d][4]? = some (.int .i64 a) from rfl)
  have hp5 := (blk_cell HX.out 5).trans (show #[(.int .i64 k : Value), .int .i64 s.epoch, .int .i64 r, .int .i64 n, .int .i64 a, .string d][5]? = some (.string d) from rfl)
  have hgl := H.out.lt g (.inl rfl)
  have hmol := H.out.lt mo (.inr (.inl rfl))
  have hmel := H.out.lt me (.inr (.inr (.inl rfl)))
  have hpg : ¬ p = g := by omega
  have hpgm : ¬ (p = g ∨ p = mo) := by omega
  have hpe : ¬ p = me := by omega
  have H2 := Lib.hid (H1.out.keep ((Only.refl (fun _ => False) w2).drewN nq))
  have hO2 : Only (fun x => x = g ∨ x = mo ∨ x = me) w (w2.drewN nq) := (hO.mono (fun _ _ h => h.elim)).drewN nq
  replace hp0 : (w2.drewN nq).cell? ⟨p, 0, none⟩ = some (.int .i64 k) := hp0
  replace hp2 : (w2.drewN nq).cell? ⟨p, 2, none⟩ = some (.int .i64 r) := hp2
  replace hp3 : (w2.drewN nq).cell? ⟨p, 3, none⟩ = some (.int .i64 n) := hp3
  replace hp4 : (w2.drewN nq).cell? ⟨p, 4, none⟩ = some (.int .i64 a) := hp4
  replace hp5 : (w2.drewN nq).cell? ⟨p, 5, none⟩ = some (.string d) := hp5
  generalize w2.drewN nq = w3 at H2 hO2 hp0 hp2 hp3 hp4 hp5 ⊢
  clear x3 y1 H1 HX hO hk1
  go_wp2_with fail
  refine (tick_any w3 g mo me s now H2.out).mono ?_
  rintro e w4 ⟨rfl, h4, hk4⟩
  replace hp0 := cell_only hk4 hpg hp0
  replace hp2 := cell_only hk4 hpg hp2
  replace hp3 := cell_only hk4 hpg hp3
  replace hp4 := cell_only hk4 hpg hp4
  replace hp5 := cell_only hk4 hpg hp5
  have hO4 := hO2.then hk4 (fun _ _ e => .inl e)
  have htn : (s.ticked now).now = (s.ticked now).now := rfl
  have x6 := (blk_cell h4.cell 6).trans (show ((s.ticked now).cells mo me)[6]? = some (.int .i64 (s.ticked now).now) from rfl)
  have x11 := (blk_cell h4.cell 11).trans (show ((s.ticked now).cells mo me)[11]? = some (.int .i64 s.hat) from rfl)
  have x12 := (blk_cell h4.cell 12).trans (show ((s.ticked now).cells mo me)[12]? = some (.int .i64 s.hrole) from rfl)
  have f11 := blk_free h4.cell 11
  have f12 := blk_free h4.cell 12
  have H4 := Lib.hid h4
  clear hO2 H2 hk4 htn h4
  go_wp2_with fail
  go_region
  have h5 : EndAt ((w4.setCell ⟨g, 11, none⟩ (.int .i64 (s.ticked now).now)).setCell ⟨g, 12, none⟩ (.int .i64 r)).drew g mo me ({ s.ticked now with hat := (s.ticked now).now, hrole := r } : CS) :=
    ((H4.out.set (s' := ({ s.ticked now with hat := (s.ticked now).now } : CS)) 11 (.int .i64 (s.ticked now).now) rfl rfl rfl).set (s' := ({ s.ticked now with hat := (s.ticked now).now, hrole := r } : CS)) 12 (.int .i64 r) rfl rfl rfl).keep (Only.refl (fun _ => False) _).drew
  have hk5 : Only (fun x => x = g) w4 ((w4.setCell ⟨g, 11, none⟩ (.int .i64 (s.ticked now).now)).setCell ⟨g, 12, none⟩ (.int .i64 r)).drew := (((Only.refl (fun x => x = g) w4).setCell ⟨g, 11, none⟩ (.int .i64 (s.ticked now).now) (fun _ => rfl)).setCell ⟨g, 12, none⟩ (.int .i64 r) (fun _ => rfl)).drew
  generalize ((w4.setCell ⟨g, 11, none⟩ (.int .i64 (s.ticked now).now)).setCell ⟨g, 12, none⟩ (.int .i64 r)).drew = w5 at h5 hk5 ⊢
  have hO5 := hO4.then hk5 (fun _ _ e => .inl e)
  replace hp0 := cell_only hk5 hpg hp0
  replace hp2 := cell_only hk5 hpg hp2
  replace hp3 := cell_only hk5 hpg hp3
  replace hp4 := cell_only hk5 hpg hp4
  replace hp5 := cell_only hk5 hpg hp5
  have H5 := Lib.hid h5
  clear x6 x11 x12 f11 f12 h5 hk5 hO4 H4
  go_wp2_with fail
  refine (ack_any w5 g mo me _ a H5.out HKEYS.out ha hl).mono ?_
  rintro e w6 ⟨rfl, h6, hk6⟩
  replace h6 : EndAt w6 g mo me (s.hears r a now) := h6
  have hO6 := hO5.then hk6 (fun _ _ e => e.elim .inl (fun e => .inr (.inl e)))
  replace hp0 := cell_only hk6 hpgm hp0
  replace hp3 := cell_only hk6 hpgm hp3
  replace hp5 := cell_only hk6 hpgm hp5
  obtain ⟨fr1, fr2, fr3, fr4⟩ := hears_frame s r a now
  have HB : Hid (s.brings k r n a d now = if k = 2 then [] else (({ s.hears r a now with bat := (s.hears r a now).now } : CS).keeps n d).news) := Lib.hid rfl
  have HT : Hid (s.takes k r n a d now = if k = 2 then { s.hears r a now with hmark := n } else (({ s.hears r a now with bat := (s.hears r a now).now } : CS).keeps n d).nexts) := Lib.hid rfl
  generalize s.hears r a now = s6 at h6 fr1 fr2 fr3 fr4 HB HT
  have H6 := Lib.hid h6
  have FR := Lib.hid (show _ ∧ _ ∧ _ from ⟨fr1, fr2, fr3⟩)
  clear hO5 hk6 h6 H5 hp2 hp4 fr1 fr2 fr3 fr4
  rcases k12 with hk | hk
  · have hk2 : ¬ k = 2 := by omega
    rw [if_neg hk2] at HB HT
    have d12 : (k == 2) = false := by simpa using hk2
    have f7 := blk_free H6.out.cell 7
    have x6 := (blk_cell H6.out.cell 6).trans (show (s6.cells mo me)[6]? = some (.int .i64 s6.now) from rfl)
    have x7 := (blk_cell H6.out.cell 7).trans (show (s6.cells mo me)[7]? = some (.int .i64 s6.bat) from rfl)
    clear hk hk2
    go_upto_region 13 with fail
    have h7 : EndAt (w6.setCell ⟨g, 7, none⟩ (.int .i64 s6.now)) g mo me ({ s6 with bat := s6.now } : CS) := H6.out.set (s' := ({ s6 with bat := s6.now } : CS)) 7 (.int .i64 s6.now) rfl rfl rfl
    have hk7 := (Only.refl (fun x => x = g) w6).setCell ⟨g, 7, none⟩ (.int .i64 s6.now) (fun _ => rfl)
    generalize w6.setCell ⟨g, 7, none⟩ (.int .i64 s6.now) = w7 at h7 hk7 ⊢
    have hO7 := hO6.then hk7 (fun _ _ e => .inl e)
    replace hp3 := cell_only hk7 hpg hp3
    replace hp5 := cell_only hk7 hpg hp5
    have hEE : ({ s6 with bat := s6.now } : CS).E = s.E := FR.out.1
    have hTT : ({ s6 with bat := s6.now } : CS).taken = s.taken := FR.out.2.1
    have hRR : ({ s6 with bat := s6.now } : CS).room = s.room := FR.out.2.2
    generalize ({ s6 with bat := s6.now } : CS) = s7 at h7 HB HT hEE hTT hRR
    clear hk7 f7 x6 x7 H6 FR hO6 hp0
    have hd7 := h7.keep ((Only.refl (fun _ => False) w7).drew)
    have hget := getI_encE n s.E
    have hlook := hd7.emap.look und_mapE und_int (zero_str _) n true
    rw [hEE, hget] at hlook
    have x15 := (blk_cell h7.cell 15).trans (show (s7.cells mo me)[15]? = some (.map (some me)) from rfl)
    have x10 := (blk_cell h7.cell 10).trans (show (s7.cells mo me)[10]? = some (.int .i64 s7.taken) from rfl)
    have x0 := (blk_cell h7.cell 0).trans (show (s7.cells mo me)[0]? = some (.int .i64 s7.room) from rfl)
    rw [hTT] at x10
    rw [hRR] at x0
    have HE7 := Lib.hid hEE
    have HT7 := Lib.hid hTT
    have HR7 := Lib.hid hRR
    have H7 := Lib.hid h7
    have HKP : Hid (s7.keeps n d = if (lookE s.E n).isSome ∨ n ≤ s.taken ∨ s.room < n - s.taken then s7 else { s7 with E := s.E ++ [(n, d)] }) := Lib.hid (by unfold CS.keeps; rw [hEE, hTT, hRR])
    have hwsub : IntKind.i64.wrap (n - s.taken) = n - s.taken := by rw [IntKind.wrap_i64]; omega
    clear hget hEE hTT hRR h7 hd7
    cases hlk : lookE s.E n with
    | some dd =>
      rw [hlk] at hlook HKP
      simp only [if_true, Option.map_some, Option.getD_some, Option.isSome_some] at hlook
      have HKS := Lib.hid (show s7.keeps n d = s7 from by rw [HKP.out]; simp)
      clear hlk HKP
      go_wp2_with fail
      go_region
      clear hlook x15
      have z3 : w7.drew.cell? ⟨p, 3, none⟩ = some (.int .i64 n) := hp3
      have z10 : w7.drew.cell? ⟨g, 10, none⟩ = some (.int .i64 s.taken) := x10
      have z0 : w7.drew.cell? ⟨g, 0, none⟩ = some (.int .i64 s.room) := x0
      have h8 := H7.out.keep ((Only.refl (fun _ => False) w7).drew)
      have hO8 := hO7.drew
      generalize w7.drew = w8 at z3 z10 z0 h8 hO8 ⊢
      clear hO7 hp3 hp5 x10 x0 H7
      go_wp2_with fail
      go_quiet (fail)
      have h9 := h8.keep ((Only.refl (fun _ => False) w8).drewN nq)
      have hO9 := hO8.drewN nq
      generalize w8.drewN nq = w9 at h9 hO9 ⊢
      have H9 := Lib.hid h9
      clear h8 hO8 z3 z10 z0 h9
      go_wp2_with fail
      refine (next_any w9 g mo me s7 H9.out (by rw [HT7.out]; exact t0) (by rw [HT7.out, HE7.out]; omega) (by rw [HE7.out]; omega)).mono ?_
      rintro e wz ⟨v, rfl, hrowz, hz, hkz⟩
      have HRZ := Lib.hid (World.ownsRow.mono hrowz (by have := (hO9).size; omega))
      have HZ := Lib.hid hz
      have HOZ := Lib.hid (show Only (fun x => x = g ∨ x = mo ∨ x = me) w wz from (hO9).then hkz (fun _ _ e => e.elim .inl (fun e => .inr (.inr e))))
      clear hrowz hz hkz
      go_wp2_with fail
      go_ret2
      exact ⟨v, rfl, by rw [HB.out, HKS.out]; exact HRZ.out, by rw [HT.out, HKS.out]; exact HZ.out, HOZ.out⟩
    | none =>
      rw [hlk] at hlook HKP
      simp only [if_true, Option.map_none, Option.getD_none, Option.isSome_none] at hlook
      by_cases hc1 : n ≤ s.taken
      · have HKS := Lib.hid (show s7.keeps n d = s7 from by rw [HKP.out]; exact if_pos (.inr (.inl hc1)))
        clear hlk HKP
        have d1 : decide (s.taken < n) = false := decide_eq_false (by omega)
        go_wp2_with fail
        go_region
        clear hlook x15
        have z3 : w7.drew.cell? ⟨p, 3, none⟩ = some (.int .i64 n) := hp3
        have z10 : w7.drew.cell? ⟨g, 10, none⟩ = some (.int .i64 s.taken) := x10
        have z0 : w7.drew.cell? ⟨g, 0, none⟩ = some (.int .i64 s.room) := x0
        have h8 := H7.out.keep ((Only.refl (fun _ => False) w7).drew)
        have hO8 := hO7.drew
        generalize w7.drew = w8 at z3 z10 z0 h8 hO8 ⊢
        clear hO7 hp3 hp5 x10 x0 H7
        go_wp2_with fail
        go_quiet (fail)
        have h9 := h8.keep ((Only.refl (fun _ => False) w8).drewN nq)
        have hO9 := hO8.drewN nq
        generalize w8.drewN nq = w9 at h9 hO9 ⊢
        have H9 := Lib.hid h9
        clear h8 hO8 z3 z10 z0 h9
        go_wp2_with fail
        refine (next_any w9 g mo me s7 H9.out (by rw [HT7.out]; exact t0) (by rw [HT7.out, HE7.out]; omega) (by rw [HE7.out]; omega)).mono ?_
        rintro e wz ⟨v, rfl, hrowz, hz, hkz⟩
        have HRZ := Lib.hid (World.ownsRow.mono hrowz (by have := (hO9).size; omega))
        have HZ := Lib.hid hz
        have HOZ := Lib.hid (show Only (fun x => x = g ∨ x = mo ∨ x = me) w wz from (hO9).then hkz (fun _ _ e => e.elim .inl (fun e => .inr (.inr e))))
        clear hrowz hz hkz
        go_wp2_with fail
        go_ret2
        exact ⟨v, rfl, by rw [HB.out, HKS.out]; exact HRZ.out, by rw [HT.out, HKS.out]; exact HZ.out, HOZ.out⟩
      · have d1 : decide (s.taken < n) = true := decide_eq_true (by omega)
        by_cases hc2 : s.room < n - s.taken
        · have HKS := Lib.hid (show s7.keeps n d = s7 from by rw [HKP.out]; exact if_pos (.inr (.inr hc2)))
          clear HKP hlk
          have d2 : decide (n - s.taken ≤ s.room) = false := decide_eq_false (by omega)
          go_wp2_with fail
          go_region
          clear hlook x15
          have z3 : w7.drew.cell? ⟨p, 3, none⟩ = some (.int .i64 n) := hp3
          have z10 : w7.drew.cell? ⟨g, 10, none⟩ = some (.int .i64 s.taken) := x10
          have z0 : w7.drew.cell? ⟨g, 0, none⟩ = some (.int .i64 s.room) := x0
          have h8 := H7.out.keep ((Only.refl (fun _ => False) w7).drew)
          have hO8 := hO7.drew
          generalize w7.drew = w8 at z3 z10 z0 h8 hO8 ⊢
          clear hO7 hp3 hp5 x10 x0 H7
          go_wp2_with fail
          go_quiet (fail)
          have h9 := h8.keep ((Only.refl (fun _ => False) w8).drewN nq)
          have hO9 := hO8.drewN nq
          generalize w8.drewN nq = w9 at h9 hO9 ⊢
          have H9 := Lib.hid h9
          clear h8 hO8 z3 z10 z0 h9
          go_wp2_with fail
          refine (next_any w9 g mo me s7 H9.out (by rw [HT7.out]; exact t0) (by rw [HT7.out, HE7.out]; omega) (by rw [HE7.out]; omega)).mono ?_
          rintro e wz ⟨v, rfl, hrowz, hz, hkz⟩
          have HRZ := Lib.hid (World.ownsRow.mono hrowz (by have := (hO9).size; omega))
          have HZ := Lib.hid hz
          have HOZ := Lib.hid (show Only (fun x => x = g ∨ x = mo ∨ x = me) w wz from (hO9).then hkz (fun _ _ e => e.elim .inl (fun e => .inr (.inr e))))
          clear hrowz hz hkz
          go_wp2_with fail
          go_ret2
          exact ⟨v, rfl, by rw [HB.out, HKS.out]; exact HRZ.out, by rw [HT.out, HKS.out]; exact HZ.out, HOZ.out⟩
        · have HKS := Lib.hid (show s7.keeps n d = { s7 with E := s.E ++ [(n, d)] } from by rw [HKP.out]; exact if_neg (by rintro (h | h | h) <;> first | cases h | exact hc1 h | exact hc2 h))
          have d2 : decide (n - s.taken ≤ s.room) = true := decide_eq_true (by omega)
          have HLK := Lib.hid hlk
          clear HKP hlk
          have z5 : w7.drew.cell? ⟨p, 5, none⟩ = some (.string d) := hp5
          have z15 : w7.drew.cell? ⟨g, 15, none⟩ = some (.map (some me)) := x15
          go_wp2_with fail
          go_region
          clear hlook x15
          have z3 : w7.drew.cell? ⟨p, 3, none⟩ = some (.int .i64 n) := hp3
          have z10 : w7.drew.cell? ⟨g, 10, none⟩ = some (.int .i64 s.taken) := x10
          have z0 : w7.drew.cell? ⟨g, 0, none⟩ = some (.int .i64 s.room) := x0
          have h8 := H7.out.keep ((Only.refl (fun _ => False) w7).drew)
          have hO8 := hO7.drew
          generalize w7.drew = w8 at z3 z5 z15 z10 z0 h8 hO8 ⊢
          clear hO7 hp3 hp5 x10 x0 H7
          go_wp2_with fail
          go_quiet (fail)
          have h9 := h8.keep ((Only.refl (fun _ => False) w8).drewN nq)
          have hO9 := hO8.drewN nq
          replace z3 : (w8.drewN nq).cell? ⟨p, 3, none⟩ = some (.int .i64 n) := z3
          replace z5 : (w8.drewN nq).cell? ⟨p, 5, none⟩ = some (.string d) := z5
          replace z15 : (w8.drewN nq).cell? ⟨g, 15, none⟩ = some (.map (some me)) := z15
          generalize w8.drewN nq = w9 at h9 hO9 z3 z5 z15 ⊢
          have H9 := Lib.hid h9
          clear h8 hO8 z10 z0 h9
          have h9d := H9.out.keep ((Only.refl (fun _ => False) w9).drew)
          obtain ⟨wu, hput, hmu, hku, hzu⟩ := h9d.emap.put und_mapE und_int n (.string d)
          rw [HE7.out, putI_encE HLK.out] at hmu
          have hu := h9d.early hmu hku
          have hOu := hO9.drew.then hku (fun _ _ e => .inr (.inr e))
          have HU := Lib.hid hu
          clear hu hmu hku hzu h9d
          go_wp2_with fail
          go_region
          clear hput z3 z5 z15
          go_wp2_with fail
          refine (next_any wu g mo me { s7 with E := s.E ++ [(n, d)] } HU.out (by show 0 ≤ s7.taken; rw [HT7.out]; exact t0) (by show s7.taken + ((s.E ++ [(n, d)]).length : Int) ≤ 4294967295; rw [HT7.out, List.length_append]; simp only [List.length_cons, List.length_nil]; omega) (by show (s.E ++ [(n, d)]).length ≤ 1000000; rw [List.length_append]; simp only [List.length_cons, List.length_nil]; omega)).mono ?_
          rintro e wz ⟨v, rfl, hrowz, hz, hkz⟩
          have HRZ := Lib.hid (World.ownsRow.mono hrowz (by have := (hOu).size; omega))
          have HZ := Lib.hid hz
          have HOZ := Lib.hid (show Only (fun x => x = g ∨ x = mo ∨ x = me) w wz from (hOu).then hkz (fun _ _ e => e.elim .inl (fun e => .inr (.inr e))))
          clear hrowz hz hkz
          go_wp2_with fail
          go_ret2
          exact ⟨v, rfl, by rw [HB.out, HKS.out]; exact HRZ.out, by rw [HT.out, HKS.out]; exact HZ.out, HOZ.out⟩
  · subst hk
    rw [if_pos rfl] at HB HT
    have f13 := blk_free H6.out.cell 13
    have x13 := (blk_cell H6.out.cell 13).trans (show (s6.cells mo me)[13]? = some (.int .i64 s6.hmark) from rfl)
    go_wp2_with fail
    have h7 : EndAt (w6.setCell ⟨g, 13, none⟩ (.int .i64 n)) g mo me ({ s6 with hmark := n } : CS) := H6.out.set (s' := ({ s6 with hmark := n } : CS)) 13 (.int .i64 n) rfl rfl rfl
    have H7 := Lib.hid h7
    clear h7
    go_ret2
    exact ⟨_, rfl, by rw [HB.out]; exact World.ownsRow_nil _ _ _ _, by rw [HT.out]; exact H7.out, hO6.setCell _ _ (fun _ => .inl rfl)⟩

end Go.Proofs.Yteifehienpeaiaa
