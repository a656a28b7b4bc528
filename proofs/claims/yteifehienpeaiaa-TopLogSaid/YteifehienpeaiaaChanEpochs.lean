/-
  The walk of the law ChannelEpochs.
  No conditions.
-/
import Derived.Test.YteifehienpeaiaaEndTick
import Derived.Test.YteifehienpeaiaaTakeNo
import Derived.Test.YteifehienpeaiaaChanIdle
import Derived.Test.YteifehienpeaiaaAmong
import Derived.Test.YteifehienpeaiaaOpen
set_option linter.unusedVariables false
set_option linter.unusedSimpArgs false
set_option maxRecDepth 100000
namespace Go.Proofs.Yteifehienpeaiaa
open Go.RowKit Go.Maps Go.Sort

/-- The first end, some letters sent. -/
structure EpA (k : Nat) (s : CS) : Prop where
  ok : COk s
  room : s.room = 9
  epoch : s.epoch = 7
  last : 0 ≤ s.last ∧ s.last ≤ k
  len : s.O.length ≤ k
  key : ∀ x ∈ s.O, x.key ≤ s.last
  sorted : (s.O.map (·.key)).Pairwise (· < ·)

theorem EpA.sent {k : Nat} {s : CS} (h : EpA k s) (hk : k < 9) (d : ByteArray) (hd : d.size ≤ 500) (b : Nat) : EpA (k + 1) (s.sent d k b) := by
  have ho := h.ok.ticked (k : Int)
  obtain ⟨r1, r2, w1, w2, b1, b2, e0, e1, o0, o1, m0, m1, n0, n1, bt0, bt1, t0, t1, at0, key, len⟩ := ho
  have hlen := h.len
  have hl := h.last
  refine ⟨⟨r1, r2, w1, w2, b1, b2, e0, e1, o0, o1, m0, m1, n0, n1, bt0, bt1, t0, t1, ?_, ?_, ?_⟩, h.room, h.epoch, ⟨by show 0 ≤ s.last + 1; omega, by show s.last + 1 ≤ _; omega⟩, ?_, ?_, ?_⟩
  · intro x hx
    rcases List.mem_append.1 hx with h1 | h1
    · exact at0 x h1
    · simp only [List.mem_singleton] at h1
      subst h1
      exact ⟨n0, n1⟩
  · intro x hx
    rcases List.mem_append.1 hx with h1 | h1
    · exact key x h1
    · simp only [List.mem_singleton] at h1
      subst h1
      exact ⟨by show 1 ≤ s.last + 1; omega, by show s.last + 1 ≤ _; omega, by show d.size ≤ _; omega⟩
  · show (s.O ++ [_]).length ≤ 64
    rw [List.length_append]
    simp only [List.length_cons, List.length_nil]
    omega
  · show (s.O ++ [_]).length ≤ k + 1
    rw [List.length_append]
    simp only [List.length_cons, List.length_nil]
    omega
  · intro x hx
    rcases List.mem_append.1 hx with h1 | h1
    · have := h.key x h1
      show x.key ≤ s.last + 1
      omega
    · simp only [List.mem_singleton] at h1
      subst h1
      exact Int.le_refl _
  · show ((s.O ++ [(⟨s.last + 1, b, (s.ticked k).now, d⟩ : Sn)]).map (·.key)).Pairwise _
    rw [List.map_append, List.pairwise_append]
    refine ⟨h.sorted, by simp, ?_⟩
    intro a ha b hb
    obtain ⟨x, hx, rfl⟩ := List.mem_map.1 ha
    simp only [List.map_cons, List.map_nil, List.mem_singleton] at hb
    subst hb
    have := h.key x hx
    omega

theorem EpA.mono {k k' : Nat} {s : CS} (h : EpA k s) (hk : k ≤ k') : EpA k' s := ⟨h.ok, h.room, h.epoch, ⟨h.last.1, by have := h.last.2; omega⟩, by have := h.len; omega, h.key, h.sorted⟩

/-- What a tick lets out is letters of the end's epoch. -/
theorem outs_ok {k : Nat} {s : CS} (h : EpA k s) (now : Int) : ∀ S ∈ s.outs now, DecOk S ∧ numAt S 1 4 = 7 ∧ S.size ≤ 5000 := by
  have ho := h.ok.ticked now
  have he : (s.ticked now).epoch = 7 := h.epoch
  intro S hS
  rcases List.mem_append.1 hS with h1 | h1
  · obtain ⟨x, hx, rfl⟩ := List.mem_map.1 h1
    have hk := ho.key x (List.mem_filter.1 hx).1
    have := letter_ok (s.ticked now) ho x.key x.data hk.1 hk.2.1 hk.2.2
    rw [he] at this
    exact this
  · split at h1
    · simp only [List.mem_singleton] at h1
      subst h1
      have := beat_ok (s.ticked now) ho
      rw [he] at this
      exact this
    · cases h1

theorem string_cells {cs : List Value} (h : CellsAre [.s] cs) : ∃ (d : ByteArray), cs = [.string d] ∧ d.size ≤ reachB := by
  obtain ⟨d, _, rfl, hd, h6⟩ := h.s
  obtain rfl := h6.nil
  exact ⟨d, rfl, hd⟩

/-- The two ends in memory. -/
structure TwoAt (W : World) (g mo me g' mo' me' : Nat) (sb : CS) (k : Nat) (s : CS) (w : World) : Prop where
  a : EndAt w g mo me s
  b : EndAt w g' mo' me' sb
  apart : ∀ i, Foot g' mo' me' sb.O i → ¬ Foot g mo me s.O i
  newA : ∀ i, Foot g mo me s.O i → W.heap.size ≤ i
  only : Only (fun _ => False) W w
  st : EpA k s

theorem TwoAt.keep {W : World} {g mo me g' mo' me' : Nat} {sb : CS} {k : Nat} {s : CS} {w w' : World} (h : TwoAt W g mo me g' mo' me' sb k s w) (hk : Only (fun _ => False) w w') : TwoAt W g mo me g' mo' me' sb k s w' :=
  ⟨h.a.keep hk, h.b.keep hk, h.apart, h.newA, h.only.trans hk, h.st⟩

set_option maxHeartbeats 4000000 in
theorem chanEpochs_walk (W : World) (v : Value) (n : Nat) (f : Nat → List Value) (h : SlIs W [.s] v n f) (y0 : Int) (wy : (Lit.int .i64 y0).wf = true) :
    Calls Try.prog 7 #[v, .int .i64 y0] W fun e W' => e = .returned (.bool true) ∧ Below W.heap.size W W' := by
  obtain ⟨⟨a, cap, rfl, hle, hat⟩, hcells, hsmall, _, _⟩ := h
  obtain ⟨texts, htexts⟩ := Deep.choose_lt (fun i hi => string_cells (hcells i hi))
  replace htexts := Lib.hid htexts
  clear hcells
  simp only [List.length_cons, List.length_nil, reachB] at hsmall
  have HAT := Lib.hid hat
  clear hat
  go_enter Try.func7, Try.ntmps7
  go_wp2_with fail
  refine (end_new _ 9 4 6 7 4 1 0 (by decide) (by decide) (by decide) (by decide) (by decide) (by decide) (by decide)).mono ?_
  rintro e w1 ⟨g, mo, me, rfl, h1, hg, hmo, hme, hk1⟩
  have hS0 : EpA 0 ⟨9, 4, 6, 7, 4, 1, 0, 0, 0, 0, 0, 0, 0, 0, [], []⟩ := ⟨⟨by decide, by decide, by decide, by decide, by decide, by decide, by decide, by decide, by decide, by decide, by decide, by decide, by decide, by decide, by decide, by decide, by decide, by decide, fun x hx => (by cases hx), fun x hx => (by cases hx), by decide⟩, rfl, rfl, by decide, by decide, fun x hx => (by cases hx), List.Pairwise.nil⟩
  have hF0 : ∀ i, Foot g mo me (⟨9, 4, 6, 7, 4, 1, 0, 0, 0, 0, 0, 0, 0, 0, [], []⟩ : CS).O i → W.heap.size ≤ i := by
    rintro i (rfl | rfl | rfl | ⟨x, hx, _⟩)
    · exact hg
    · exact hmo
    · exact hme
    · cases hx
  generalize (⟨9, 4, 6, 7, 4, 1, 0, 0, 0, 0, 0, 0, 0, 0, [], []⟩ : CS) = s0 at h1 hS0 hF0
  go_wp2_with fail
  refine (among_any y0 1000 _ wy (by decide) (by decide)).mono ?_
  rintro e _ ⟨rfl, rfl⟩
  have hy0 : 0 ≤ y0 % 1000 := Int.emod_nonneg _ (by decide)
  have hy1 : y0 % 1000 < 1000 := Int.emod_lt_of_pos _ (by decide)
  generalize y0 % 1000 = y at hy0 hy1 ⊢
  clear wy
  go_wp2_with fail
  refine (end_new _ 9 4 6 (8 + y) 1 2 0 (by decide) (by decide) (by decide) (by omega) (by decide) (by decide) (by decide)).mono ?_
  rintro e w2 ⟨g', mo', me', rfl, h2, hg', hmo', hme', hk2⟩
  have hlt1 := h1.lt
  have hT0 : TwoAt W g mo me g' mo' me' ⟨9, 4, 6, 8 + y, 1, 2, 0, 0, 0, 0, 0, 0, 0, 0, [], []⟩ 0 s0 w2 := ⟨h1.keep hk2, h2, (by
    rintro i (rfl | rfl | rfl | ⟨x, hx, _⟩) h
    · have := hlt1 _ h; omega
    · have := hlt1 _ h; omega
    · have := hlt1 _ h; omega
    · cases hx), hF0, hk1.trans hk2, hS0⟩
  have hsb : (⟨9, 4, 6, 8 + y, 1, 2, 0, 0, 0, 0, 0, 0, 0, 0, [], []⟩ : CS).epoch ≠ 7 := by show 8 + y ≠ 7; omega
  have HSB := Lib.hid (show (⟨9, 4, 6, 8 + y, 1, 2, 0, 0, 0, 0, 0, 0, 0, 0, [], []⟩ : CS).hat = 0 ∧ (⟨9, 4, 6, 8 + y, 1, 2, 0, 0, 0, 0, 0, 0, 0, 0, [], []⟩ : CS).hrole = 0 ∧ (⟨9, 4, 6, 8 + y, 1, 2, 0, 0, 0, 0, 0, 0, 0, 0, [], []⟩ : CS).hmark = 0 ∧ (⟨9, 4, 6, 8 + y, 1, 2, 0, 0, 0, 0, 0, 0, 0, 0, [], []⟩ : CS).acked = 0 ∧ (⟨9, 4, 6, 8 + y, 1, 2, 0, 0, 0, 0, 0, 0, 0, 0, [], []⟩ : CS).taken = 0 from ⟨rfl, rfl, rfl, rfl, rfl⟩)
  generalize (⟨9, 4, 6, 8 + y, 1, 2, 0, 0, 0, 0, 0, 0, 0, 0, [], []⟩ : CS) = sb at hT0 hsb HSB
  clear h1 h2 hk1 hk2 hg hmo hme hg' hmo' hme' hF0 hS0 hlt1 hy0 hy1
  go_wp2_with fail
  refine (works24 _).mono ?_
  rintro e w3 ⟨rfl, hk⟩
  replace hT0 := hT0.keep hk
  clear hk
  go_wp2_with fail
  go_loopw [9] (fun iv wr => ∃ (k : Nat) (s : CS), iv = .int .i64 k ∧ k ≤ n ∧ k ≤ 9 ∧ TwoAt W g mo me g' mo' me' sb k s wr) (fun i _ => 9 - (intOf i).toNat)
  case atStart => exact ⟨0, s0, rfl, by omega, by omega, hT0⟩
  case round =>
    clear hT0
    obtain ⟨k, s, rfl, hkn, hk9, hT⟩ := hrel
    by_cases hin : k < n ∧ k < 9
    · obtain ⟨hin, hi9⟩ := hin
      obtain ⟨b, off, rfl, hbW, hat⟩ := HAT.out (by omega)
      have hc0 := hat k hin 0 (by decide)
      rw [(htexts.out k hin).1] at hc0
      have hdsz := (htexts.out k hin).2
      unfold reachB at hdsz
      clear hat
      generalize texts k = d at hc0 hdsz
      simp only [List.getElem?_cons_zero, Nat.mul_one, Nat.add_zero, List.length_cons, List.length_nil, Nat.zero_add] at hc0
      have hcw : wr.cell? ⟨b, off + k, none⟩ = some (.string d) := by
        rw [World.cell?_of_block (w := W) (w' := wr) (a := ⟨b, off + k, none⟩) (hT.only.block b hbW (fun h => h))]; exact hc0
      clear hc0
      by_cases hbig : 500 < d.size
      · go_wp2_with fail
        go_roundw
        case rel => exact ⟨k + 1, s, by go_num, by omega, by omega, hT.a, hT.b, hT.apart, hT.newA, hT.only, hT.st.mono (by omega)⟩
        case measure => simp [intOf]; omega
      · have hd5 : d.size ≤ 500 := by omega
        have hst2 := hT.st.sent hi9 d hd5
        have hlen9 := hT.st.len
        have hroom := hT.st.room
        have hl0 := hT.st.last.1
        have hl1 := hT.st.last.2
        have hno := Lib.hid (show ∀ x ∈ s.O, x.key ≠ s.last + 1 from fun x hx e => by have := hT.st.key x hx; omega)
        have hlet := letter_ok (s.ticked k) (hT.st.ok.ticked k) (s.last + 1) d (by omega) (by omega) (by omega)
        have HLET := Lib.hid hlet
        have HST2 := Lib.hid hst2
        have hfull : (s.O.length : Int) < s.room := by omega
        have HTT := Lib.hid hT
        have hep := Lib.hid (show (s.ticked k).epoch = 7 from hT.st.epoch)
        clear hlet hst2 hbig hroom hT
        go_wp2_with fail
        refine (send_any wr g mo me s d (k : Int) HTT.out.a HTT.out.st.ok (by omega) hfull ⟨hl0, by omega⟩ hno.out).mono ?_
        rintro e w3 ⟨bn, rfl, h3, hbn, hk3⟩
        have hT3 : TwoAt W g mo me g' mo' me' sb (k + 1) (s.sent d k bn) w3 := by
          have hT := HTT.out
          refine ⟨h3, hT.b.only hk3 ?_, ?_, ?_, hT.only.then hk3 ?_, HST2.out bn⟩
          · intro i hi e
            rcases e with rfl | rfl
            · exact hT.apart _ hi (.inl rfl)
            · exact hT.apart _ hi (.inr (.inl rfl))
          · intro i hi h
            rcases h with h | h | h | ⟨x, hx, hxe⟩
            · exact hT.apart i hi (.inl h)
            · exact hT.apart i hi (.inr (.inl h))
            · exact hT.apart i hi (.inr (.inr (.inl h)))
            · rcases List.mem_append.1 hx with h1 | h1
              · exact hT.apart i hi (.inr (.inr (.inr ⟨x, h1, hxe⟩)))
              · simp only [List.mem_singleton] at h1
                subst h1
                have := hT.b.lt i hi
                simp only at hxe
                omega
          · intro i h
            rcases h with h | h | h | ⟨x, hx, hxe⟩
            · exact hT.newA i (.inl h)
            · exact hT.newA i (.inr (.inl h))
            · exact hT.newA i (.inr (.inr (.inl h)))
            · rcases List.mem_append.1 hx with h1 | h1
              · exact hT.newA i (.inr (.inr (.inr ⟨x, h1, hxe⟩)))
              · simp only [List.mem_singleton] at h1
                subst h1
                have := hT.only.size
                simp only at hxe
                omega
          · intro i hi e
            rcases e with rfl | rfl
            · have := hT.newA _ (.inl rfl); omega
            · have := hT.newA _ (.inr (.inl rfl)); omega
        clear h3 hk3 HST2 HTT hcw hno hfull hl0 hl1 hlen9
        generalize (s.ticked k).letter 1 (s.last + 1) d = S at HLET ⊢
        go_wp2_with fail
        refine (take_epoch w3 g' mo' me' sb S (50 + (k : Int)) hT3.b (by have := HLET.out.2.2; omega) HLET.out.1 (by rw [HLET.out.2.1, hep.out]; exact fun e => hsb e.symm)).mono ?_
        rintro e w4 ⟨rfl, hk4⟩
        replace hT3 := hT3.keep hk4
        clear hk4
        go_wp2_with fail
        go_roundw
        case rel => exact ⟨k + 1, _, by go_num, by omega, by omega, hT3⟩
        case measure => simp [intOf]; omega
    · by_cases hkn' : k < n
      all_goals
        go_wp2_with fail
        refine (etick_any wr g mo me s 60 hT.a hT.st.ok hT.st.sorted).mono ?_
        rintro e w3 ⟨v, rfl, hrow, _, hk3⟩
        have hb3 := hT.b.only hk3 hT.apart
        have hO3 : Only (fun _ => False) W w3 := hT.only.then hk3 (fun i hi e => by have := hT.newA i e; omega)
        have HOUT := Lib.hid (outs_ok hT.st 60)
        have HLN := Lib.hid (show (s.outs 60).length ≤ 10 from by
          have h1 : (s.outs 60).length ≤ s.O.length + 1 := by
            unfold CS.outs
            rw [List.length_append, List.length_map]
            have := List.length_filter_le (s.ticked 60).due s.O
            split
            · simp only [List.length_cons, List.length_nil]; omega
            · simp only [List.length_nil]; omega
          have := hT.st.len
          omega)
        clear hk3 hT
        obtain ⟨la, lcap, rfl, hlcap, hlc⟩ := strs_lie hrow
        have HLC := Lib.hid hlc
        clear hrow hlc
        generalize s.outs 60 = L at HOUT HLC HLN hlcap ⊢
        have hL10 := HLN.out
        generalize hnl : L.length = nl at *
        have HNL := Lib.hid hnl
        clear hnl
        go_wp2_with fail
        go_loopw [99] (fun iv wq => ∃ (j : Nat), iv = .int .i64 j ∧ j ≤ nl ∧ EndAt wq g' mo' me' sb ∧ Only (fun _ => False) w3 wq) (fun i _ => nl - (intOf i).toNat)
        case atStart => exact ⟨0, rfl, by omega, hb3, Only.refl _ _⟩
        case round =>
          clear hb3
          obtain ⟨j, rfl, hj, hb, hO⟩ := hrel
          by_cases hjl : j < nl
          · obtain ⟨lb, rfl, hlb1, hlb2, hcell⟩ := HLC.out j hjl
            have hS := HOUT.out (L.getD j ⟨#[]⟩) (by rw [List.getD, List.getElem?_eq_getElem (by rw [HNL.out]; exact hjl)]; exact List.getElem_mem _)
            have HS := Lib.hid hS
            generalize L.getD j ⟨#[]⟩ = S at hcell HS
            clear hS
            have hcw := cell_only hO (fun h => h) hcell
            clear hcell
            go_wp2_with fail
            refine (take_epoch wr g' mo' me' sb S 70 hb (by have := HS.out.2.2; omega) HS.out.1 (by rw [HS.out.2.1]; exact fun e => hsb e.symm)).mono ?_
            rintro e w5 ⟨rfl, hk5⟩
            replace hb := hb.keep hk5
            replace hO := hO.trans hk5
            clear hk5 hcw
            go_wp2_with fail
            go_roundw
            case rel => exact ⟨j + 1, by go_num, by omega, hb, hO⟩
            case measure => simp [intOf]; omega
          · obtain rfl : j = nl := by omega
            obtain ⟨q1, q2, q3, q4, q5⟩ := HSB.out
            go_wp2_with fail
            refine (heard_any wr g' mo' me' sb hb).mono ?_
            rintro e w5 ⟨rfl, hk5⟩
            replace hb := hb.keep hk5
            replace hO := hO.trans hk5
            rw [q1, q2, q3]
            go_wp2_with fail
            refine (numbers_any w5 g' mo' me' sb hb).mono ?_
            rintro e w6 ⟨rfl, hk6⟩
            replace hO := hO.trans hk6
            rw [q4, q5]
            go_wp2_with fail
            go_ret
            exact ⟨rfl, (hO3.trans hO).below (Nat.le_refl _) (fun _ _ h => h)⟩

end Go.Proofs.Yteifehienpeaiaa
