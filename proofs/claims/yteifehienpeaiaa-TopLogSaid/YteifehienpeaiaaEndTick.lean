/-
  The contract of Tick of an end of a channel.
  Conditions: numbers are of the kind int, the end's own in their bounds; what is not acknowledged lies in the order of its numbers.
-/
import Derived.Test.YteifehienpeaiaaEnd
import Derived.Deep.Onto
set_option linter.unusedVariables false
set_option linter.unusedSimpArgs false
set_option maxRecDepth 100000
namespace Go.Proofs.Yteifehienpeaiaa
open Go.RowKit Go.Maps Go.Sort

def CS.due (s : CS) (x : Sn) : Bool := decide (x.at_ + s.wait ≤ s.now)
def CS.upd (s : CS) (x : Sn) : Sn := if s.due x then { x with at_ := s.now } else x
def CS.swept (s : CS) (i : Nat) : CS := { s with O := (s.O.take i).map s.upd ++ s.O.drop i }
def CS.resent (s : CS) (i : Nat) : List ByteArray := ((s.O.take i).filter s.due).map (fun x => s.letter 1 x.key x.data)
/-- An end behind a tick, and what it lets out. -/
def CS.ticks (s : CS) (now : Int) : CS := { (s.ticked now) with O := s.O.map (s.ticked now).upd, bat := if s.bat ≤ (s.ticked now).now then (s.ticked now).now + s.beat else s.bat }
def CS.outs (s : CS) (now : Int) : List ByteArray := (s.O.filter (s.ticked now).due).map (fun x => (s.ticked now).letter 1 x.key x.data) ++ (if s.bat ≤ (s.ticked now).now then [(s.ticked now).letter 2 s.mark ⟨#[]⟩] else [])

theorem upd_key (s : CS) (x : Sn) : (s.upd x).key = x.key ∧ (s.upd x).blk = x.blk ∧ (s.upd x).data = x.data := by
  unfold CS.upd
  split <;> exact ⟨rfl, rfl, rfl⟩

theorem encO_upd (s : CS) (l : List Sn) : encO (l.map s.upd) = encO l := by
  unfold encO
  rw [List.map_map]
  apply List.map_congr_left
  intro x _
  simp only [Function.comp]
  rw [(upd_key s x).1, (upd_key s x).2.1]

theorem encO_swept (s : CS) (i : Nat) : encO (s.swept i).O = encO s.O := by
  show encO ((s.O.take i).map s.upd ++ s.O.drop i) = _
  have h : ∀ a b : List Sn, encO (a ++ b) = encO a ++ encO b := fun a b => by simp [encO]
  rw [h, encO_upd, ← h, List.take_append_drop]

theorem blk_swept (s : CS) (i : Nat) : (s.swept i).O.map (·.blk) = s.O.map (·.blk) := by
  show ((s.O.take i).map s.upd ++ s.O.drop i).map (·.blk) = _
  rw [List.map_append, List.map_map]
  have : (s.O.take i).map ((fun x : Sn => x.blk) ∘ s.upd) = (s.O.take i).map (·.blk) := by
    apply List.map_congr_left
    intro x _
    exact (upd_key s x).2.1
  rw [this, ← List.map_append, List.take_append_drop]

theorem foot_swept (s : CS) (g mo me i : Nat) (k : Nat) : Foot g mo me (s.swept i).O k ↔ Foot g mo me s.O k := by
  have h : (∃ x ∈ (s.swept i).O, k = x.blk) ↔ ∃ x ∈ s.O, k = x.blk := by
    have e : ∀ l : List Sn, (∃ x ∈ l, k = x.blk) ↔ k ∈ l.map (·.blk) := fun l => by
      rw [List.mem_map]
      exact ⟨fun ⟨x, h1, h2⟩ => ⟨x, h1, h2.symm⟩, fun ⟨x, h1, h2⟩ => ⟨x, h1, h2.symm⟩⟩
    rw [e, e, blk_swept]
  unfold Foot
  rw [h]

theorem swept_at (s : CS) (i : Nat) (x : Sn) (hx : s.O[i]? = some x) : (s.swept i).O = (s.O.take i).map s.upd ++ x :: s.O.drop (i + 1) ∧ (s.swept (i + 1)).O = (s.O.take i).map s.upd ++ s.upd x :: s.O.drop (i + 1) := by
  obtain ⟨hi, rfl⟩ := List.getElem?_eq_some_iff.1 hx
  constructor
  · show (s.O.take i).map s.upd ++ s.O.drop i = _
    rw [List.drop_eq_getElem_cons hi]
  · show (s.O.take (i + 1)).map s.upd ++ s.O.drop (i + 1) = _
    rw [List.take_succ_eq_append_getElem hi, List.map_append]
    simp

theorem resent_at (s : CS) (i : Nat) (x : Sn) (hx : s.O[i]? = some x) : s.resent (i + 1) = s.resent i ++ (if s.due x then [s.letter 1 x.key x.data] else []) := by
  obtain ⟨hi, rfl⟩ := List.getElem?_eq_some_iff.1 hx
  unfold CS.resent
  rw [List.take_succ_eq_append_getElem hi, List.filter_append, List.map_append]
  congr 1
  cases h : s.due s.O[i] <;> simp [h]

/-- A letter that is sent again. -/
theorem EndAt.touch {w : World} {g mo me : Nat} {s : CS} (h : EndAt w g mo me s) (O1 O2 : List Sn) (x : Sn) (a : Int) (hO : s.O = O1 ++ x :: O2) : EndAt (w.setCell ⟨x.blk, 0, none⟩ (.int .i64 a)) g mo me { s with O := O1 ++ { x with at_ := a } :: O2 } := by
  have hx : x ∈ s.O := by rw [hO]; simp
  have hk := (Only.refl (fun k => k = x.blk) w).setCell ⟨x.blk, 0, none⟩ (.int .i64 a) (fun _ => rfl)
  have hown := h.own
  rw [hO, List.map_append, List.map_cons, List.nodup_append, List.nodup_cons] at hown
  obtain ⟨n1, ⟨n2, n3⟩, n4⟩ := hown
  have hb : (O1 ++ { x with at_ := a } :: O2).map (·.blk) = s.O.map (·.blk) := by rw [hO]; simp
  have he : encO (O1 ++ { x with at_ := a } :: O2) = encO s.O := by rw [hO]; simp [encO]
  refine ⟨hk.at h.cell (fun e => h.far x hx e.symm), ?_, ?_, ?_, h.dis, ?_, ?_⟩
  · show MapI _ mo (encO (O1 ++ { x with at_ := a } :: O2))
    rw [he]
    exact h.omap.only hk (map_cells h.omap (h.sent x hx))
  · exact h.emap.only hk (map_cells h.emap (h.sent x hx))
  · intro y hy
    rcases List.mem_append.1 hy with h1 | h1
    · refine hk.at (h.sent y (by rw [hO]; simp [h1])) ?_
      intro e
      exact n4 y.blk (List.mem_map_of_mem h1) x.blk (by simp) e
    · rcases List.mem_cons.1 h1 with h2 | h2
      · subst h2
        have := blk_set (h.sent x hx) 0 (.int .i64 a)
        simpa using this
      · refine hk.at (h.sent y (by rw [hO]; simp [h2])) ?_
        intro e
        exact n2 (by rw [← e]; exact List.mem_map_of_mem h2)
  · show ((O1 ++ { x with at_ := a } :: O2).map (·.blk)).Nodup
    rw [hb]; exact h.own
  · intro y hy
    have : y.blk ∈ (O1 ++ { x with at_ := a } :: O2).map (·.blk) := List.mem_map_of_mem hy
    rw [hb] at this
    obtain ⟨z, hz, hze⟩ := List.mem_map.1 this
    rw [← hze]
    exact h.far z hz

theorem keysUp_sorted {O : List Sn} (h : (O.map (·.key)).Pairwise (· < ·)) : keysUp (encO O) = O.map (·.key) := by
  unfold keysUp
  have e : (encO O).map Prod.fst = O.map (·.key) := by simp [encO]
  rw [e]
  apply List.mergeSort_of_pairwise
  exact h.imp (fun h => by simp [leI]; omega)

theorem info9 : (Try.prog.info? 9).map (fun i => (i.zero, i.size, i.bytes)) = some (some (.string ⟨#[]⟩), 1, 16) := by kernel_rfl

theorem getI_encO {O : List Sn} {i : Nat} {x : Sn} (hk : (O.map (·.key)).Pairwise (· < ·)) (hx : O[i]? = some x) : getI (encO O) x.key = some (.pointer (some ⟨x.blk, 0, none⟩)) := by
  obtain ⟨hi, rfl⟩ := List.getElem?_eq_some_iff.1 hx
  have hsp : O = O.take i ++ O[i] :: O.drop (i + 1) := by rw [← List.drop_eq_getElem_cons hi, List.take_append_drop]
  have hk2 := hk
  rw [hsp, List.map_append, List.pairwise_append] at hk2
  have e : encO O = encO (O.take i) ++ (O[i].key, .pointer (some ⟨O[i].blk, 0, none⟩)) :: encO (O.drop (i + 1)) := by
    conv => lhs; rw [hsp]
    unfold encO
    rw [List.map_append, List.map_cons]
  rw [e]
  refine getI_mid ?_
  intro p hp
  obtain ⟨y, hy, rfl⟩ := List.mem_map.1 hp
  have := hk2.2.2 y.key (List.mem_map_of_mem hy) O[i].key (by rw [List.map_cons]; exact List.mem_cons_self)
  simp only
  omega

theorem COk.ticked {s : CS} (h : COk s) (now : Int) : COk (s.ticked now) := by
  obtain ⟨r1, r2, w1, w2, b1, b2, e0, e1, o0, o1, m0, m1, n0, n1, bt0, bt1, t0, t1, at0, key, len⟩ := h
  exact ⟨r1, r2, w1, w2, b1, b2, e0, e1, o0, o1, m0, m1, by show 0 ≤ mx s.now (mn now 1099511627776); unfold mx mn; omega, by show mx s.now (mn now 1099511627776) ≤ _; unfold mx mn; omega, bt0, bt1, t0, t1, at0, key, len⟩

/-- The keys, as they lie. -/
theorem keys_lie {w2 : World} {B : Nat} {v : Value} {K : List Int} (h : w2.ownsRow B 3 1 v K.length (K.map (Value.int .i64))) : ∃ a cap, v = .slice a K.length cap ∧ K.length ≤ cap ∧ ∀ i, i < K.length → ∃ blk, a = some ⟨blk, 0, none⟩ ∧ B ≤ blk ∧ blk < w2.heap.size ∧ w2.cell? ⟨blk, i, none⟩ = some (.int .i64 (K.getD i 0)) := by
  obtain ⟨hl, ⟨rfl, h0⟩ | ⟨g, cap, cur, rfl, hb, hg, hc1, hm1, hz1, ht1⟩⟩ := h
  · exact ⟨none, 0, by rw [h0], by omega, fun i hi => by omega⟩
  · refine ⟨_, cap, rfl, hc1, fun i hi => ⟨g, rfl, hb, heap_lt hg, ?_⟩⟩
    rw [blk_cell hg i]
    have h1 : cur[i]? = (cur.toList.take (K.length * 1))[i]? := by rw [List.getElem?_take, if_pos (by omega), Array.getElem?_toList]
    rw [h1, ht1, List.getElem?_map, List.getElem?_eq_getElem hi]
    simp [List.getD, hi]

theorem row_only {S : Nat → Prop} {w w' : World} {base : Nat} {e : TypeId} {size : Nat} {v : Value} {n : Nat} {xs : List Value} (h : w.ownsRow base e size v n xs) (hk : Only S w w') (hS : ∀ k, base ≤ k → ¬ S k) : w'.ownsRow base e size v n xs := by
  refine ⟨h.1, ?_⟩
  rcases h.2 with h1 | ⟨g, cap, cur, rfl, hb, hg, rest⟩
  · exact .inl h1
  · exact .inr ⟨g, cap, cur, rfl, hb, hk.at hg (hS g hb), rest⟩

theorem resent_le (s : CS) (i : Nat) : (s.resent i).length ≤ i := by
  unfold CS.resent
  rw [List.length_map]
  exact Nat.le_trans (List.length_filter_le _ _) (by rw [List.length_take]; omega)

/-- What the loop over what is open holds. -/
structure TickAt (s : CS) (g mo me : Nat) (w2 : World) (i : Nat) (v : Value) (w : World) : Prop where
  end_ : EndAt w g mo me (s.swept i)
  row : w.ownsRow w2.heap.size 9 1 v (s.resent i).length ((s.resent i).map Value.string)
  only : Only (Foot g mo me s.O) w2 w

set_option maxHeartbeats 4000000 in
theorem etick_any (w : World) (g mo me : Nat) (s : CS) (now : Int) (h : EndAt w g mo me s) (ho : COk s) (hk : (s.O.map (·.key)).Pairwise (· < ·)) :
    Calls Try.prog 22 #[.pointer (some ⟨g, 0, none⟩), .int .i64 now] w fun e w' => ∃ v, e = .returned v ∧ w'.ownsRow w.heap.size 9 1 v (s.outs now).length ((s.outs now).map Value.string) ∧ EndAt w' g mo me (s.ticks now) ∧ Only (Foot g mo me s.O) w w' := by
  obtain ⟨i0, hi, hz0, hz1, hz2⟩ := info_parts info9
  have H := Lib.hid h
  have HO := Lib.hid ho
  have HK := Lib.hid hk
  have hglt := heap_lt h.cell
  clear h ho hk
  go_enter Try.func22, Try.ntmps22
  go_wp2_with fail
  refine (tick_any _ g mo me s now H.out).mono ?_
  rintro e w1 ⟨rfl, h1, hk1⟩
  have hO1 : Only (Foot g mo me s.O) w w1 := hk1.mono (fun _ _ e => .inl e)
  have hsz1 := hk1.size
  clear hk1
  have x14 : w1.cell? ⟨g, 14, none⟩ = some (.map (some mo)) := (blk_cell h1.cell 14).trans rfl
  go_wp2_with fail
  refine (keys_any (some mo) w1).mono ?_
  rintro e w2 ⟨rfl, rfl⟩
  go_wp2_with fail
  refine (sorted_any mo (encO s.O) w1 h1.omap ?_ ?_).mono ?_
  · intro p hp
    obtain ⟨x, hx, rfl⟩ := List.mem_map.1 hp
    have := HO.out.key x hx
    simp only [Lit.wf, IntKind.min, IntKind.max, IntKind.bits, IntKind.signed]
    simp
    omega
  · unfold encO
    rw [List.length_map]
    have := HO.out.len
    omega
  rw [keysUp_sorted HK.out]
  rintro e w2 ⟨v, rfl, hrow, hk2⟩
  have h2 := h1.keep hk2
  have hO2 := hO1.then hk2 (fun _ _ h => h.elim)
  have hsz2 := hk2.size
  have hfl := h1.lt
  obtain ⟨a, cap, rfl, hcap, hkeys⟩ := keys_lie hrow
  have HKL := Lib.hid hkeys
  have hlen : (s.O.map (·.key)).length = s.O.length := by rw [List.length_map]
  rw [hlen] at hcap ⊢
  have hlen64 := HO.out.len
  have HT : Hid (COk (s.ticked now)) := Lib.hid (HO.out.ticked now)
  have HE := Lib.hid (show s.outs now = (s.ticked now).resent (s.ticked now).O.length ++ (if (s.ticked now).bat ≤ (s.ticked now).now then [(s.ticked now).letter 2 (s.ticked now).mark ⟨#[]⟩] else []) from by unfold CS.resent CS.outs; rw [List.take_length]; rfl)
  have HD := Lib.hid (show s.ticks now = { (s.ticked now).swept (s.ticked now).O.length with bat := if (s.ticked now).bat ≤ (s.ticked now).now then (s.ticked now).now + (s.ticked now).beat else (s.ticked now).bat } from by unfold CS.swept CS.ticks; rw [List.take_length, List.drop_length, List.append_nil]; rfl)
  have HTO : Hid ((s.ticked now).O = s.O) := Lib.hid rfl
  have hstart : TickAt (s.ticked now) g mo me w2 0 (.slice none 0 0) w2 := ⟨by
      have : (s.ticked now).swept 0 = s.ticked now := by unfold CS.swept; simp
      rw [this]; exact h2, World.ownsRow_nil _ _ _ _, Only.refl _ _⟩
  have hnO : Hid (s.O.length = (s.ticked now).O.length) := Lib.hid rfl
  rw [show (s.O.map (·.key)) = (s.ticked now).O.map (·.key) from rfl] at HK
  generalize s.ticked now = T at *
  clear hkeys hrow hlen x14 hk2 h2
  generalize s.O.length = n at *
  go_wp2_with fail
  go_loopw [19, 5] (fun iv ov wr => ∃ i : Nat, iv = .int .i64 i ∧ i ≤ n ∧ TickAt T g mo me w2 i ov wr) (fun i _ _ => n - (intOf i).toNat)
  case atStart => exact ⟨0, rfl, by omega, hstart⟩
  case round =>
    clear hstart
    obtain ⟨i, rfl, hin, hT⟩ := hrel
    by_cases hlt : i < n
    · have hiT : i < T.O.length := by rw [← hnO.out]; exact hlt
      obtain ⟨x, hx⟩ : ∃ x, T.O[i]? = some x := ⟨_, List.getElem?_eq_getElem hiT⟩
      have hxm : x ∈ T.O := List.mem_of_getElem? hx
      obtain ⟨blk, rfl, hb1, hb2, hcell⟩ := HKL.out i (by rw [List.length_map, ← HTO.out]; exact hiT)
      rw [← HTO.out, show (T.O.map (·.key)).getD i 0 = x.key from by simp [List.getD, hx]] at hcell
      have hcw : wr.cell? ⟨blk, i, none⟩ = some (.int .i64 x.key) := cell_only hT.only (fun e => by have := hfl _ e; simp only at this; omega) hcell
      have hsx := hT.end_.sent x (by rw [(swept_at T i x hx).1]; simp)
      have hget : getI (encO (T.swept i).O) x.key = some (.pointer (some ⟨x.blk, 0, none⟩)) := by rw [encO_swept]; exact getI_encO HK.out hx
      have hm := hT.end_.omap
      have y0 := blk_cell hsx 0
      have y1 := blk_cell hsx 1
      have yf := blk_free hsx 0
      have z1 : wr.cell? ⟨g, 1, none⟩ = some (.int .i64 T.wait) := (blk_cell hT.end_.cell 1).trans rfl
      have z6 : wr.cell? ⟨g, 6, none⟩ = some (.int .i64 T.now) := (blk_cell hT.end_.cell 6).trans rfl
      have z14 : wr.cell? ⟨g, 14, none⟩ = some (.map (some mo)) := (blk_cell hT.end_.cell 14).trans rfl
      simp only [List.getElem?_toArray, List.getElem?_cons_zero, List.getElem?_cons_succ] at y0 y1
      have a0 := (HT.out.at0 x hxm).1
      have a1 := (HT.out.at0 x hxm).2
      have t0 := HT.out.w1
      have t1 := HT.out.w2
      have HX := Lib.hid hx
      have HXM := Lib.hid hxm
      have HTT := Lib.hid hT
      clear hx hxm hcell hsx hT
      by_cases hdue : x.at_ + T.wait ≤ T.now
      · have hd : decide (x.at_ + T.wait ≤ T.now) = true := decide_eq_true hdue
        have HDU := Lib.hid (show T.due x = true from hd)
        clear hdue
        go_wp2_with (at_lookup; refine wpList_look_I _ rfl _ _ 99 false rfl 3 108 und_mapO und_int _ (zero_psent _) mo _ rfl hm _ rfl ?_; rw [hget]; simp only [Bool.false_eq_true, if_false, Option.getD_some])
        go_quiet (fail)
        have hk3 := (Only.refl (fun _ => False) wr).drewN nq
        go_wp2_with fail
        have hxl : x.blk < w2.heap.size := by have := hfl _ (.inr (.inr (.inr ⟨x, HXM.out, rfl⟩))); omega
        have h5 : EndAt ((wr.drewN nq).setCell ⟨x.blk, 0, none⟩ (.int .i64 T.now)) g mo me (T.swept (i + 1)) := by
          have h4 := (HTT.out.end_.keep hk3).touch _ _ x T.now (swept_at T i x HX.out).1
          have e2 := (swept_at T i x HX.out).2
          rw [show T.upd x = { x with at_ := T.now } from by unfold CS.upd; rw [HDU.out]; rfl] at e2
          have : T.swept (i + 1) = { T.swept i with O := (T.O.take i).map T.upd ++ { x with at_ := T.now } :: T.O.drop (i + 1) } := by
            rw [← e2]; rfl
          rw [this]; exact h4
        have hO5 : Only (Foot g mo me T.O) w2 ((wr.drewN nq).setCell ⟨x.blk, 0, none⟩ (.int .i64 T.now)) := (HTT.out.only.drewN nq).setCell _ _ (fun _ => .inr (.inr (.inr ⟨x, HXM.out, rfl⟩)))
        have hrow5 := row_only HTT.out.row ((hk3.mono (S' := fun k => k = x.blk) (fun _ _ h => h.elim)).setCell ⟨x.blk, 0, none⟩ (.int .i64 T.now) (fun _ => rfl)) (fun k hk e => by omega)
        have hL : letterB 1 (T.swept (i + 1)).epoch (T.swept (i + 1)).role x.key (T.swept (i + 1)).taken x.data = true := by
          have ho := HT.out
          have hk := ho.key x HXM.out
          have := ho.e0; have := ho.e1; have := ho.o0; have := ho.o1; have := ho.t0; have := ho.t1
          show letterB 1 T.epoch T.role x.key T.taken x.data = true
          unfold letterB wordB roleB
          simp only [Bool.and_eq_true, Bool.or_eq_true, decide_eq_true_eq, beq_iff_eq]
          refine ⟨⟨⟨⟨⟨?_, ?_⟩, ?_⟩, ?_⟩, ?_⟩, .inl ⟨trivial, ?_⟩⟩ <;> omega
        generalize (wr.drewN nq).setCell ⟨x.blk, 0, none⟩ (.int .i64 T.now) = w5 at h5 hO5 hrow5 ⊢
        clear hk3 hcw hget hm y0 y1 yf z1 z6 z14
        refine (letter_any w5 g mo me _ 1 x.key x.data h5 hL).mono ?_
        rintro e w6 ⟨rfl, hk6⟩
        have hrow6 := row_only hrow5 hk6 (fun _ _ h => h)
        have hO6 := hO5.then hk6 (fun _ _ h => h.elim)
        have h6 := h5.keep hk6
        have hsz6 := hO6.size
        have hrl := resent_le T i
        have hnew : T.resent (i + 1) = T.resent i ++ [T.letter 1 x.key x.data] := by rw [resent_at T i x HX.out, HDU.out]; simp
        have HNEW := Lib.hid hnew
        clear hnew hL h5 hO5 hrow5 hk6
        rw [show (T.swept (i + 1)).letter 1 x.key x.data = T.letter 1 x.key x.data from rfl]
        go_wp2_with (at_builtin; refine wpList_append_own _ rfl _ _ 43 rfl w2.heap.size 9 i0 (.string ⟨#[]⟩) 1 16 Try.underlying43 hi hz0 hz1 hz2 rfl (by decide) _ (T.resent i).length _ rfl (hrow6.alloc _) ⟨w6.heap.size, 0, none⟩ 1 1 [.string (T.letter 1 x.key x.data)] rfl rfl (cell_one_new _ _ _) (by simp [Value.oneCell']) (by simp [maxLen]; omega) (by omega) (by rw [World.size_alloc]; omega) ?_; intro v1 w7 hown hg _)
        have h7 := (h6.keep ((Only.refl (fun _ => False) w6).alloc (.cells #[.string (T.letter 1 x.key x.data)] 9))).only (Only.of_grown hg) (fun k hk e => by have := (hrow6.lt k e.symm).1; have := hfl k ((foot_swept T g mo me (i + 1) k).1 hk); omega)
        have hO7 := (hO6.alloc (.cells #[.string (T.letter 1 x.key x.data)] 9)).then (Only.of_grown hg) (fun k hk e => by have := (hrow6.lt k e.symm).1; omega)
        have hown7 : w7.ownsRow w2.heap.size 9 1 v1 (T.resent (i + 1)).length ((T.resent (i + 1)).map Value.string) := by
          rw [HNEW.out, List.length_append, List.map_append]
          exact hown
        clear hown hg hrow6 hO6 h6
        go_roundw
        case rel => exact ⟨i + 1, by go_num, by omega, h7, hown7, hO7⟩
        case measure => simp [intOf]; omega
      · have hd : decide (x.at_ + T.wait ≤ T.now) = false := decide_eq_false hdue
        have HDU := Lib.hid (show T.due x = false from hd)
        clear hdue
        go_wp2_with (at_lookup; refine wpList_look_I _ rfl _ _ 99 false rfl 3 108 und_mapO und_int _ (zero_psent _) mo _ rfl hm _ rfl ?_; rw [hget]; simp only [Bool.false_eq_true, if_false, Option.getD_some])
        go_quiet (fail)
        have hk3 := (Only.refl (fun _ => False) wr).drewN nq
        go_wp2_with fail
        have hsw : T.swept (i + 1) = T.swept i := by
          unfold CS.swept
          have := swept_at T i x HX.out
          congr 1
          refine this.2.trans (Eq.trans ?_ this.1.symm)
          rw [show T.upd x = x from by unfold CS.upd; rw [HDU.out]; rfl]
        have hre : T.resent (i + 1) = T.resent i := by rw [resent_at T i x HX.out, HDU.out]; simp
        go_roundw
        case rel => exact ⟨i + 1, by go_num, by omega, by rw [hsw]; exact HTT.out.end_.keep hk3, by rw [hre]; exact HTT.out.row, HTT.out.only.drewN nq⟩
        case measure => simp [intOf]; omega
    · obtain rfl : i = n := by omega
      have z2 : wr.cell? ⟨g, 2, none⟩ = some (.int .i64 T.beat) := (blk_cell hT.end_.cell 2).trans rfl
      have z5 : wr.cell? ⟨g, 5, none⟩ = some (.int .i64 T.mark) := (blk_cell hT.end_.cell 5).trans rfl
      have z6 : wr.cell? ⟨g, 6, none⟩ = some (.int .i64 T.now) := (blk_cell hT.end_.cell 6).trans rfl
      have z7 : wr.cell? ⟨g, 7, none⟩ = some (.int .i64 T.bat) := (blk_cell hT.end_.cell 7).trans rfl
      have zf := blk_free hT.end_.cell 7
      have HTT := Lib.hid hT
      have hrl := resent_le T i
      have n0 := HT.out.n0
      have n1 := HT.out.n1
      have b1 := HT.out.b1
      have b2 := HT.out.b2
      clear hT
      by_cases hdue : T.bat ≤ T.now
      · have hd : decide (T.bat ≤ T.now) = true := decide_eq_true hdue
        have HEE := Lib.hid (show s.outs now = T.resent i ++ [T.letter 2 T.mark ⟨#[]⟩] from by rw [HE.out, if_pos hdue, ← hnO.out])
        have HDD := Lib.hid (show s.ticks now = { T.swept i with bat := T.now + T.beat } from by rw [HD.out, if_pos hdue, ← hnO.out])
        clear hdue
        go_wp2_with fail
        go_quiet (fail)
        go_wp2_with fail
        go_region
        have hk3 := ((Only.refl (fun k => k = g) wr).drewN (nq + 1)).setCell ⟨g, 7, none⟩ (.int .i64 (T.now + T.beat)) (fun _ => rfl)
        have h5 : EndAt ((wr.drewN (nq + 1)).setCell ⟨g, 7, none⟩ (.int .i64 (T.now + T.beat))) g mo me { T.swept i with bat := T.now + T.beat } :=
          (HTT.out.end_.keep ((Only.refl (fun _ => False) wr).drewN (nq + 1))).set 7 (.int .i64 (T.now + T.beat)) (s' := { T.swept i with bat := T.now + T.beat }) rfl rfl rfl
        have hO5 := HTT.out.only.then hk3 (fun _ _ e => .inl e)
        have hrow5 := row_only HTT.out.row hk3 (fun k hk e => by have := hfl g (.inl rfl); omega)
        generalize (wr.drewN (nq + 1)).setCell ⟨g, 7, none⟩ (.int .i64 (T.now + T.beat)) = w5 at h5 hO5 hrow5 ⊢
        clear hk3 z2 z5 z6 z7 zf
        have z5 : w5.cell? ⟨g, 5, none⟩ = some (.int .i64 T.mark) := (blk_cell h5.cell 5).trans rfl
        have hL : letterB 2 T.epoch T.role T.mark T.taken ⟨#[]⟩ = true := by
          have ho := HT.out
          have := ho.e0; have := ho.e1; have := ho.o0; have := ho.o1; have := ho.t0; have := ho.t1; have := ho.m0; have := ho.m1
          unfold letterB wordB roleB
          simp only [Bool.and_eq_true, Bool.or_eq_true, decide_eq_true_eq, beq_iff_eq]
          refine ⟨⟨⟨⟨⟨?_, ?_⟩, ?_⟩, ?_⟩, ?_⟩, .inr ⟨trivial, ?_⟩⟩ <;> first | omega | rfl | decide
        go_wp2_with fail
        refine (letter_any w5 g mo me _ 2 T.mark ⟨#[]⟩ h5 hL).mono ?_
        rintro e w6 ⟨rfl, hk6⟩
        have hrow6 := row_only hrow5 hk6 (fun _ _ h => h)
        have hO6 := hO5.then hk6 (fun _ _ h => h.elim)
        have h6 := h5.keep hk6
        have hsz6 := hO6.size
        clear hL h5 hO5 hrow5 hk6
        rw [show ({ T.swept i with bat := T.now + T.beat } : CS).letter 2 T.mark ⟨#[]⟩ = T.letter 2 T.mark ⟨#[]⟩ from rfl]
        go_wp2_with (at_builtin; refine wpList_append_own _ rfl _ _ 43 rfl w2.heap.size 9 i0 (.string ⟨#[]⟩) 1 16 Try.underlying43 hi hz0 hz1 hz2 rfl (by decide) _ (T.resent i).length _ rfl (hrow6.alloc _) ⟨w6.heap.size, 0, none⟩ 1 1 [.string (T.letter 2 T.mark ⟨#[]⟩)] rfl rfl (cell_one_new _ _ _) (by simp [Value.oneCell']) (by simp [maxLen]; omega) (by omega) (by rw [World.size_alloc]; omega) ?_; intro v1 w7 hown hg _)
        have h7 := (h6.keep ((Only.refl (fun _ => False) w6).alloc (.cells #[.string (T.letter 2 T.mark ⟨#[]⟩)] 9))).only (Only.of_grown hg) (fun k hk e => by have := (hrow6.lt k e.symm).1; have := hfl k ((foot_swept T g mo me i k).1 hk); omega)
        have hO7 := (hO6.alloc (.cells #[.string (T.letter 2 T.mark ⟨#[]⟩)] 9)).then (Only.of_grown hg) (fun k hk e => by have := (hrow6.lt k e.symm).1; omega)
        have hown7 : w7.ownsRow w.heap.size 9 1 v1 (s.outs now).length ((s.outs now).map Value.string) := by
          rw [HEE.out, List.length_append, List.map_append]
          exact World.ownsRow.mono hown (by omega)
        clear hown hg hrow6 hO6 h6
        go_wp2_with fail
        go_ret
        refine ⟨v1, rfl, hown7, by rw [HDD.out]; exact h7, ?_⟩
        rw [HTO.out] at hO7
        exact hO2.trans hO7
      · have hd : decide (T.bat ≤ T.now) = false := decide_eq_false hdue
        have HEE := Lib.hid (show s.outs now = T.resent i from by rw [HE.out, if_neg hdue, ← hnO.out, List.append_nil])
        have HDD := Lib.hid (show s.ticks now = T.swept i from by rw [HD.out, if_neg hdue, ← hnO.out]; rfl)
        clear hdue
        go_wp2_with fail
        go_quiet (fail)
        have hk3 := (Only.refl (fun _ => False) wr).drewN nq
        go_wp2_with fail
        go_ret
        refine ⟨u5, rfl, ?_, by rw [HDD.out]; exact HTT.out.end_.keep hk3, ?_⟩
        · rw [HEE.out]
          exact World.ownsRow.mono HTT.out.row (by omega)
        · have := HTT.out.only.drewN nq
          rw [HTO.out] at this
          exact hO2.trans this

end Go.Proofs.Yteifehienpeaiaa
