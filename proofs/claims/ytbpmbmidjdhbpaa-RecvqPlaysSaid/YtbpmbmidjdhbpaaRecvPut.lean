/-
  The contract of Put of a receive queue.
  Conditions: numbers are of the kind int, the queue's own in their bounds.
-/
import Derived.Test.YtbpmbmidjdhbpaaRecv
import Derived.Deep.Onto
set_option linter.unusedVariables false
set_option linter.unusedSimpArgs false
set_option maxRecDepth 100000
namespace Go.Proofs.Ytbpmbmidjdhbpaa
open Go.RowKit

theorem und_map : Try.prog.underlying 60 = some (.map 3 5) := by kernel_rfl
theorem und_int : Try.prog.underlying 3 = some (.int .i64) := by kernel_rfl
theorem zero_u8 (w : World) : (zeroValue 5).run Try.prog w = .ok (.int .u8 0) w := by kernel_rfl
theorem info5 : (Try.prog.info? 5).map (fun i => (i.zero, i.size, i.bytes)) = some (some (.int .u8 0), 1, 1) := by kernel_rfl

theorem qwindow_quiet (w : World) (g m : Nat) (q : QS) (n : Nat) (h : QAt w g m q) (hr : q.s.size ≤ q.room) (h1 : q.room ≤ 65536) : Calls Try.prog 15 #[.pointer (some ⟨g, 0, none⟩)] (w.drewN n) fun e w' => e = .returned (.int .i64 (q.room - q.s.size)) ∧ ∃ k, w' = w.drewN k :=
  (qwindow (w.drewN n) g m q (h.keep ((Only.refl _ w).drewN n)) hr h1).mono fun e w' x => ⟨x.1, by
    obtain ⟨k, hk⟩ := x.2
    exact ⟨n + k, by rw [hk]; simp [World.drewN, Nat.add_assoc]⟩⟩

/-- How many entries a map has. -/
def mapN (w : World) (m : Nat) : Nat := match w.heap[m]? with | some (.map es _) => es.size | _ => 0
theorem MapI.mapN_eq {w : World} {m : Nat} {l : List (Int × Value)} (h : MapI w m l) : mapN w m = l.length := by
  obtain ⟨es, c, h1, F⟩ := h
  unfold mapN
  rw [h1]
  have := congrArg List.length F.map
  simpa using this

theorem drain_some {A : List (Int × Nat)} {k : Int} {c : Nat} (h : lookA A k = some c) (f : Nat) : drain (f + 1) k A = ((drain f ((k + 1) % 4294967296) (delA A k)).1, (drain f ((k + 1) % 4294967296) (delA A k)).2.1, c :: (drain f ((k + 1) % 4294967296) (delA A k)).2.2) := by
  conv => lhs; unfold drain
  rw [h]

/-- A slice of bytes of the call's own, made a string. -/
theorem conv_row {w : World} {base : Nat} {v : Value} {bs : List Nat} (h : w.ownsRow base 5 1 v bs.length (bs.map fun c => Value.int .u8 (c : Nat))) :
    (convert 42 9 v).run Try.prog w = .ok (.string (bytesOf bs)) w := by
  obtain ⟨h1, ⟨rfl, h2⟩ | ⟨g, cap, cur, rfl, hb, hg, hc, hm, hs, ht⟩⟩ := h
  · have : bs = [] := List.eq_nil_of_length_eq_zero h2
    subst this
    have := run_convert_bytes_nil (P := Try.prog) w 42 5 Try.underlying42 Try.underlying5 0 0 9 Try.underlying9
    exact this
  · refine run_convert_bytes_arg (P := Try.prog) w 42 5 Try.underlying42 Try.underlying5 g 0 bs.length cap (bs.map fun (c : Nat) => (c : Int)) (by simp) (fun i hi => ?_) 9 Try.underlying9
    have h3 : cur[0 + i]? = some (.int .u8 ((bs.map fun (c : Nat) => (c : Int)).getD i 0)) := by
      rw [Nat.zero_add, ← Array.getElem?_toList]
      have h4 : (cur.toList.take (bs.length * 1))[i]? = some (.int .u8 ((bs.map fun (c : Nat) => (c : Int)).getD i 0)) := by
        rw [ht, List.getElem?_map, List.getElem?_eq_getElem (by omega)]
        simp [List.getD, hi]
      rw [List.getElem?_take, if_pos (by omega)] at h4
      exact h4
    exact (blk_cell hg (0 + i)).trans h3

theorem bytesOf_size (bs : List Nat) : (bytesOf bs).size = bs.length := by unfold bytesOf; rw [strOfNums_size]; simp

theorem row_form {w : World} {base : Nat} {e : TypeId} {v : Value} {n : Nat} {xs : List Value} (h : w.ownsRow base e 1 v n xs) : ∃ a cap, v = .slice a n cap := by
  obtain ⟨_, ⟨rfl, h2⟩ | ⟨g, cap, cur, rfl, _⟩⟩ := h
  · exact ⟨none, 0, by rw [h2]⟩
  · exact ⟨_, cap, rfl⟩

theorem row_only {S : Nat → Prop} {w w' : World} {base : Nat} {e : TypeId} {size : Nat} {v : Value} {n : Nat} {xs : List Value} (h : w.ownsRow base e size v n xs) (hk : Only S w w') (hS : ∀ k, base ≤ k → ¬ S k) : w'.ownsRow base e size v n xs := by
  refine ⟨h.1, ?_⟩
  rcases h.2 with h1 | ⟨g, cap, cur, rfl, hb, hg, rest⟩
  · exact .inl h1
  · exact .inr ⟨g, cap, cur, rfl, hb, hk.at hg (hS g hb), rest⟩

theorem put_range (w : World) (g : Nat) (at_ : Int) (s : ByteArray) (hs : s.size ≤ 1099511627776) (h : ¬ (0 ≤ at_ ∧ at_ < 4294967296) ∨ 65536 < s.size) : Calls Try.prog 11 #[.pointer (some ⟨g, 0, none⟩), .int .i64 at_, .string s] w fun e w' => e = .returned (.tuple #[.int .i64 0, .int .i64 1]) ∧ w = w' := by
  by_cases h1 : 0 ≤ at_ ∧ at_ < 4294967296
  · have h2 : 65536 < s.size := by rcases h with h | h <;> omega
    have d1 : decide (65536 < (s.size : Int)) = true := decide_eq_true (by omega)
    obtain ⟨a0, a1⟩ := h1
    clear h h2
    go_enter Try.func11, Try.ntmps11
    go_wp2_with fail
    refine (check_ok at_ _ a0 a1).mono ?_
    rintro e _ ⟨rfl, rfl⟩
    go_wp2_with fail
    go_ret2
    exact ⟨rfl, rfl⟩
  · have H := Lib.hid h1
    clear h h1
    go_enter Try.func11, Try.ntmps11
    go_wp2_with fail
    refine (check_bad at_ _ H.out).mono ?_
    rintro e _ ⟨rfl, rfl⟩
    go_wp2_with fail
    go_ret2
    exact ⟨rfl, rfl⟩

theorem cutKeep_bounds {a long left size : Int} (l0 : 0 ≤ long) (s0 : 0 ≤ size) : 0 ≤ cutSkip a long left size ∧ cutSkip a long left size ≤ long ∧ 0 ≤ cutKeep a long left size ∧ cutKeep a long left size ≤ size ∧ cutSkip a long left size + cutKeep a long left size ≤ long := by
  unfold cutSkip cutKeep mx mn
  have := Int.emod_nonneg (left - a) (show (4294967296 : Int) ≠ 0 by decide)
  have := Int.emod_lt_of_pos (left - a) (show (0 : Int) < 4294967296 by decide)
  split <;> (repeat' split) <;> omega

set_option maxHeartbeats 4000000 in
theorem put_any (w : World) (g m : Nat) (q : QS) (at_ : Int) (s : ByteArray) (h : QAt w g m q) (a0 : 0 ≤ at_) (a1 : at_ < 4294967296) (hs : s.size ≤ 65536) (n0 : 0 ≤ q.next) (n1 : q.next < 4294967296) (hr : q.s.size ≤ q.room) (hr1 : q.room ≤ 65536) (hA : q.A.length ≤ 65536) :
    Calls Try.prog 11 #[.pointer (some ⟨g, 0, none⟩), .int .i64 at_, .string s] w fun e w' => e = .returned (.tuple #[.int .i64 (q.came at_ s), .int .i64 0]) ∧ QAt w' g m (q.put at_ s) ∧ Only (fun k => k = g ∨ k = m) w w' := by
  obtain ⟨i0, hi, hz0, hz1, hz2⟩ := info_parts info5
  have d1 : decide (65536 < (s.size : Int)) = false := decide_eq_false (by omega)
  have hb := cutKeep_bounds (a := at_) (left := q.next) (show (0 : Int) ≤ s.size by omega) (show 0 ≤ q.room - q.s.size by omega)
  have x0 := h.c0
  have H := Lib.hid h
  have hgm := map_cells h.amap h.cell
  have HP := Lib.hid (show q.laid at_ s = { q with A := putA s at_ (cutSkip at_ s.size q.next (q.room - q.s.size)) q.A (cutKeep at_ s.size q.next (q.room - q.s.size)).toNat } from rfl)
  clear h
  go_enter Try.func11, Try.ntmps11
  go_wp2_with fail
  refine (check_ok at_ _ a0 a1).mono ?_
  rintro e _ ⟨rfl, rfl⟩
  go_wp2_with fail
  go_quiet ((first | (go_at_call 15; exact qwindow_quiet _ g m q _ H.out hr hr1) | (go_at_call 27; exact Calls.quiet_of_same ((cut_ok at_ (s.size : Int) q.next (q.room - q.s.size) _ a0 a1 n0 n1 (by omega) (by omega) (by omega) (by omega)).mono fun _ _ x => ⟨x.1, x.2.symm⟩))))
  have h1 : QAt (w.drewN nq) g m q := H.out.keep ((Only.refl _ w).drewN nq)
  have hO1 : Only (fun k => k = g ∨ k = m) w (w.drewN nq) := (Only.refl _ w).drewN nq
  generalize w.drewN nq = w1 at h1 hO1 ⊢
  clear H x0
  generalize cutSkip at_ s.size q.next (q.room - q.s.size) = sk at *
  generalize cutKeep at_ s.size q.next (q.room - q.s.size) = kp at *
  obtain ⟨b1, b2, b3, b4, b5⟩ := hb
  obtain ⟨sN, rfl⟩ := Int.eq_ofNat_of_zero_le b1
  obtain ⟨kN, rfl⟩ := Int.eq_ofNat_of_zero_le b3
  have hstart : QAt w1 g m { q with A := putA s at_ sN q.A 0 } := h1
  go_wp2_with fail
  go_loopw [45] (fun iv wr => ∃ i : Nat, iv = .int .i64 i ∧ i ≤ kN ∧ QAt wr g m { q with A := putA s at_ sN q.A i } ∧ Only (fun k => k = g ∨ k = m) w wr) (fun i _ => kN - (intOf i).toNat)
  case atStart => exact ⟨0, rfl, by omega, hstart, hO1⟩
  case round =>
    clear hstart h1 hO1
    obtain ⟨i, rfl, hik, hQ, hO⟩ := hrel
    by_cases hlt : i < kN
    · have hnx : putA s at_ sN q.A (i + 1) = addA (putA s at_ sN q.A i) ((at_ + ((sN : Int) + i)) % 4294967296) (s.data.toList.getD (sN + i) 0).toNat := rfl
      have hix : sN + i < s.size := by omega
      have hby : (s.data.toList.getD (sN + i) 0) = s[sN + i] := by
        have h2 : sN + i < s.data.toList.length := by simpa using hix
        rw [List.getD, List.getElem?_eq_getElem h2]; rfl
      rw [hby] at hnx
      clear hby
      have x3 := hQ.c3
      have hm := hQ.amap
      have HQ := Lib.hid hQ
      clear hQ
      generalize putA s at_ sN q.A i = A at hm HQ hnx x3
      have hget := getI_encA ((at_ + ((sN : Int) + i)) % 4294967296) A
      cases hl : lookA A ((at_ + ((sN : Int) + i)) % 4294967296) with
      | some c =>
        rw [hl] at hget
        have hn2 : putA s at_ sN q.A (i + 1) = A := by rw [hnx]; unfold addA; rw [hl]; rfl
        have HN2 := Lib.hid hn2
        clear hl hnx hn2
        go_wp2_with fail
        refine (add_ok at_ ((sN : Int) + i) _ a0 a1 (by omega) (by omega)).mono ?_
        rintro e _ ⟨rfl, rfl⟩
        go_wp2_with (at_lookup; refine wpList_look_I _ rfl _ _ 60 true rfl 3 5 und_map und_int _ (zero_u8 _) m _ rfl hm _ rfl ?_; rw [hget]; simp only [if_true, Option.map_some, Option.getD_some, Option.isSome_some])
        go_roundw
        case rel => exact ⟨i + 1, by go_num, by omega, by rw [HN2.out]; exact HQ.out, hO⟩
        case measure => simp [intOf]; omega
      | none =>
        rw [hl] at hget
        have hn2 : putA s at_ sN q.A (i + 1) = A ++ [((at_ + ((sN : Int) + i)) % 4294967296, s[sN + i].toNat)] := by rw [hnx]; unfold addA; rw [hl]; rfl
        have hpe := putI_encA ((at_ + ((sN : Int) + i)) % 4294967296) s[sN + i].toNat A hl
        have HN2 := Lib.hid hn2
        have HPE := Lib.hid hpe
        clear hl hnx hn2 hpe
        go_wp2_with fail
        refine (add_ok at_ ((sN : Int) + i) _ a0 a1 (by omega) (by omega)).mono ?_
        rintro e _ ⟨rfl, rfl⟩
        go_wp2_with (at_lookup; refine wpList_look_I _ rfl _ _ 60 true rfl 3 5 und_map und_int _ (zero_u8 _) m _ rfl hm _ rfl ?_; rw [hget]; simp only [if_true, Option.map_none, Option.getD_none, Option.isSome_none])
        have hmd : MapI wr.drew m (encA A) := hm.only (Only.refl (fun _ => False) wr).drew (fun h => h)
        obtain ⟨w2, hput, hm2, hk2, hz2⟩ := hmd.put und_map und_int ((at_ + ((sN : Int) + i)) % 4294967296) (.int .u8 (s[sN + i].toNat : Nat))
        rw [HPE.out] at hm2
        have w0 : IntKind.i64.wrap ((sN : Int) + (i : Int)) = (sN : Int) + (i : Int) := by rw [IntKind.wrap_i64]; omega
        have w1 : 0 ≤ (sN : Int) + (i : Int) := by omega
        have w2' : (sN : Int) + (i : Int) < (s.size : Int) := by omega
        have w3 : ((sN : Int) + (i : Int)).toNat = sN + i := by omega
        go_region
        clear w0
        have hQ2 : QAt w2 g m { q with A := A ++ [((at_ + ((sN : Int) + i)) % 4294967296, s[sN + i].toNat)] } := ⟨hk2.at (w := wr.drew) HQ.out.cell (fun e => hgm e.symm), hm2⟩
        have hO2 : Only (fun k => k = g ∨ k = m) w w2 := hO.drew.then hk2 (fun _ _ e => .inr e)
        clear hput hm2 hk2 hz2 hmd hm hget x3
        go_wp2_with fail
        go_roundw
        case rel => exact ⟨i + 1, by go_num, by omega, by rw [HN2.out]; exact hQ2, hO2⟩
        case measure => simp [intOf]; omega
    · obtain rfl : i = kN := by omega
      have hl1 := putA_length s at_ sN q.A i
      have hp2 := Lib.hid (show q.put at_ s = { q with next := (drain (putA s at_ sN q.A i).length q.next (putA s at_ sN q.A i)).1, A := (drain (putA s at_ sN q.A i).length q.next (putA s at_ sN q.A i)).2.1, s := q.s ++ bytesOf (drain (putA s at_ sN q.A i).length q.next (putA s at_ sN q.A i)).2.2 } from by
        unfold QS.put QS.drained
        rw [HP.out]
        rfl)
      have hc2 := Lib.hid (show q.came at_ s = (drain (putA s at_ sN q.A i).length q.next (putA s at_ sN q.A i)).2.2.length from by
        unfold QS.came QS.drained
        rw [HP.out]
        rfl)
      generalize putA s at_ sN q.A i = A1 at *
      clear HP
      have hstart : QAt wr g m { q with next := q.next, A := A1 } := hQ
      have hsz := hO.size
      have hlg := hQ.lt
      have hwr := Only.refl (fun k => k = g ∨ k = m) wr
      have hrow0 := World.ownsRow_nil wr wr.heap.size 5 1
      generalize hwb : wr.heap.size = B at hrow0 hlg hsz
      have HB := Lib.hid hwb
      clear hwb
      go_wp2_with fail
      go_loopw [16] (fun bv wq => ∃ (nx : Int) (A : List (Int × Nat)) (bs : List Nat), QAt wq g m { q with next := nx, A := A } ∧ wq.ownsRow B 5 1 bv bs.length (bs.map fun c => Value.int .u8 (c : Nat)) ∧ drain A1.length q.next A1 = ((drain A.length nx A).1, (drain A.length nx A).2.1, bs ++ (drain A.length nx A).2.2) ∧ (0 ≤ nx ∧ nx < 4294967296) ∧ bs.length + A.length ≤ A1.length ∧ Only (fun k => k = g ∨ k = m) wr wq) (fun _ wq => mapN wq m)
      case atStart => exact ⟨q.next, A1, [], hstart, hrow0, rfl, ⟨n0, n1⟩, by simp, hwr⟩
      case round =>
        clear hstart hrow0 hwr
        obtain ⟨nx, A, bs, hQ, hrow, hdr, ⟨p0, p1⟩, hlen, hO2⟩ := hrel
        have HDR := Lib.hid hdr
        have HROW := Lib.hid hrow
        have hmn := hQ.amap.mapN_eq
        rw [show (encA A).length = A.length from by unfold encA; rw [List.length_map]] at hmn
        have HMN := Lib.hid hmn
        have hk0 := (Only.refl (fun _ => False) wr).drew
        have hQ2 : QAt wr.drew g m { q with next := nx, A := A } := hQ.keep hk0
        have hrow2 : wr.drew.ownsRow B 5 1 _ bs.length (bs.map fun c => Value.int .u8 (c : Nat)) := hrow
        have hO3 := hO2.drew
        have hget := getI_encA nx A
        clear hdr hrow hmn hQ hO2
        have x0 := hQ2.c0
        have x3 := hQ2.c3
        have hm := hQ2.amap
        have hlook := hm.look und_map und_int (zero_u8 _) nx true
        replace x0 : wr.cell? ⟨g, 0, none⟩ = some (.int .i64 nx) := x0
        replace x3 : wr.cell? ⟨g, 3, none⟩ = some (.map (some m)) := x3
        rw [hget] at hlook
        clear hget
        cases hl : lookA A nx with
        | none =>
          rw [hl] at hlook
          simp only [if_true, Option.map_none, Option.getD_none, Option.isSome_none] at hlook
          have hfin : drain A1.length q.next A1 = (nx, A, bs) := by rw [HDR.out, drain_none hl, List.append_nil]
          have HFIN := Lib.hid hfin
          clear hl hfin
          go_wp2_with fail
          go_region
          generalize wr.drew = w2 at hQ2 hrow2 hO3 ⊢
          clear hlook x0 x3 hm
          obtain ⟨va, vcap, rfl⟩ := row_form hrow2
          have hcv := conv_row (w := w2.drew) hrow2
          have hbz := bytesOf_size bs
          have hsum : ¬ 9223372036854775807 < q.s.size + (bytesOf bs).size := by omega
          have x2 := hQ2.c2
          have xf := blk_free hQ2.cell 2
          have HPP := Lib.hid (show q.put at_ s = { q with next := nx, A := A, s := q.s ++ bytesOf bs } from by rw [hp2.out, HFIN.out])
          have HCC := Lib.hid (show q.came at_ s = bs.length from by rw [hc2.out, HFIN.out])
          simp only at x2
          clear hbz
          generalize bytesOf bs = bb at hcv hsum HPP
          clear hrow2
          go_wp2_with fail
          go_region
          have hQ3 : QAt (w2.setCell ⟨g, 2, none⟩ (.string (q.s ++ bb))).drew g m { q with next := nx, A := A, s := q.s ++ bb } := (hQ2.set (q' := { q with next := nx, A := A, s := q.s ++ bb }) 2 (.string (q.s ++ bb)) rfl rfl).keep (Only.refl (fun _ => False) _).drew
          have hO4 := (hO3.setCell ⟨g, 2, none⟩ (.string (q.s ++ bb)) (fun _ => .inl rfl)).drew
          generalize (w2.setCell ⟨g, 2, none⟩ (.string (q.s ++ bb))).drew = w3 at hQ3 hO4 ⊢
          clear hcv hsum x2 xf
          go_wp2_with fail
          go_ret2
          exact ⟨by rw [HCC.out]; rfl, by rw [HPP.out]; exact hQ3, hO.trans hO4⟩
        | some c =>
          rw [hl] at hlook
          simp only [if_true, Option.map_some, Option.getD_some, Option.isSome_some] at hlook
          have hmem := lookA_mem hl
          have hdl := delA_length hmem
          have hstep : drain A1.length q.next A1 = ((drain (delA A nx).length ((nx + 1) % 4294967296) (delA A nx)).1, (drain (delA A nx).length ((nx + 1) % 4294967296) (delA A nx)).2.1, (bs ++ [c]) ++ (drain (delA A nx).length ((nx + 1) % 4294967296) (delA A nx)).2.2) := by
            rw [HDR.out]
            obtain ⟨f, hf⟩ : ∃ f, A.length = f + 1 := ⟨A.length - 1, by omega⟩
            rw [hf, drain_some hl, drain_fuel f (delA A nx).length _ _ (by omega) (Nat.le_refl _)]
            simp
          have HSTEP := Lib.hid hstep
          clear hl hstep hmem
          go_wp2_with fail
          go_region
          generalize wr.drew = w2 at hQ2 hrow2 hO3 ⊢
          clear hlook x0 x3 hm
          have hQd := hQ2.keep (Only.refl (fun _ => False) w2).drew
          obtain ⟨w3, hdel, hm3, hk3, hz3⟩ := hQd.amap.del und_map und_int nx 0
          rw [delI_encA] at hm3
          have x0 := hQ2.c0
          have x3 := hQ2.c3
          simp only at x0 x3
          go_wp2_with fail
          go_region
          have hQ3 : QAt w3 g m { q with next := nx, A := delA A nx } := ⟨hk3.at (w := w2.drew) hQd.cell (fun e => hgm e.symm), hm3⟩
          have hO4 : Only (fun k => k = g ∨ k = m) _ w3 := hO3.drew.then hk3 (fun _ _ e => .inr e)
          have hrow3 := row_only (w := w2) (w' := w3) hrow2 ((Only.refl (fun k => k = m) w2).drew.trans hk3) (fun k hk e => by omega)
          have hB3 : B ≤ w3.heap.size := by have := hO4.size; have := HB.out; omega
          clear hdel hm3 hk3 hz3 hQd hQ2 hO3 hrow2 x0 x3
          have y0 : w3.cell? ⟨g, 0, none⟩ = some (.int .i64 nx) := hQ3.c0
          have ya : (w3.alloc (.cells #[.int .u8 (c : Nat)] 5)).cell? ⟨g, 0, none⟩ = some (.int .i64 nx) := cell_only ((Only.refl (fun _ => False) w3).alloc _) (fun h => h) y0
          have hlg1 := hlg.1
          have hlg2 := hlg.2
          go_wp2_with (at_builtin; refine wpList_append_own _ rfl _ _ 42 rfl B 5 i0 (.int .u8 0) 1 1 Try.underlying42 hi hz0 hz1 hz2 rfl (by decide) _ bs.length _ rfl (hrow3.alloc _) ⟨w3.heap.size, 0, none⟩ 1 1 [.int .u8 (c : Nat)] rfl rfl (cell_one_new _ _ _) (by simp [Value.oneCell']) (by simp [maxLen]; omega) (by omega) (by rw [World.size_alloc]; omega) ?_; intro v1 w4 hown hg _; have yb : w4.cell? ⟨g, 0, none⟩ = some (.int .i64 nx) := cell_only (Only.of_grown hg) (fun e => by have := (hrow3.lt _ e.symm).1; simp only at this; omega) ya)
          refine (add_ok nx 1 w4 p0 p1 (by decide) (by decide)).mono ?_
          rintro e _ ⟨rfl, rfl⟩
          have hQ4 := (hQ3.keep ((Only.refl (fun _ => False) w3).alloc (.cells #[.int .u8 (c : Nat)] 5))).only (Only.of_grown hg) (fun e => by have := (hrow3.lt _ e.symm).1; omega) (fun e => by have := (hrow3.lt _ e.symm).1; omega)
          have yf := blk_free hQ4.cell 0
          have hO5 := (hO4.alloc (.cells #[.int .u8 (c : Nat)] 5)).then (Only.of_grown hg) (fun k hk e => by have := (hrow3.lt _ e.symm).1; have := HB.out; omega)
          have hown2 : w4.ownsRow B 5 1 v1 (bs ++ [c]).length ((bs ++ [c]).map fun c => Value.int .u8 (c : Nat)) := by
            rw [List.length_append, List.map_append]
            exact hown
          clear hown hrow3 hQ3 hO4 y0 ya
          go_wp2_with fail
          have hQ5 : QAt (w4.setCell ⟨g, 0, none⟩ (.int .i64 ((nx + 1) % 4294967296))) g m { q with next := (nx + 1) % 4294967296, A := delA A nx } := hQ4.set 0 (.int .i64 ((nx + 1) % 4294967296)) rfl rfl
          have hO6 := hO5.setCell ⟨g, 0, none⟩ (.int .i64 ((nx + 1) % 4294967296)) (fun _ => .inl rfl)
          have hown3 := row_only hown2 ((Only.refl (fun k => k = g) w4).setCell ⟨g, 0, none⟩ (.int .i64 ((nx + 1) % 4294967296)) (fun _ => rfl)) (fun k hk e => by omega)
          have hms := hQ5.amap.mapN_eq
          rw [show (encA (delA A nx)).length = (delA A nx).length from by unfold encA; rw [List.length_map]] at hms
          have hnn0 := Int.emod_nonneg (nx + 1) (show (4294967296 : Int) ≠ 0 by decide)
          have hnn1 := Int.emod_lt_of_pos (nx + 1) (show (0 : Int) < 4294967296 by decide)
          go_roundw
          case rel => exact ⟨(nx + 1) % 4294967296, delA A nx, bs ++ [c], hQ5, hown3, HSTEP.out, ⟨hnn0, hnn1⟩, by rw [List.length_append]; simp only [List.length_cons, List.length_nil]; omega, hO6⟩
          case measure => rw [hms, HMN.out]; exact hdl

end Go.Proofs.Ytbpmbmidjdhbpaa
