/-
  The contract of Down of package bridge.
  Conditions: numbers are of the kind int, the bridge's own in their bounds.
-/
import Derived.Test.YtkmnjlegmgohfaaBridgeLearn
set_option linter.unusedVariables false
set_option linter.unusedSimpArgs false
namespace Go.Proofs.Ytkmnjlegmgohfaa
open Go.RowKit

def BS.down (s : BS) (port : Int) : BS := { s with L := s.L.filter (fun p => p.2.1 != port) }
def keepP (port : Int) (p : Int × Value) : Bool := (match p.2 with | .agg #[.int _ q, _] => q != port | _ => true)
theorem keepP_at (port x hp ht : Int) : keepP port (x, .agg #[.int .i64 hp, .int .i64 ht]) = (hp != port) := rfl
theorem encH_keepP (port : Int) (L : List (Int × Int × Int)) : (encH L).filter (keepP port) = encH (L.filter (fun p => p.2.1 != port)) := by
  unfold encH
  rw [List.filter_map]
  rfl

set_option maxRecDepth 100000 in
set_option maxHeartbeats 1000000 in
theorem down_any (s : BS) (c g : Nat) (w : World) (port : Int) (hb : BridgeAt w c g s) (hp : 0 ≤ port ∧ port < s.ports) : Calls Try.prog 17 #[.pointer (some ⟨g, 0, none⟩), .int .i64 port] w fun e w' => e = .returned (.int .i64 0) ∧ BridgeAt w' c g (s.down port) ∧ Only (fun k => k = c) w w' := by
  have x4 := blk_cell hb.1 4
  simp only [List.getElem?_toArray, List.getElem?_cons_zero, List.getElem?_cons_succ] at x4
  have hm := hb.2.1
  have hcg := hb.2.2
  have HB := Lib.hid hb.1
  have HB0 := Lib.hid hb
  have HL := Lib.hid (Only.refl (fun k => k = c) w)
  clear hb
  go_enter Try.func17, Try.ntmps17
  go_wp2_with fail
  refine (portno_any s c g _ port HB0.out).mono ?_
  rintro e _ ⟨rfl, rfl⟩
  rw [if_pos hp]
  go_wp2_with (at_range; refine wpList_range_I _ rfl _ 56 rfl 3 62 und_map c _ rfl hm ?_; intro w0 hr0 hk0 hz0)
  have hsz := hm.keys
  have hlt := hm.lt
  have hgl := heap_lt HB.out
  generalize hr : w.heap.size = r at hr0 ⊢
  have hK0 : Only (fun k => k = c) w w0 := HL.out.then hk0 (fun _ _ h => h.elim)
  have hen : ∀ q ∈ encH s.L, ∃ h : Int × Int, q.2 = .agg #[.int .i64 h.1, .int .i64 h.2] := by
    intro q hq
    obtain ⟨y, hy, rfl⟩ := List.mem_map.1 hq
    exact ⟨y.2, rfl⟩
  clear hk0 hz0
  go_frame
  go_loopw [7] (fun _ wr => ∃ left, RangeI wr c r (sweep (encH s.L) left (keepP port)) left ∧ (∀ q ∈ left, q ∈ encH s.L) ∧ Only (fun k => k = c) w wr) (fun _ wr => leftN wr c r)
  case atStart => exact ⟨encH s.L, by rw [sweep_start]; exact hr0, fun q h => h, hK0⟩
  case round =>
    clear hr0 hK0
    obtain ⟨left, hrg, hsub, hK⟩ := hrel
    have hgb : wr.heap[g]? = _ := hK.at HB.out (fun h => hcg h.symm)
    have xg4 := blk_cell hgb 4
    simp only [List.getElem?_toArray, List.getElem?_cons_zero, List.getElem?_cons_succ] at xg4
    go_wp2_with (at_next; refine wpList_next_A _ (fun h : Int × Int => .agg #[.int .i64 h.1, .int .i64 h.2]) rfl _ rfl c r _ _ rfl hrg (fun q hq => hen q (hsub q hq)) ?_ ?_)
    · intro hl
      subst hl
      rw [sweep_end, encH_keepP] at hrg
      have hmk : MapI wr c (encH (s.down port).L) := hrg.map
      clear hrg hsub hen
      go_wp2_with fail
      go_ret
      exact ⟨rfl, ⟨hgb, hmk, hcg⟩, hK⟩
    · intro x hp1 ht w1 hx hrg1 hk1 hz1 hent
      have hxl := hsub _ hx
      have hcr : c < r := by omega
      have hlt1 := delI_length hx
      have hl0 := hrg.leftN_eq
      have hrg2 : RangeI (w1.alloc (.cells #[.int .i64 hp1, .int .i64 ht] 62)) c r (sweep (encH s.L) left (keepP port)) (delI left x) := hrg1.only ((Only.refl (fun _ => False) w1).alloc _) (fun h => h) (fun h => h)
      have hK2 : Only (fun k => k = c) w (w1.alloc (.cells #[.int .i64 hp1, .int .i64 ht] 62)) := (hK.then hk1 (fun i hi e => by omega)).alloc _
      have hgb2 : (w1.alloc (.cells #[.int .i64 hp1, .int .i64 ht] 62)).heap[g]? = some (.cells #[.int .i64 s.ports, .int .i64 s.age, .int .i64 s.room, .int .i64 s.now, .map (some c)] 58 (0, 0)) := blk_alloc (hk1.at hgb (fun e => by omega)) _
      have y4' := blk_cell hgb2 4
      have hz := blk_new w1 (.cells #[.int .i64 hp1, .int .i64 ht] 62)
      have z0 := blk_cell hz 0
      simp only [List.getElem?_toArray, List.getElem?_cons_zero, List.getElem?_cons_succ] at y4' z0
      by_cases hold : hp1 = port
      · have hd : (hp1 == port) = true := by simpa using hold
        have hkeep : keepP port (x, .agg #[.int .i64 hp1, .int .i64 ht]) = false := by rw [keepP_at, hold]; simp
        clear hold
        go_wp2_with (at_delete; refine wpList_delr_I _ rfl _ _ 56 3 rfl 62 und_map und_int c r _ _ rfl hrg2 x rfl ?_; intro w2 hrg3 hk3 hz3)
        go_frame
        rw [delI_twice, sweep_drop hsz hxl hkeep] at hrg3
        go_roundw
        case rel => exact ⟨delI left x, hrg3, fun q hq => hsub q (mem_delI hq), hK2.trans hk3⟩
        case measure => rw [hrg3.leftN_eq, hl0]; exact hlt1
      · have hd : (hp1 == port) = false := by simpa using hold
        have hkeep : keepP port (x, .agg #[.int .i64 hp1, .int .i64 ht]) = true := by rw [keepP_at]; simpa using hold
        clear hold
        go_wp2_with fail
        rw [sweep_keep hsz hxl hkeep] at hrg2
        go_roundw
        case rel => exact ⟨delI left x, hrg2, fun q hq => hsub q (mem_delI hq), hK2⟩
        case measure => rw [hrg2.leftN_eq, hl0]; exact hlt1

end Go.Proofs.Ytkmnjlegmgohfaa
