/-
  The contract of Apart of a receive queue.
  Conditions: numbers are of the kind int, the queue's own in their bounds; what is apart has numbers that may be.
-/
import Derived.Test.YtbpmbmidjdhbpaaRecvPut
import Derived.Test.YtbpmbmidjdhbpaaSortShelf
import Derived.Sort.OwnSortedInts
import Derived.Lib.SlKeysI
set_option linter.unusedVariables false
set_option linter.unusedSimpArgs false
set_option maxRecDepth 100000
namespace Go.Proofs.Ytbpmbmidjdhbpaa
open Go.RowKit Go.Sort
attribute [local go_sem] max_ii min_ii

theorem perm_del : ∀ {l : List (Int × Value)} {x : Int} {v : Value}, (l.map Prod.fst).Nodup → (x, v) ∈ l → l.Perm ((x, v) :: delI l x)
  | [], _, _, _, h => by cases h
  | p :: l, x, v, hn, h => by
    rw [List.map_cons, List.nodup_cons] at hn
    by_cases hp : p.1 = x
    · have e : p = (x, v) := by
        rcases List.mem_cons.1 h with h1 | h1
        · exact h1.symm
        · exact absurd (List.mem_map_of_mem (f := Prod.fst) h1) (by simp only; rw [← hp]; exact hn.1)
      have hd : delI (p :: l) x = l := by
        unfold delI
        rw [List.filter_cons_of_neg (by simp [hp])]
        apply List.filter_eq_self.2
        intro q hq
        have : q.1 ≠ x := fun e => hn.1 (by rw [hp, ← e]; exact List.mem_map_of_mem hq)
        simpa using this
      rw [hd, e]
    · have h1 : (x, v) ∈ l := by
        rcases List.mem_cons.1 h with h1 | h1
        · exact absurd (congrArg Prod.fst h1).symm hp
        · exact h1
      have hd : delI (p :: l) x = p :: delI l x := by
        unfold delI
        rw [List.filter_cons_of_pos (by simpa using hp)]
      rw [hd]
      exact ((perm_del hn.2 h1).cons p).trans (List.Perm.swap _ _ _)

theorem RangeI.left_nodup {w : World} {b r : Nat} {l left : List (Int × Value)} (h : RangeI w b r l left) : (left.map Prod.fst).Nodup := by
  obtain ⟨es, clock, seen, _, _, F, hf, _⟩ := h
  have e1 := congrArg (List.map (fun q : Value × Value => RowKit.intOf q.1)) hf
  have e2 := congrArg (List.map (fun q : Value × Value => RowKit.intOf q.1)) F.map
  rw [List.map_map, List.map_map] at e1 e2
  have e1' : (es.toList.filter fun e => !seen.contains e.born).map kInt = left.map Prod.fst := e1
  have e2' : es.toList.map kInt = l.map Prod.fst := e2
  rw [← e1']
  refine (List.Sublist.map kInt List.filter_sublist).nodup ?_
  rw [e2']
  exact F.keys

/-- The numbers of a slice, as they lie. -/
theorem ints_lie {w2 : World} {B : Nat} {v : Value} {K : List Int} {n : Nat} (h : w2.ownsRow B 3 1 v n (K.map (Value.int .i64))) : K.length = n ∧ ∃ a cap, v = .slice a n cap ∧ n ≤ cap ∧ ∀ i, i < n → ∃ blk, a = some ⟨blk, 0, none⟩ ∧ B ≤ blk ∧ blk < w2.heap.size ∧ w2.cell? ⟨blk, i, none⟩ = some (.int .i64 (K.getD i 0)) := by
  obtain ⟨hl, ⟨rfl, h0⟩ | ⟨g, cap, cur, rfl, hb, hg, hc1, hm1, hz1, ht1⟩⟩ := h
  · rw [List.length_map] at hl
    exact ⟨by omega, none, 0, by rw [h0], by omega, fun i hi => by omega⟩
  · rw [List.length_map] at hl
    refine ⟨by omega, _, cap, rfl, hc1, fun i hi => ⟨g, rfl, hb, heap_lt hg, ?_⟩⟩
    rw [blk_cell hg i]
    have h1 : cur[i]? = (cur.toList.take (n * 1))[i]? := by rw [List.getElem?_take, if_pos (by omega), Array.getElem?_toList]
    have hi2 : i < K.length := by omega
    rw [h1, ht1, List.getElem?_map, List.getElem?_eq_getElem hi2]
    simp [List.getD, hi2]

/-- slices.Sort at a slice of the call's own. -/
theorem sort_row (w : World) (base : Nat) (v : Value) (ss : List Int) (h : w.ownsRow base 3 1 v ss.length (ss.map (Value.int .i64))) (hl : ss.length ≤ 1099511627776) :
    Calls Try.prog 28 #[v] w fun e w' => e = .returned (.tuple #[]) ∧ w'.ownsRow base 3 1 v ss.length ((ss.mergeSort leI).map (Value.int .i64)) ∧ Only (fun k => some k = v.ownBlock) w w' := by
  obtain ⟨h1, ⟨rfl, h2⟩ | ⟨g, cap, cur, rfl, hb, hg, hc, hm, hs, ht⟩⟩ := h
  · have : ss = [] := List.eq_nil_of_length_eq_zero h2
    subst this
    refine (AnyM.slices_Sort_int_none Try.sortA none 0 w).mono ?_
    rintro e w' ⟨rfl, rfl⟩
    exact ⟨rfl, ⟨by simp, .inl ⟨rfl, rfl⟩⟩, Only.refl _ _⟩
  · rw [Nat.mul_one] at ht
    have ele : (fun x y : Int => decide (x ≤ y)) = leI := rfl
    refine (AnyM.slices_Sort_int Try.sortA g 0 cap ss w (holds_of_blockI hg ht) (heap_lt hg) (by omega)).mono ?_
    rintro e w' ⟨rfl, n, os, rfl⟩
    rw [ele]
    have hlen : (ss.mergeSort leI).length = ss.length := by simp
    refine ⟨rfl, ownsRow_sortedI hlen hb hg hc hm hs, ?_⟩
    exact Only.of_grown (grownBy_sortedI (ss.mergeSort leI).toArray)

/-- How far a number lies behind next. -/
def off (nx k : Int) : Int := (k - nx) % 4294967296
/-- What is apart, by how far it lies. -/
def QS.far (q : QS) : List Int := (q.A.map fun p => off q.next p.1).mergeSort leI

/-- The stretches of the first so many of rising numbers: from, to. -/
def runs (D : List Int) : Nat → List (Int × Int)
  | 0 => []
  | i + 1 => if 0 < i ∧ D.getD (i - 1) 0 = D.getD i 0 - 1 then (runs D i).dropLast ++ [(((runs D i).getLastD (0, 0)).1, D.getD i 0 + 1)] else runs D i ++ [(D.getD i 0, D.getD i 0 + 1)]

/-- A stretch, as it is told. -/
def told (nx : Int) (p : Int × Int) : Int × Int := ((nx + p.1) % 4294967296, (nx + p.2) % 4294967296)
def rangeCells (L : List (Int × Int)) : List Value := (L.map fun p => [Value.int .i64 p.1, Value.int .i64 p.2]).flatten
def QS.stretches (q : QS) : List (Int × Int) := (runs q.far q.far.length).map (told q.next)

theorem rangeCells_length (L : List (Int × Int)) : (rangeCells L).length = L.length * 2 := by
  unfold rangeCells
  induction L with
  | nil => rfl
  | cons p L ih => simp only [List.map_cons, List.flatten_cons, List.length_append, List.length_cons, List.length_nil, ih]; omega
theorem rangeCells_append (L M : List (Int × Int)) : rangeCells (L ++ M) = rangeCells L ++ rangeCells M := by simp [rangeCells]
theorem rangeCells_at : ∀ (L : List (Int × Int)) (i : Nat) (h : i < L.length), (rangeCells L)[i * 2]? = some (.int .i64 (L.getD i (0, 0)).1) ∧ (rangeCells L)[i * 2 + 1]? = some (.int .i64 (L.getD i (0, 0)).2)
  | p :: L, 0, h => ⟨rfl, rfl⟩
  | p :: L, i + 1, h => by
    have ih := rangeCells_at L i (by simpa using h)
    have e : rangeCells (p :: L) = [.int .i64 p.1, .int .i64 p.2] ++ rangeCells L := by simp [rangeCells]
    rw [e]
    constructor
    · rw [List.getElem?_append_right (by simp only [List.length_cons, List.length_nil]; omega), show (i + 1) * 2 - [Value.int IntKind.i64 p.1, Value.int IntKind.i64 p.2].length = i * 2 by simp only [List.length_cons, List.length_nil]; omega]
      simpa using ih.1
    · rw [List.getElem?_append_right (by simp only [List.length_cons, List.length_nil]; omega), show (i + 1) * 2 + 1 - [Value.int IntKind.i64 p.1, Value.int IntKind.i64 p.2].length = i * 2 + 1 by simp only [List.length_cons, List.length_nil]; omega]
      simpa using ih.2

theorem runs_pos (D : List Int) : ∀ i, 0 < i → 0 < (runs D i).length
  | i + 1, _ => by
    unfold runs
    split <;> simp
theorem runs_length (D : List Int) : ∀ i, (runs D i).length ≤ i
  | 0 => Nat.le_refl _
  | i + 1 => by
    have ih := runs_length D i
    have : ∀ h : 0 < i, 0 < (runs D i).length := fun h => runs_pos D i h
    unfold runs
    split
    · rename_i h
      have := this h.1
      simp only [List.length_append, List.length_dropLast, List.length_cons, List.length_nil]
      omega
    · simp only [List.length_append, List.length_cons, List.length_nil]
      omega

theorem cell_two_new (w : World) (x y : Value) (t : TypeId) : ∀ j u, [x, y][j]? = some u → (w.alloc (.cells #[x, y] t)).cell? ((⟨w.heap.size, 0, none⟩ : Addr).add j) = some u := by
  intro j u hj
  have hb := blk_new w (.cells #[x, y] t)
  match j, hj with
  | 0, hj => exact (blk_cell hb 0).trans hj
  | 1, hj => exact (blk_cell hb 1).trans hj
  | j + 2, hj => simp at hj

theorem rangeCells_last (nx : Int) (L : List (Int × Int)) (h : 0 < L.length) (b : Int) : rangeCells ((L.dropLast ++ [((L.getLastD (0, 0)).1, b)]).map (told nx)) = (rangeCells (L.map (told nx))).set ((L.length - 1) * 2 + 1) (.int .i64 ((nx + b) % 4294967296)) := by
  obtain ⟨M, p, rfl⟩ : ∃ M p, L = M ++ [p] := ⟨L.dropLast, L.getLast (List.ne_nil_of_length_pos h), (List.dropLast_concat_getLast _).symm⟩
  have h1 : (M ++ [p]).dropLast = M := by simp
  have h2 : (M ++ [p]).getLastD (0, 0) = p := by simp
  rw [h1, h2, List.map_append, List.map_append, rangeCells_append, rangeCells_append]
  have h3 : (rangeCells (M.map (told nx))).length = M.length * 2 := by rw [rangeCells_length, List.length_map]
  rw [List.set_append_right _ _ (by rw [h3]; simp), h3]
  have h4 : ((M ++ [p]).length - 1) * 2 + 1 - M.length * 2 = 1 := by simp
  rw [h4]
  rfl

/-- What is told of a list of stretches, in memory. -/
structure RangesAt (w : World) (base : Nat) (a : Option Addr) (L : List (Int × Int)) : Prop where
  at_ : ∀ i, i < L.length → ∃ g, a = some ⟨g, 0, none⟩ ∧ base ≤ g ∧ g < w.heap.size ∧ w.cell? ⟨g, i * 2, none⟩ = some (.int .i64 (L.getD i (0, 0)).1) ∧ w.cell? ⟨g, i * 2 + 1, none⟩ = some (.int .i64 (L.getD i (0, 0)).2)

theorem info37 : (Try.prog.info? 37).map (fun i => (i.zero, i.size, i.bytes)) = some (some (.agg #[.int .i64 0, .int .i64 0]), 2, 16) := by kernel_rfl
theorem info3 : (Try.prog.info? 3).map (fun i => (i.zero, i.size, i.bytes)) = some (some (.int .i64 0), 1, 8) := by kernel_rfl

set_option maxHeartbeats 4000000 in
theorem apart_any (w : World) (g m : Nat) (q : QS) (most : Int) (h : QAt w g m q) (n0 : 0 ≤ q.next) (n1 : q.next < 4294967296) (hA : q.A.length ≤ 65536) (hk : ∀ p ∈ q.A, 0 ≤ p.1 ∧ p.1 < 4294967296) :
    Calls Try.prog 12 #[.pointer (some ⟨g, 0, none⟩), .int .i64 most] w fun e w' => ∃ a cap, e = .returned (.slice a (mx 0 (mn most q.stretches.length)).toNat cap) ∧ RangesAt w' w.heap.size a (q.stretches.take (mx 0 (mn most q.stretches.length)).toNat) ∧ Only (fun _ => False) w w' := by
  obtain ⟨i3, hi3, hz30, hz31, hz32⟩ := info_parts info3
  have x3 := h.c3
  have H := Lib.hid h
  have hm := h.amap
  have HK := Lib.hid hk
  have hlt := h.lt
  clear h hk
  go_enter Try.func12, Try.ntmps12
  go_wp2_with (at_range; refine wpList_range_I _ rfl _ 60 rfl 3 5 und_map m _ rfl hm ?_; intro w0 hr0 hk0 hz0)
  generalize hr : w.heap.size = r at hr0 hlt ⊢
  have hO0 : Only (fun _ => False) w w0 := hk0
  have hrow0 := World.ownsRow_nil w0 w0.heap.size 3 1
  have HR := Lib.hid hr
  have hrlt := hr0.lt.2
  clear hk0 hr
  generalize hB : w0.heap.size = B at hrow0 hz0 hrlt
  have HB := Lib.hid hB
  clear hB
  have HPERM : Hid (∃ F : List Int, F = [] ∧ (F ++ (encA q.A).map (fun p => off q.next p.1)).Perm ((encA q.A).map (fun p => off q.next p.1))) := Lib.hid ⟨[], rfl, by simp⟩
  go_frame
  go_loopw [5] (fun fv wq => ∃ (left : List (Int × Value)) (F : List Int), RangeI wq m r (encA q.A) left ∧ (∀ p ∈ left, p ∈ encA q.A) ∧ wq.ownsRow B 3 1 fv F.length (F.map (Value.int .i64)) ∧ (F ++ left.map (fun p => off q.next p.1)).Perm ((encA q.A).map (fun p => off q.next p.1)) ∧ Only (fun k => k = r) w0 wq) (fun _ wq => leftN wq m r)
  case atStart => exact ⟨encA q.A, [], hr0, fun p hp => hp, hrow0, by simp, Only.refl _ _⟩
  case round =>
    clear hr0 hrow0 HPERM
    obtain ⟨left, F, hrg, hsub, hrow, hperm, hO⟩ := hrel
    have hen : ∀ p ∈ left, ∃ c : Nat, p.2 = Value.int .u8 (c : Nat) := by
      intro p hp
      obtain ⟨y, hy, rfl⟩ := List.mem_map.1 (hsub p hp)
      exact ⟨y.2, rfl⟩
    have HSUB := Lib.hid hsub
    have HPERM := Lib.hid hperm
    clear hsub hperm
    go_wp2_with (at_next; refine wpList_next_A _ (fun c : Nat => Value.int .u8 (c : Nat)) rfl _ rfl m r _ _ rfl hrg hen ?_ ?_)
    · intro hl
      subst hl
      have hfar : F.mergeSort leI = q.far := by
        have h1 := HPERM.out
        simp only [List.map_nil, List.append_nil] at h1
        have e2 : (encA q.A).map (fun p => off q.next p.1) = q.A.map fun p => off q.next p.1 := by unfold encA; rw [List.map_map]; rfl
        rw [e2] at h1
        exact mergeSort_of_perm_i h1
      have hfl : F.length ≤ 65536 := by
        have h1 := HPERM.out.length_eq
        have h2 : (encA q.A).length = q.A.length := by unfold encA; rw [List.length_map]
        rw [List.length_append, List.length_map, List.length_map, h2] at h1
        simp only [List.length_nil] at h1
        omega
      have HFAR := Lib.hid hfar
      have hQ1 : QAt wr g m q := (H.out.keep hO0).only hO (by omega) (by omega)
      clear hfar hen hrg
      go_wp2_with fail
      refine (sort_row wr B u5 F hrow (by omega)).mono ?_
      rintro e w1 ⟨rfl, hrow1, hk1⟩
      rw [HFAR.out] at hrow1
      have hown := hrow.lt
      have hQ2 := hQ1.only hk1 (fun e => by have := (hown _ e.symm).1; omega) (fun e => by have := (hown _ e.symm).1; omega)
      have hO1 : Only (fun _ => False) w w1 := (hO0.then hO (fun i hi e => by have := HR.out; omega)).then hk1 (fun i hi e => by have := (hown _ e.symm).1; have := HR.out; omega)
      obtain ⟨hDl, la, lcap, rfl, hlcap, hlc⟩ := ints_lie hrow1
      have HLC := Lib.hid hlc
      have HDL := Lib.hid hDl
      have hD01 : ∀ d ∈ q.far, 0 ≤ d ∧ d < 4294967296 := by
        intro d hd
        have h1 : d ∈ q.A.map fun p => off q.next p.1 := (List.mergeSort_perm _ _).mem_iff.1 hd
        obtain ⟨p, _, rfl⟩ := List.mem_map.1 h1
        exact ⟨Int.emod_nonneg _ (by decide), Int.emod_lt_of_pos _ (by decide)⟩
      have HD01 := Lib.hid hD01
      have HST : Hid (q.stretches = (runs q.far F.length).map (told q.next)) := Lib.hid (by unfold QS.stretches; rw [hDl])
      clear hlc hDl hD01 hrow hrow1 hk1 hown hQ1 HFAR HPERM HSUB hO
      generalize q.far = D at HLC HDL HD01 HST
      generalize F.length = n at *
      obtain ⟨i37, hi37, hz370, hz371, hz372⟩ := info_parts info37
      have hs1 := hO1.size
      have hrow0 := World.ownsRow_nil w1 w1.heap.size 37 2
      generalize hB2 : w1.heap.size = B2 at hrow0 hs1
      have HB2 := Lib.hid hB2
      have hlt2 := hQ2.lt
      clear hB2
      go_wp2_with fail
      go_loopw [42, 9] (fun iv ov wq => ∃ (i : Nat), iv = .int .i64 i ∧ i ≤ n ∧ wq.ownsRow B2 37 2 ov (runs D i).length (rangeCells ((runs D i).map (told q.next))) ∧ Only (fun _ => False) w1 wq) (fun i _ _ => n - (intOf i).toNat)
      case atStart => exact ⟨0, rfl, by omega, hrow0, Only.refl _ _⟩
      case round =>
        clear hrow0
        obtain ⟨i, rfl, hin, hrow, hO⟩ := hrel
        have hrl := runs_length D i
        by_cases hlt : i < n
        · obtain ⟨blk, rfl, hb1, hb2, hcell⟩ := HLC.out i hlt
          have hdm := HD01.out (D.getD i 0) (by rw [List.getD, List.getElem?_eq_getElem (by rw [HDL.out]; exact hlt)]; exact List.getElem_mem _)
          have hQw := hQ2.keep hO
          have x0 := hQw.c0
          have hcw := cell_only hO (fun h => h) hcell
          have d0 := hdm.1
          have d1 := hdm.2
          have hto : ((q.next + D.getD i 0) % 4294967296 + 1) % 4294967296 = (q.next + (D.getD i 0 + 1)) % 4294967296 := by omega
          have HTO := Lib.hid hto
          clear hto hdm hcell hQw
          have hsz9 : B2 ≤ wr.heap.size := by have := hO.size; have := HB2.out; omega
          by_cases hmerge : 0 < i ∧ D.getD (i - 1) 0 = D.getD i 0 - 1
          · have hrs := Lib.hid (show runs D (i + 1) = (runs D i).dropLast ++ [(((runs D i).getLastD (0, 0)).1, D.getD i 0 + 1)] from by conv => lhs; unfold runs; rw [if_pos hmerge])
            obtain ⟨hi0, hm1⟩ := hmerge
            obtain ⟨blk', hbe, _, _, hcp⟩ := HLC.out (i - 1) (by omega)
            cases hbe
            have hcpw := cell_only hO (fun h => h) hcp
            have hi1 : ((i : Int) - 1).toNat = i - 1 := by omega
            have hi2 : (0 : Int) ≤ (i : Int) - 1 := by omega
            have hi3 : (i : Int) - 1 < (n : Int) := by omega
            have dm0 : decide (0 < (i : Int)) = true := decide_eq_true (by omega)
            have dm1 : (D.getD (i - 1) 0 == D.getD i 0 - 1) = true := by rw [hm1]; simp
            have hrp := runs_pos D i hi0
            have hD1 := HD01.out (D.getD (i - 1) 0) (by rw [List.getD, List.getElem?_eq_getElem (by rw [HDL.out]; omega)]; exact List.getElem_mem _)
            have hE1 := hD1.1
            clear hcp hm1 hD1
            generalize D.getD (i - 1) 0 = dp at hcpw dm1 hE1
            obtain ⟨hrl0, ⟨rfl, h0⟩ | ⟨gb, cap, cur, rfl, hgb, hgg, hc1, hm2, hz1, ht1⟩⟩ := id hrow
            · omega
            have hst := hrow.stored (((runs D i).length - 1) * 2 + 1) (.int .i64 ((q.next + (D.getD i 0 + 1)) % 4294967296))
            have hk1 : (((runs D i).length : Int) - 1).toNat = (runs D i).length - 1 := by omega
            have hk2 : (0 : Int) ≤ ((runs D i).length : Int) - 1 := by omega
            have hk3 : ((runs D i).length : Int) - 1 < ((runs D i).length : Int) := by omega
            have hfz := hrow.frozenAt (((runs D i).length - 1) * 2 + 1)
            have hcl : ∃ u, wr.cell? ⟨gb, ((runs D i).length - 1) * 2 + 1, none⟩ = some u := by
              refine ⟨_, (hrow.cellAt (((runs D i).length - 1) * 2 + 1) (by omega)).trans (List.getElem?_eq_getElem (by rw [rangeCells_length, List.length_map]; omega))⟩
            obtain ⟨u, hcl⟩ := hcl
            have hnew := rangeCells_last q.next (runs D i) hrp (D.getD i 0 + 1)
            rw [← hrs.out] at hnew
            have hlen2 : (runs D (i + 1)).length = (runs D i).length := by rw [hrs.out]; simp; omega
            have hown2 : (wr.setCell ⟨gb, ((runs D i).length - 1) * 2 + 1, none⟩ (.int .i64 ((q.next + (D.getD i 0 + 1)) % 4294967296))).ownsRow B2 37 2 (.slice (some ⟨gb, 0, none⟩) (runs D i).length cap) (runs D (i + 1)).length (rangeCells ((runs D (i + 1)).map (told q.next))) := by
              rw [hlen2, hnew]
              exact hst.1
            have hO2 : Only (fun _ => False) w1 (wr.setCell ⟨gb, ((runs D i).length - 1) * 2 + 1, none⟩ (.int .i64 ((q.next + (D.getD i 0 + 1)) % 4294967296))) := hO.setCell _ _ (fun h => by simp only at h; have := HB2.out; omega)
            have HOWN := Lib.hid hown2
            have HL2 := Lib.hid hlen2
            clear hst hnew hrl0 hgg hc1 hm2 hz1 ht1 hown2 hrow hlen2
            generalize hrr : (runs D i).length = rl at *
            clear hrr
            generalize D.getD i 0 = d at *
            go_wp2_with fail
            refine (add_ok q.next (d) _ n0 n1 (by omega) (by omega)).mono ?_
            rintro e _ ⟨rfl, rfl⟩
            have e0 := Int.emod_nonneg (q.next + d) (show (4294967296 : Int) ≠ 0 by decide)
            have e1 := Int.emod_lt_of_pos (q.next + d) (show (0 : Int) < 4294967296 by decide)
            go_wp2_with fail
            refine (add_ok ((q.next + d) % 4294967296) 1 _ e0 e1 (by decide) (by decide)).mono ?_
            rintro e _ ⟨rfl, rfl⟩
            rw [HTO.out]
            clear e0 e1
            have htold : told q.next (d, d + 1) = ((q.next + d) % 4294967296, (q.next + (d + 1)) % 4294967296) := rfl
            generalize (q.next + d) % 4294967296 = fr at *
            generalize (q.next + (d + 1)) % 4294967296 = tt at *
            have HTOLD := Lib.hid htold
            clear htold
            go_wp2_with fail
            go_roundw
            case rel => exact ⟨i + 1, by go_num, by omega, by first | exact HOWN.out | (rw [HL2.out] at HOWN; exact HOWN.out), hO2⟩
            case measure => simp [intOf]; omega
          · have hrs := Lib.hid (show runs D (i + 1) = runs D i ++ [(D.getD i 0, D.getD i 0 + 1)] from by conv => lhs; unfold runs; rw [if_neg hmerge])
            by_cases hi0 : 0 < i
            · obtain ⟨blk', hbe, _, _, hcp⟩ := HLC.out (i - 1) (by omega)
              cases hbe
              have hcpw := cell_only hO (fun h => h) hcp
              have hi1 : ((i : Int) - 1).toNat = i - 1 := by omega
              have hi2 : (0 : Int) ≤ (i : Int) - 1 := by omega
              have hi3 : (i : Int) - 1 < (n : Int) := by omega
              have dm0 : decide (0 < (i : Int)) = true := decide_eq_true (by omega)
              have dm1 : (D.getD (i - 1) 0 == D.getD i 0 - 1) = false := by simp only [beq_eq_false_iff_ne]; intro e; exact hmerge ⟨hi0, e⟩
              clear hcp hmerge
              generalize D.getD (i - 1) 0 = dp at hcpw dm1
              generalize D.getD i 0 = d at *
              go_wp2_with fail
              refine (add_ok q.next (d) _ n0 n1 (by omega) (by omega)).mono ?_
              rintro e _ ⟨rfl, rfl⟩
              have e0 := Int.emod_nonneg (q.next + d) (show (4294967296 : Int) ≠ 0 by decide)
              have e1 := Int.emod_lt_of_pos (q.next + d) (show (0 : Int) < 4294967296 by decide)
              go_wp2_with fail
              refine (add_ok ((q.next + d) % 4294967296) 1 _ e0 e1 (by decide) (by decide)).mono ?_
              rintro e _ ⟨rfl, rfl⟩
              rw [HTO.out]
              clear e0 e1
              have htold : told q.next (d, d + 1) = ((q.next + d) % 4294967296, (q.next + (d + 1)) % 4294967296) := rfl
              generalize (q.next + d) % 4294967296 = fr at *
              generalize (q.next + (d + 1)) % 4294967296 = tt at *
              have HTOLD := Lib.hid htold
              clear htold
              go_wp2_with (at_builtin; refine wpList_append_own _ rfl _ _ 34 rfl B2 37 i37 (.agg #[.int .i64 0, .int .i64 0]) 2 16 Try.underlying34 hi37 hz370 hz371 hz372 rfl (by decide) _ (runs D i).length _ rfl (hrow.alloc _) ⟨wr.heap.size, 0, none⟩ 1 1 [.int .i64 fr, .int .i64 tt] rfl rfl (cell_two_new _ _ _ _) (by simp [Value.oneCell']) (by simp [maxLen]; omega) (by omega) (by rw [World.size_alloc]; omega) ?_; intro v1 w2 hown hg _)
              have hown2 : w2.ownsRow B2 37 2 v1 (runs D (i + 1)).length (rangeCells ((runs D (i + 1)).map (told q.next))) := by
                rw [hrs.out, List.length_append, List.map_append, rangeCells_append, List.map_cons, List.map_nil, HTOLD.out]
                exact hown
              have hO2 : Only (fun _ => False) w1 w2 := (hO.alloc (.cells #[.int .i64 fr, .int .i64 tt] 37)).then (Only.of_grown hg) (fun k hk e => by have := (hrow.lt _ e.symm).1; have := HB2.out; omega)
              clear hown hg
              go_roundw
              case rel => exact ⟨i + 1, by go_num, by omega, hown2, hO2⟩
              case measure => simp [intOf]; omega
            · have dm0 : decide (0 < (i : Int)) = false := decide_eq_false (by omega)
              have hi00 := Lib.hid hi0
              clear hmerge hi0
              generalize D.getD i 0 = d at *
              go_wp2_with fail
              refine (add_ok q.next (d) _ n0 n1 (by omega) (by omega)).mono ?_
              rintro e _ ⟨rfl, rfl⟩
              have e0 := Int.emod_nonneg (q.next + d) (show (4294967296 : Int) ≠ 0 by decide)
              have e1 := Int.emod_lt_of_pos (q.next + d) (show (0 : Int) < 4294967296 by decide)
              go_wp2_with fail
              refine (add_ok ((q.next + d) % 4294967296) 1 _ e0 e1 (by decide) (by decide)).mono ?_
              rintro e _ ⟨rfl, rfl⟩
              rw [HTO.out]
              clear e0 e1
              have htold : told q.next (d, d + 1) = ((q.next + d) % 4294967296, (q.next + (d + 1)) % 4294967296) := rfl
              generalize (q.next + d) % 4294967296 = fr at *
              generalize (q.next + (d + 1)) % 4294967296 = tt at *
              have HTOLD := Lib.hid htold
              clear htold
              go_wp2_with (at_builtin; refine wpList_append_own _ rfl _ _ 34 rfl B2 37 i37 (.agg #[.int .i64 0, .int .i64 0]) 2 16 Try.underlying34 hi37 hz370 hz371 hz372 rfl (by decide) _ (runs D i).length _ rfl (hrow.alloc _) ⟨wr.heap.size, 0, none⟩ 1 1 [.int .i64 fr, .int .i64 tt] rfl rfl (cell_two_new _ _ _ _) (by simp [Value.oneCell']) (by simp [maxLen]; omega) (by omega) (by rw [World.size_alloc]; omega) ?_; intro v1 w2 hown hg _)
              have hown2 : w2.ownsRow B2 37 2 v1 (runs D (i + 1)).length (rangeCells ((runs D (i + 1)).map (told q.next))) := by
                rw [hrs.out, List.length_append, List.map_append, rangeCells_append, List.map_cons, List.map_nil, HTOLD.out]
                exact hown
              have hO2 : Only (fun _ => False) w1 w2 := (hO.alloc (.cells #[.int .i64 fr, .int .i64 tt] 37)).then (Only.of_grown hg) (fun k hk e => by have := (hrow.lt _ e.symm).1; have := HB2.out; omega)
              clear hown hg
              go_roundw
              case rel => exact ⟨i + 1, by go_num, by omega, hown2, hO2⟩
              case measure => simp [intOf]; omega
        · obtain rfl : i = n := by omega
          have hsl : q.stretches.length = (runs D i).length := by rw [HST.out, List.length_map]
          have m0 : 0 ≤ mx 0 (mn most ((runs D i).length : Int)) := by unfold mx; omega
          have m1 : mx 0 (mn most ((runs D i).length : Int)) ≤ ((runs D i).length : Int) := by unfold mx mn; omega
          have hRA : ∀ (a : Option Addr) (k : Nat), (∀ j, j < (runs D i).length → ∃ g, a = some ⟨g, 0, none⟩ ∧ w.heap.size ≤ g ∧ g < wr.heap.size ∧ wr.cell? ⟨g, j * 2, none⟩ = some (.int .i64 (((runs D i).map (told q.next)).getD j (0, 0)).1) ∧ wr.cell? ⟨g, j * 2 + 1, none⟩ = some (.int .i64 (((runs D i).map (told q.next)).getD j (0, 0)).2)) → RangesAt wr w.heap.size a (q.stretches.take k) := by
            intro a k h
            refine ⟨fun j hj => ?_⟩
            rw [List.length_take, hsl] at hj
            have := h j (by omega)
            rw [HST.out]
            have e : (((runs D i).map (told q.next)).take k).getD j (0, 0) = ((runs D i).map (told q.next)).getD j (0, 0) := by
              simp only [List.getD]
              rw [List.getElem?_take, if_pos (by omega)]
            rw [e]
            exact this
          have hOO : Only (fun _ => False) w wr := hO1.trans hO
          obtain ⟨hrl0, ⟨rfl, h0⟩ | ⟨gb, cap, cur, rfl, hgb, hgg, hc1, hm2, hz1, ht1⟩⟩ := id hrow
          · have hR2 := Lib.hid (hRA none 0 (fun j hj => by omega))
            have HSL := Lib.hid hsl
            rw [h0] at m0 m1 hsl
            have hz : mx 0 (mn most 0) = 0 := by have h1 := m0; have h2 := m1; simp only [Int.natCast_zero] at h1 h2; omega
            have HH0 := Lib.hid h0
            clear hRA hsl m0 m1 h0 hrl0 hrow
            go_wp2_with fail
            go_ret
            refine ⟨none, 0, ?_, ?_, hOO⟩
            · rw [HSL.out, HH0.out]; simp only [Int.natCast_zero, hz]; rfl
            · rw [HSL.out, HH0.out]
              simp only [Int.natCast_zero, hz]
              exact hR2.out
          · have hR2 := Lib.hid (fun k => hRA (some ⟨gb, 0, none⟩) k (fun j hj => by
              have hc := rangeCells_at ((runs D i).map (told q.next)) j (by rw [List.length_map]; exact hj)
              refine ⟨gb, rfl, by omega, heap_lt hgg, ?_, ?_⟩
              · rw [hrow.cellAt (j * 2) (by omega), hc.1]
              · rw [hrow.cellAt (j * 2 + 1) (by omega), hc.2]))
            have HSL := Lib.hid hsl
            have hcap1 : (mx 0 (mn most ((runs D i).length : Int))) ≤ (cap : Int) := by omega
            have m3 := Lib.hid (show ((runs D i).length : Int) ≤ (cap : Int) from by omega)
            generalize (runs D i).length = rl at *
            clear hRA hsl hrl0 hrow hgg hc1 hm2 hz1 ht1
            go_wp2_with fail
            go_ret
            refine ⟨some ⟨gb, 0, none⟩, cap, by rw [HSL.out]; rfl, by rw [HSL.out]; exact hR2.out _, hOO⟩
    · intro x y w1 hx hrg1 hk1 hz1 hent
      have hxm : (x, Value.int .u8 (y : Nat)) ∈ encA q.A := HSUB.out _ hx
      have hx01 : 0 ≤ x ∧ x < 4294967296 := by
        obtain ⟨z, hz, hze⟩ := List.mem_map.1 hxm
        have := HK.out z hz
        have e1 : z.1 = x := congrArg Prod.fst hze
        omega
      have hlt1 := delI_length hx
      have hl0 := hrg.leftN_eq
      have hpm : (left.map fun p => off q.next p.1).Perm (off q.next x :: (delI left x).map fun p => off q.next p.1) := by
        have hn : (left.map Prod.fst).Nodup := hrg.left_nodup
        have hdel : left.Perm ((x, Value.int .u8 (y : Nat)) :: delI left x) := perm_del hn hx
        exact hdel.map _
      have hfl : F.length ≤ 65536 := by
        have h1 := HPERM.out.length_eq
        have h2 : (encA q.A).length = q.A.length := by unfold encA; rw [List.length_map]
        rw [List.length_append, List.length_map, List.length_map, h2] at h1
        omega
      have HPM := Lib.hid hpm
      have HX := Lib.hid hx
      have HHL := Lib.hid hl0
      have HL1 := Lib.hid hlt1
      clear hpm hx hl0 hlt1 hxm hen hrg
      have hx0 := hx01.1
      have hx1 := hx01.2
      have hQ1 : QAt w1 g m q := (H.out.keep hO0).only (hO.trans hk1) (by omega) (by omega)
      have y0 := hQ1.c0
      have hO1 := hO.trans hk1
      have hrow1 := row_only hrow hk1 (fun k hk e => by omega)
      have hB1 : B ≤ w1.heap.size := by have := hO1.size; have := HB.out; omega
      clear hrow hO hk1 hz1 hx01
      go_wp2_with fail
      refine (distance_ok q.next x w1 n0 n1 hx0 hx1).mono ?_
      rintro e _ ⟨rfl, rfl⟩
      rw [show (x - q.next) % 4294967296 = off q.next x from rfl]
      go_wp2_with (at_builtin; refine wpList_append_own _ rfl _ _ 67 rfl B 3 i3 (.int .i64 0) 1 8 Try.underlying67 hi3 hz30 hz31 hz32 rfl (by decide) _ F.length _ rfl (hrow1.alloc _) ⟨w1.heap.size, 0, none⟩ 1 1 [.int .i64 (off q.next x)] rfl rfl (cell_one_new _ _ _) (by simp [Value.oneCell']) (by simp [maxLen]; omega) (by omega) (by rw [World.size_alloc]; omega) ?_; intro v1 w2 hown hg _)
      have hown2 : w2.ownsRow B 3 1 v1 (F ++ [off q.next x]).length ((F ++ [off q.next x]).map (Value.int .i64)) := by
        rw [List.length_append, List.map_append]
        exact hown
      have hk2 : Only (fun k => some k = _) w1 w2 := ((Only.refl _ w1).alloc (.cells #[.int .i64 (off q.next x)] 3)).trans (Only.of_grown hg)
      have hO2 := hO1.then hk2 (fun k hk e => by have := (hrow1.lt _ e.symm).1; have := HB.out; omega)
      have hrg2 := hrg1.only hk2 (fun e => by have := (hrow1.lt _ e.symm).1; omega) (fun e => by have := (hrow1.lt _ e.symm).1; omega)
      clear hown hk2
      go_roundw
      case rel =>
        refine ⟨delI left x, F ++ [off q.next x], hrg2, fun p hp => HSUB.out p (mem_delI hp), hown2, ?_, hO2⟩
        rw [List.append_assoc]
        exact ((List.Perm.append_left F HPM.out).symm).trans HPERM.out
      case measure => rw [hrg2.leftN_eq, HHL.out]; exact HL1.out

end Go.Proofs.Ytbpmbmidjdhbpaa
