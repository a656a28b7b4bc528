/-
  strings.Builder's WriteString, and the bytes of a log's events from one on (event.Log's Bytes).
  Conditions: the log's events may be; bytes of at most 2^40.
-/
import Derived.Test.YteifehienpeaiaaEvent
import Derived.Test.YteifehienpeaiaaBldShelf
import Derived.Lib.AppendStr
set_option linter.unusedVariables false
set_option linter.unusedSimpArgs false
set_option maxRecDepth 100000
namespace Go.Proofs.Yteifehienpeaiaa
open Go.RowKit

theorem stay3 {w : World} {p : Nat} {a b c : Value} {T : TypeId} (h : w.heap[p]? = some (.cells #[a, b, c] T (0, 0))) : (((w.setCell ⟨p, 0, none⟩ a).setCell ⟨p, 1, none⟩ b).setCell ⟨p, 2, none⟩ c).heap[p]? = some (.cells #[a, b, c] T (0, 0)) := by
  have h1 := blk_set (blk_set (blk_set h 0 a) 1 b) 2 c
  simpa using h1

set_option maxHeartbeats 1000000 in
theorem first_any (s : ByteArray) (x : EV) (rest : ByteArray) (w : World) (h : FirstIs s x rest) (hx : evB x = true) (hs : s.size ≤ 65536) :
    Calls Try.prog 66 #[.string s] w fun e w' => e = .returned (.tuple #[.agg #[.int .i64 x.kind, .int .i64 x.now, .string x.data], .string rest, .bool true]) ∧ Only (fun _ => False) w w' := by
  obtain ⟨h1, h2, h3, h4, h5, h6⟩ := h
  have hO := (Only.refl (fun _ => False) w).alloc (.cells #[.int .i64 0, .int .i64 0, .string ⟨#[]⟩] 83)
  have hz := blk_new w (.cells #[.int .i64 0, .int .i64 0, .string ⟨#[]⟩] 83)
  have HX := Lib.hid hx
  have hC : evC x = 0 := if_pos hx
  have H2 := Lib.hid h2
  have H3 := Lib.hid h3
  have H4 := Lib.hid h4
  have H5 := Lib.hid h5
  have H6 := Lib.hid h6
  clear hx h2 h3 h4 h5 h6
  obtain ⟨k, n, d⟩ := x
  simp only at *
  have hds : d.size ≤ 1514 := by have := (evB_iff _).1 HX.out; simp only at this; omega
  have a0 : (9 : Int) + d.size ≤ s.size := by omega
  have a1 : ¬ (s.size : Int) - 9 < d.size := by omega
  have a2 : (9 : Nat) + d.size ≤ s.size := by omega
  clear h1
  go_enter Try.func66, Try.ntmps66
  go_wp2_with fail
  generalize w.alloc (.cells #[.int .i64 0, .int .i64 0, .string ⟨#[]⟩] 83) = w1 at *
  generalize hp : w.heap.size = p at *
  refine (get2 s 7 _ (by omega) (by omega) (by omega)).mono ?_
  rintro e w2 ⟨rfl, hk⟩
  rw [show (7 : Int).toNat = 7 from rfl, H4.out]
  replace hO := hO.trans hk
  replace hz := hk.at hz (fun h => h)
  clear hk
  go_wp2_with fail
  refine (get1 s 0 _ (by omega) (by omega) (by omega)).mono ?_
  rintro e w3 ⟨rfl, hk⟩
  rw [show (0 : Int).toNat = 0 from rfl, H2.out]
  replace hO := hO.trans hk
  replace hz := hk.at hz (fun h => h)
  clear hk
  have y0 := blk_cell hz 0
  have yf := blk_free hz
  simp only [List.getElem?_toArray, List.getElem?_cons_zero, List.getElem?_cons_succ] at y0
  go_wp2_with fail
  have hz2 := blk_set hz 0 (.int .i64 k)
  have hO2 := hO.setCell ⟨p, 0, none⟩ (.int .i64 k) (fun h => by simp only at h; omega)
  simp only [List.setIfInBounds_toArray, List.set_cons_zero, List.set_cons_succ] at hz2
  clear y0 yf hz hO
  refine (get6 s 1 _ (by omega) (by omega) (by omega)).mono ?_
  rintro e w4 ⟨rfl, hk⟩
  rw [show (1 : Int).toNat = 1 from rfl, H3.out]
  replace hO := hO2.trans hk
  replace hz := hk.at hz2 (fun h => h)
  clear hk hz2 hO2
  have y1 := blk_cell hz 1
  have y2 := blk_cell hz 2
  have yf := blk_free hz
  simp only [List.getElem?_toArray, List.getElem?_cons_zero, List.getElem?_cons_succ] at y1 y2
  go_wp2_with fail
  have hz2 := blk_set (blk_set hz 1 (.int .i64 n)) 2 (.string d)
  have hO2 := (hO.setCell ⟨p, 1, none⟩ (.int .i64 n) (fun h => by simp only at h; omega)).setCell ⟨p, 2, none⟩ (.string d) (fun h => by simp only at h; omega)
  simp only [List.setIfInBounds_toArray, List.set_cons_zero, List.set_cons_succ] at hz2
  clear y1 y2 yf hz hO
  rw [H5.out]
  generalize (w4.setCell ⟨p, 1, none⟩ (.int .i64 n)).setCell ⟨p, 2, none⟩ (.string d) = w5 at *
  have y0 := blk_cell hz2 0
  have y1 := blk_cell hz2 1
  have y2 := blk_cell hz2 2
  have yf := blk_free hz2
  simp only [List.getElem?_toArray, List.getElem?_cons_zero, List.getElem?_cons_succ] at y0 y1 y2
  have hz3 := stay3 hz2
  have hO3 := ((hO2.setCell ⟨p, 0, none⟩ (.int .i64 k) (fun h => by simp only at h; omega)).setCell ⟨p, 1, none⟩ (.int .i64 n) (fun h => by simp only at h; omega)).setCell ⟨p, 2, none⟩ (.string d) (fun h => by simp only at h; omega)
  clear H2 H3 H4 H5
  have HZ3 := Lib.hid hz3
  have HZ2 := Lib.hid hz2
  have HO2 := Lib.hid hO2
  have HO3 := Lib.hid hO3
  clear hz2 hz3 hO2 hO3
  have q1 : IntKind.i64.wrap (9 + (d.size : Int)) = 9 + d.size := by rw [IntKind.wrap_i64]; omega
  have q2 : (0 : Int) ≤ 9 + d.size := by omega
  have q3 : (9 + (d.size : Int)).toNat = 9 + d.size := by omega
  go_region_with ((go_at_call 60; go_loud (refine (evcheck_any ⟨k, n, d⟩ _ (by show d.size ≤ _; omega)).mono ?_; rintro e wn ⟨rfl, hk⟩; have hzn : wn.heap[p]? = some (.cells #[.int .i64 k, .int .i64 n, .string d] 83 (0, 0)) := (by first | exact hk.at HZ2.out (fun h => h) | exact hk.at HZ3.out (fun h => h)); have hOn : Only (fun _ => False) w wn := (by first | exact (HO2.out.drew).trans hk | exact (HO3.out.drew).trans hk); rw [hC]; have yn0 := blk_cell hzn 0; have yn1 := blk_cell hzn 1; have yn2 := blk_cell hzn 2; have ynf := blk_free hzn; simp only [List.getElem?_toArray, List.getElem?_cons_zero, List.getElem?_cons_succ] at yn0 yn1 yn2)))
  all_goals
    rw [H6.out]
    have hz4 := stay3 hzn
    have hO4 := ((hOn.setCell ⟨p, 0, none⟩ (.int .i64 k) (fun h => by simp only at h; omega)).setCell ⟨p, 1, none⟩ (.int .i64 n) (fun h => by simp only at h; omega)).setCell ⟨p, 2, none⟩ (.string d) (fun h => by simp only at h; omega)
    generalize ((wn.setCell ⟨p, 0, none⟩ (.int .i64 k)).setCell ⟨p, 1, none⟩ (.int .i64 n)).setCell ⟨p, 2, none⟩ (.string d) = w8 at *
    have v0 := blk_cell hz4 0
    have v1 := blk_cell hz4 1
    have v2 := blk_cell hz4 2
    simp only [List.getElem?_toArray, List.getElem?_cons_zero, List.getElem?_cons_succ] at v0 v1 v2
    clear HZ3 HZ2 HO2 HO3 yn0 yn1 yn2 ynf hzn hk hOn y0 y1 y2 yf
    go_wp2_with fail
    exact bodyPost_ret (v := .tuple #[.agg #[.int .i64 k, .int .i64 n, .string d], .string rest, .bool true]) (by simp [results, Try.results66, go_sem, v0, v1, v2]) rfl ⟨rfl, hO4⟩

theorem ev_news (x : EV) (w : World) (q : Nat) (hq : q = w.heap.size) : ∀ j u, x.cells[j]? = some u → (w.alloc (.cells #[.int .i64 x.kind, .int .i64 x.now, .string x.data] 83)).cell? ((⟨q, 0, none⟩ : Addr).add j) = some u := by
  subst hq
  intro j u hj
  rw [Addr.add_lit, Nat.zero_add]
  have := blk_cell (blk_new w (.cells #[.int .i64 x.kind, .int .i64 x.now, .string x.data] 83)) j
  exact this.trans (by simpa [EV.cells] using hj)
theorem ev_one (x : EV) : ∀ u ∈ x.cells, u.oneCell' = true := by
  intro u hu
  simp only [EV.cells, List.mem_cons, List.not_mem_nil, or_false] at hu
  rcases hu with rfl | rfl | rfl <;> rfl
theorem row_onlyE {w w' : World} {B : Nat} {v : Value} {n : Nat} {xs : List Value} (h : w.ownsRow B 83 3 v n xs) (hk : Only (fun _ => False) w w') : w'.ownsRow B 83 3 v n xs := by
  refine ⟨h.1, ?_⟩
  rcases h.2 with h1 | ⟨g, cap, cur, rfl, hb, hg, rest⟩
  · exact .inl h1
  · exact .inr ⟨g, cap, cur, rfl, hb, hk.at hg (fun h => h), rest⟩
theorem encAll_drop (c : List EV) (i : Nat) : (encAll (c.drop i)).size ≤ (encAll c).size := by
  have h := encAll_append (c.take i) (c.drop i)
  rw [List.take_append_drop] at h
  rw [h, ByteArray.size_append]
  omega
theorem encAll_length (c : List EV) : c.length ≤ (encAll c).size := by
  induction c with
  | nil => exact Nat.zero_le _
  | cons x c ih => rw [encAll_size_cons, List.length_cons]; omega
set_option maxHeartbeats 1000000 in
/-- The events of bytes that are events' bytes. -/
theorem parts_any (c : List EV) (w : World) (hc : ∀ x ∈ c, evB x = true) (hs : (encAll c).size ≤ 65536) :
    Calls Try.prog 38 #[.string (encAll c)] w fun e w' => ∃ v, e = .returned (.tuple #[v, .int .i64 0]) ∧ w'.ownsRow w.heap.size 83 3 v c.length (cellsOf c) ∧ Only (fun _ => False) w w' := by
  have HC := Lib.hid hc
  have hsz : Hid ((encAll c).size ≤ 65536) := Lib.hid hs
  clear hc
  have hlen : c.length ≤ 65536 := Nat.le_trans (encAll_length c) hs
  obtain ⟨i0, hi0, hz0, hz1, hz2⟩ := info_parts infoE
  go_enter Try.func38, Try.ntmps38
  go_wp2_with fail
  go_loopw [0, 4] (fun sv ov wr => ∃ i : Nat, i ≤ c.length ∧ sv = .string (encAll (c.drop i)) ∧ wr.ownsRow w.heap.size 83 3 ov i (cellsOf (c.take i)) ∧ Only (fun _ => False) w wr) (fun sv _ _ => match sv with | .string s => s.size | _ => 0)
  case atStart => exact ⟨0, Nat.zero_le _, rfl, World.ownsRow_nil _ _ _ _, Only.refl _ _⟩
  case round =>
    obtain ⟨i, hi, rfl, hrow, hO⟩ := hrel
    have hsd := Nat.le_trans (encAll_drop c i) hs
    have hsz := hO.size
    by_cases hlt : i < c.length
    · have hdr : c.drop i = c[i] :: c.drop (i + 1) := List.drop_eq_getElem_cons hlt
      have hx := HC.out _ (List.getElem_mem hlt)
      have htk : c.take (i + 1) = c.take i ++ [c[i]] := List.take_succ_eq_append_getElem hlt
      have hF := first_is c[i] (encAll (c.drop (i + 1))) hx
      rw [show evText c[i] ++ encAll (c.drop (i + 1)) = encAll (c.drop i) from by rw [hdr]; rfl] at hF
      have hm := hF.size
      rw [hdr] at hF
      have HTK := Lib.hid htk
      have HF := Lib.hid hF
      clear htk hF
      generalize c[i] = x at *
      have hHD := Lib.hid hdr
      rw [← hdr] at HF
      generalize hS : encAll (c.drop i) = S at *
      have hne : S.toList.isEmpty = false := not_empty_of_size (by omega)
      clear hdr hS hHD
      go_wp2_with fail
      refine (first_any S x _ wr HF.out hx hsd).mono ?_
      rintro e w2 ⟨rfl, hk⟩
      have hrow2 := (row_onlyE hrow hk).alloc (.cells #[.int .i64 x.kind, .int .i64 x.now, .string x.data] 83)
      have hO2 := hO.trans hk
      have hsz2 := hO2.size
      have hz := blk_new w2 (.cells #[.int .i64 x.kind, .int .i64 x.now, .string x.data] 83)
      clear hrow hk hO hx
      have hsA := Lib.hid (show w2.heap.size + 1 = (w2.alloc (.cells #[.int .i64 x.kind, .int .i64 x.now, .string x.data] 83)).heap.size by rw [World.size_alloc])
      go_wp2_with (at_builtin; refine wpList_append_own _ rfl _ _ 78 rfl w.heap.size 83 i0 (.agg #[.int .i64 0, .int .i64 0, .string ⟨#[]⟩]) 3 32 Try.underlying78 hi0 hz0 hz1 hz2 rfl (by decide) _ i _ rfl (hrow2.alloc _) ⟨w2.heap.size + 1, 0, none⟩ 1 1 x.cells rfl rfl (ev_news x _ _ hsA.out) (ev_one x) (by simp [maxLen]; omega) (by omega) (by rw [World.size_alloc, ← hsA.out]; omega) ?_; intro v1 w7 hown hg _)
      refine ⟨⟨i + 1, hlt, rfl, ?_, ?_⟩, ?_⟩
      · rw [HTK.out, cellsOf_append]
        simpa [cellsOf] using hown
      · exact ((hO2.alloc _).alloc _).then (Only.of_grown hg) (fun k hk e => by have := (hrow2.lt k e.symm).1; omega)
      · show (encAll (c.drop (i + 1))).size < S.size
        omega
    · obtain rfl : i = c.length := by omega
      rw [List.drop_length, encAll_nil]
      rw [List.take_length] at hrow
      have he : (⟨#[]⟩ : ByteArray).toList.isEmpty = true := empty_of_size rfl
      go_wp2_with fail
      go_ret2
      exact ⟨_, rfl, hrow, hO⟩


theorem infoB : (Try.prog.info? 120).map (·.size) = some 2 := by kernel_rfl
theorem infoU8 : (Try.prog.info? 5).map (fun i => (i.zero, i.size, i.bytes)) = some (some (.int .u8 0), 1, 1) := by kernel_rfl

set_option maxHeartbeats 1000000 in
theorem check_any (B b : Nat) (bs : List Value) (w : World) (h : Lib.IsBuilder 120 5 B b bs w) :
    Calls Try.prog 79 #[.pointer (some ⟨b, 0, none⟩)] w fun e w' => e = .returned (.tuple #[]) ∧ Lib.BuilderAt 120 5 B b (.pointer (some ⟨b, 0, none⟩)) bs w' ∧ Below B w w' := by
  obtain ⟨j, hj, hjs⟩ := Option.map_eq_some_iff.1 infoB
  rcases h with h | h
  · have c0 := h.cell0
    have f0 := h.frozen0
    have hto := Lib.run_to_unsafe (P := Try.prog) w ⟨b, 0, none⟩ Try.underlying118 Try.underlying142 hj (by rw [hjs]; decide) h.shape (Nat.zero_lt_succ 1)
    have hfrom := Lib.run_from_unsafe (P := Try.prog) w ⟨b, 0, none⟩ Try.underlying142 Try.underlying118 hj h.shape (by kernel_rfl)
    have hesc := Lib.hid (@run_callFunc_extern Try.prog 83 _ Extern.AbiNoEscape.same Try.func83 (by kernel_rfl) (by kernel_rfl) (by kernel_rfl) (by kernel_rfl))
    have H := Lib.hid h
    clear h
    have HT := Lib.hid hto
    have HF := Lib.hid hfrom
    clear hto hfrom
    go_enter Try.func79, Try.ntmps79
    go_wp2_with fail
    rw [HT.out]
    go_wp2_with fail
    rw [hesc.out]
    rw [Lib.run_noEscape]
    go_wp2_with fail
    rw [HF.out]
    go_wp2_with fail
    go_end0
    exact ⟨rfl, H.out.used _, (Below.refl B w).setCell (p := ⟨b, 0, none⟩) H.out.1 _⟩
  · have c0 := h.cell0
    have hne := Lib.run_neq_ptr_same (P := Try.prog) w ⟨b, 0, none⟩ Try.underlying118 hj
    have H := Lib.hid h
    have HN := Lib.hid hne
    clear h hne
    go_enter Try.func79, Try.ntmps79
    go_wp2_with fail
    rw [HN.out]
    go_wp2_with fail
    go_end0
    exact ⟨rfl, H.out, Below.refl B _⟩

set_option maxHeartbeats 1000000 in
theorem write_any (B b : Nat) (bs : List Value) (s : ByteArray) (w : World) (h : Lib.IsBuilder 120 5 B b bs w) (hl : bs.length + s.size ≤ 1000000000000) (hB : B ≤ w.heap.size) :
    Calls Try.prog 64 #[.pointer (some ⟨b, 0, none⟩), .string s] w fun e w' => e = .returned (.tuple #[.int .i64 s.size, .nilIface]) ∧ Lib.BuilderAt 120 5 B b (.pointer (some ⟨b, 0, none⟩)) (bs ++ Lib.strCells s) w' ∧ Below B w w' := by
  obtain ⟨i0, hi, hz0, hz1, hz2⟩ := info_parts infoU8
  go_enter Try.func64, Try.ntmps64
  go_wp2_with fail
  refine (check_any B b bs _ h).mono ?_
  rintro e w1 ⟨rfl, ⟨hBb, v, hb, hrow, hne⟩, hk1⟩
  have hs1 := hk1.size
  have y0 := blk_cell hb 0
  have y1 := blk_cell hb 1
  have yf := blk_free hb 1
  simp only [List.getElem?_toArray, List.getElem?_cons_zero, List.getElem?_cons_succ] at y0 y1
  go_wp2_with (at_builtin; refine Lib.wpList_append_own_string _ rfl _ _ 34 9 rfl B 5 i0 Try.underlying34 Try.underlying9 hi hz0 hz1 hz2 _ _ _ rfl hrow s rfl (by unfold maxLen; omega) (by omega) (by omega) ?_)
  intro v' w2 hrow2 hgr _
  have hb2 : w2.heap[b]? = some (.cells #[.pointer (some ⟨b, 0, none⟩), v] 120 (0, 0)) := (Only.of_grown hgr).at hb (fun e => hne e.symm)
  have z1 := blk_cell hb2 1
  have zf := blk_free hb2 1
  simp only [List.getElem?_toArray, List.getElem?_cons_zero, List.getElem?_cons_succ] at z1
  obtain ⟨ao, n', cap, rfl⟩ : ∃ ao n' cap, v' = .slice ao n' cap := by
    rcases hrow2.2 with ⟨hv, _⟩ | ⟨_, _, _, hv, _⟩ <;> exact ⟨_, _, _, hv⟩
  clear y0 y1 yf
  go_wp2_with fail
  go_ret2
  refine ⟨rfl, Lib.BuilderAt.put (T := 120) (e := 5) hBb hb2 (bs' := bs ++ Lib.strCells s) (by simpa [Lib.strCells_length] using hrow2) (by decide), ?_⟩
  exact (hk1.grown hgr (by omega) (fun k hk => (hrow.lt k hk).1)).setCell (p := ⟨b, 1, none⟩) hBb _

theorem blen_any (B b : Nat) (bs : List Value) (w : World) (h : Lib.IsBuilder 120 5 B b bs w) : Calls Try.prog 63 #[.pointer (some ⟨b, 0, none⟩)] w fun e w' => e = .returned (.int .i64 bs.length) ∧ w = w' :=
  (Try.Builder_Len B b bs w h).mono fun _ _ x => ⟨x.1, x.2.symm⟩
theorem strCells_append (a b : ByteArray) : Lib.strCells (a ++ b) = Lib.strCells a ++ Lib.strCells b := by
  simp [Lib.strCells]
theorem encAll_snoc (c : List EV) (x : EV) : encAll (c ++ [x]) = encAll c ++ evText x := by rw [encAll_append, encAll_one]

/-- What lies in the builder: the first k events from g on. -/
structure BytesAt (w0 : World) (B b g sz : Nat) (L : List EV) (k : Nat) (w : World) : Prop where
  bld : Lib.IsBuilder 120 5 B b (Lib.strCells (encAll ((L.drop g).take k))) w
  le : g + k ≤ L.length
  size : k ≤ 1 ∨ (encAll ((L.drop g).take k)).size ≤ sz
  only : Below B w0 w

theorem take_encAll_le (L : List EV) (hE : ∀ x ∈ L, x.data.size ≤ 1514) (hL : L.length ≤ 1000) (g k : Nat) : (encAll ((L.drop g).take k)).size ≤ 1523000 := by
  have h : ∀ l : List EV, (∀ x ∈ l, x.data.size ≤ 1514) → (encAll l).size ≤ l.length * 1523 := by
    intro l
    induction l with
    | nil => intro _; exact Nat.zero_le _
    | cons x l ih =>
      intro hl
      have := ih (fun y hy => hl y (List.mem_cons_of_mem _ hy))
      have := hl x List.mem_cons_self
      rw [encAll_size_cons, List.length_cons]
      omega
  have h1 := h ((L.drop g).take k) (fun x hx => hE x (List.mem_of_mem_drop (List.mem_of_mem_take hx)))
  have h2 : ((L.drop g).take k).length ≤ 1000 := by rw [List.length_take, List.length_drop]; omega
  omega

theorem bld_keep {B b : Nat} {bs : List Value} {w w' : World} (h : Lib.IsBuilder 120 5 B b bs w) (hk : Only (fun _ => False) w w') : Lib.IsBuilder 120 5 B b bs w' := by
  have one : ∀ p, Lib.BuilderAt 120 5 B b p bs w → Lib.BuilderAt 120 5 B b p bs w' := by
    rintro p ⟨hB, v, hb, ⟨h1, h2⟩, hne⟩
    refine ⟨hB, v, hk.at hb (fun h => h), ⟨h1, ?_⟩, hne⟩
    rcases h2 with h2 | ⟨g, cap, cur, rfl, hbg, hg, rest⟩
    · exact .inl h2
    · exact .inr ⟨g, cap, cur, rfl, hbg, hk.at hg (fun h => h), rest⟩
  rcases h with h | h
  · exact .inl (one _ h)
  · exact .inr (one _ h)

attribute [local go_sem] max_ii min_ii
set_option maxHeartbeats 2000000 in
theorem bytes_any (w : World) (B g : Nat) (rv : Value) (L : List EV) (n sz : Nat) (h : LogAt w B g rv L) (hok : ∀ x ∈ L, evB x = true) (hL : L.length ≤ 1000) (hn : n < L.length) (hsz : sz ≤ 1000000) :
    Calls Try.prog 37 #[.pointer (some ⟨g, 0, none⟩), .int .i64 (n + 1), .int .i64 sz] w fun e w' => ∃ k : Nat, e = .returned (.tuple #[.string (encAll ((L.drop n).take k)), .int .i64 ((n + k + 1 : Nat) : Int)]) ∧ 1 ≤ k ∧ n + k ≤ L.length ∧ (k ≤ 1 ∨ (encAll ((L.drop n).take k)).size ≤ sz) ∧ Only (fun _ => False) w w' := by
  have hE : ∀ x ∈ L, x.data.size ≤ 1514 := fun x hx => by have := ((evB_iff x).1 (hok x hx)).2; omega
  have hTL := Lib.hid (take_encAll_le L hE hL n)
  have HOK := Lib.hid hok
  have HE := Lib.hid hE
  have HL := Lib.hid h
  have hmx : mx 1 ((n : Int) + 1) = n + 1 := by unfold mx; split <;> omega
  have hbl := Lib.fresh_isBuilder 120 5 w
  have hkb : Below w.heap.size w (w.alloc (.cells #[.pointer none, .slice none 0 0] 120)) := (Below.refl _ w).alloc (Nat.le_refl _) _
  clear hok hE h
  go_enter Try.func37, Try.ntmps37
  go_wp2_with fail
  clear hmx
  have hstart : BytesAt w w.heap.size w.heap.size n sz L 0 (w.alloc (.cells #[.pointer none, .slice none 0 0] 120)) := ⟨hbl, by omega, .inl (by omega), hkb⟩
  clear hbl hkb
  generalize w.alloc (.cells #[.pointer none, .slice none 0 0] 120) = w1 at *
  generalize hb : w.heap.size = b at *
  go_loopw [7] (fun nv wr => ∃ k : Nat, nv = .int .i64 ((n + k + 1 : Nat) : Int) ∧ BytesAt w b b n sz L k wr) (fun nv _ => L.length + 1 - (intOf nv).toNat)
  case atStart => exact ⟨0, by simp, hstart⟩
  case round =>
    obtain ⟨k, rfl, hT⟩ := hrel
    have hO : Only (fun _ => False) w wr := Only.of_below (by rw [hb]; exact hT.only)
    have hLw := HL.out.mono hO
    obtain ⟨a, cap, rfl, hcap, hrow⟩ := erow_form hLw.row
    have x0 := blk_cell hLw.cell 0
    simp only [List.getElem?_toArray, List.getElem?_cons_zero] at x0
    have hle := hT.le
    by_cases hlt : n + k < L.length
    · obtain ⟨x, hx⟩ : ∃ x, L[n + k]? = some x := ⟨_, List.getElem?_eq_getElem hlt⟩
      have hxm : x ∈ L := List.mem_of_getElem? hx
      obtain ⟨gb, rfl, _, _, z0, z1, z2⟩ := hrow _ _ hx
      have hnx : (L.drop n).take (k + 1) = (L.drop n).take k ++ [x] := by
        rw [List.take_add_one, List.getElem?_drop, hx]
        rfl
      have HNX := Lib.hid hnx
      have HTT := Lib.hid hT
      have HX := Lib.hid (HOK.out x hxm)
      have hds := HE.out x hxm
      have hSz := hTL.out k
      have hts : (evText x).size = 9 + x.data.size := evText_size x
      have hsn : (encAll ((L.drop n).take (k + 1))).size = (encAll ((L.drop n).take k)).size + (evText x).size := by
        rw [hnx, encAll_snoc, ByteArray.size_append]
      have hts2 : (evText x).size ≤ 1523 := by omega
      have HSN := Lib.hid hsn
      have HTS := Lib.hid hts
      have hk0 : k = 0 → (encAll ((L.drop n).take k)).size = 0 := by rintro rfl; rfl
      have HK0 := Lib.hid hk0
      have hk1 : 1 ≤ k → 0 < (encAll ((L.drop n).take k)).size := by
        intro h1
        have := encAll_length ((L.drop n).take k)
        rw [List.length_take, List.length_drop] at this
        omega
      have HK1 := Lib.hid hk1
      have HROW := Lib.hid hrow
      clear hnx hT hsn hx hxm hk0 hk1 hrow hts hLw
      go_wp2_with fail
      refine (text_ev x _ HX.out).mono ?_
      rintro e w2 ⟨rfl, hk2⟩
      have hb2 := bld_keep HTT.out.bld hk2
      have hO2 := hO.trans hk2
      have hL2 := HL.out.mono hO2
      have hs2 := hO2.size
      rw [hb] at hs2
      have hB2 : Below b w w2 := by
        have := hO2.below (B := b) (by rw [hb]; omega) (fun _ _ h => h)
        exact this
      clear x0 z0 z1 z2 hk2 hO
      go_wp2_with fail
      refine (blen_any b b _ w2 hb2).mono ?_
      rintro e _ ⟨rfl, rfl⟩
      rw [Lib.strCells_length]
      by_cases h0 : k = 0
      · have e0 := HK0.out h0
        rw [e0]
        go_wp2_with fail
        refine (write_any b b _ (evText x) w2 hb2 (by rw [Lib.strCells_length, HTS.out]; omega) (by omega)).mono ?_
        rintro e w3 ⟨rfl, hb3, hk3⟩
        rw [← strCells_append, ← encAll_snoc, ← HNX.out] at hb3
        have hB3 := hB2.trans hk3
        clear hk3 hb2
        go_wp2_with fail
        go_roundw
        case rel => exact ⟨k + 1, by push_cast; go_num, .inr hb3, by omega, .inl (by omega), hB3⟩
        case measure => simp [intOf]; omega
      · have e1 := HK1.out (by omega)
        have d1 : decide (0 < ((encAll ((L.drop n).take k)).size : Int)) = true := decide_eq_true (by omega)
        by_cases hbig : sz < (encAll ((L.drop n).take k)).size + (evText x).size
        · have d2 : decide ((sz : Int) < ((encAll ((L.drop n).take k)).size : Int) + ((evText x).size : Int)) = true := decide_eq_true (by omega)
          go_wp2_with fail
          refine (blen_any b b _ w2 hb2).mono ?_
          rintro e _ ⟨rfl, rfl⟩
          rw [Lib.strCells_length]
          go_wp2_with fail
          refine (Try.Builder_String_any b b (encAll ((L.drop n).take k)).data.toList w2 (by rw [← Lib.strCells_eq]; exact hb2) (by omega)).mono ?_
          rintro e w9 ⟨rfl, hk9⟩
          have hO9 : Only (fun _ => False) w w9 := Only.of_below (by rw [hb]; exact hB2.trans hk9)
          clear hk9
          go_wp2_with fail
          go_ret2
          exact ⟨k, rfl, by omega, by omega, HTT.out.size, hO9⟩
        · have d2 : decide ((sz : Int) < ((encAll ((L.drop n).take k)).size : Int) + ((evText x).size : Int)) = false := decide_eq_false (by omega)
          go_wp2_with fail
          refine (blen_any b b _ w2 hb2).mono ?_
          rintro e _ ⟨rfl, rfl⟩
          rw [Lib.strCells_length]
          go_wp2_with fail
          refine (write_any b b _ (evText x) w2 hb2 (by rw [Lib.strCells_length, HTS.out]; omega) (by omega)).mono ?_
          rintro e w3 ⟨rfl, hb3, hk3⟩
          rw [← strCells_append, ← encAll_snoc, ← HNX.out] at hb3
          have hB3 := hB2.trans hk3
          clear hk3 hb2
          go_wp2_with fail
          go_roundw
          case rel => exact ⟨k + 1, by push_cast; go_num, .inr hb3, by omega, .inr (by have := HSN.out; omega), hB3⟩
          case measure => simp [intOf]; omega
    · have hkl : n + k = L.length := by omega
      have hsw := hT.only.size
      rw [hb] at hsw
      go_wp2_with fail
      refine (Try.Builder_String_any b b (encAll ((L.drop n).take k)).data.toList wr (by rw [← Lib.strCells_eq]; exact hT.bld) (by omega)).mono ?_
      rintro e w9 ⟨rfl, hk9⟩
      have hO9 : Only (fun _ => False) w w9 := Only.of_below (by rw [hb]; exact hT.only.trans hk9)
      clear hk9
      go_wp2_with fail
      go_ret2
      exact ⟨k, by rw [show ((n + k + 1 : Nat) : Int) = L.length + 1 from by omega]; rfl, by omega, by omega, hT.size, hO9⟩

end Go.Proofs.Yteifehienpeaiaa
