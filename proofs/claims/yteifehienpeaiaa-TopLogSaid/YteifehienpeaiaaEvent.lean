/-
  The contracts of package event: events, and a log in memory.
  Conditions: numbers are of the kind int; strings within the form's reach.
-/
import Derived.Test.YteifehienpeaiaaBackLaw
import Derived.Test.YteifehienpeaiaaSum
import Derived.Deep.RegionLaw
import Derived.Laws.OwnMore
set_option linter.unusedVariables false
set_option linter.unusedSimpArgs false
set_option maxRecDepth 100000
namespace Go.Proofs.Yteifehienpeaiaa
open Go.RowKit

/-- An event. -/
structure EV where
  kind : Int
  now : Int
  data : ByteArray

def EV.cells (x : EV) : List Value := [.int .i64 x.kind, .int .i64 x.now, .string x.data]
def EV.val (x : EV) : Value := .agg #[.int .i64 x.kind, .int .i64 x.now, .string x.data]

/-- May an event be? -/
def evB (x : EV) : Bool := (decide (0 ≤ x.now) && decide (x.now ≤ 1099511627776)) && ((x.kind == 1 && decide (x.data.size ≤ 1514)) || (x.kind == 2 && decide (x.data.size = 0)))
theorem evB_iff (x : EV) : evB x = true ↔ (0 ≤ x.now ∧ x.now ≤ 1099511627776) ∧ ((x.kind = 1 ∧ x.data.size ≤ 1514) ∨ (x.kind = 2 ∧ x.data.size = 0)) := by
  unfold evB
  simp only [Bool.and_eq_true, Bool.or_eq_true, decide_eq_true_eq, beq_iff_eq]

def evText (x : EV) : ByteArray := textOf 1 x.kind ++ textOf 6 x.now ++ textOf 2 x.data.size ++ x.data
theorem evText_size (x : EV) : (evText x).size = 9 + x.data.size := by
  unfold evText
  simp only [ByteArray.size_append, textOf_size]
theorem nums_ev (x : EV) : nums (evText x) = be 1 x.kind ++ (be 6 x.now ++ (be 2 x.data.size ++ nums x.data)) := by
  unfold evText
  simp only [nums_append, nums_textOf, List.append_assoc]

/-- The bytes of events, one behind the other. -/
def encAll : List EV → ByteArray
  | [] => ⟨#[]⟩
  | x :: l => evText x ++ encAll l
theorem encAll_append (a b : List EV) : encAll (a ++ b) = encAll a ++ encAll b := by
  induction a with
  | nil =>
    show encAll b = ByteArray.empty ++ encAll b
    rw [ByteArray.empty_append]
  | cons x a ih =>
    show evText x ++ encAll (a ++ b) = (evText x ++ encAll a) ++ encAll b
    rw [ih, ByteArray.append_assoc]
theorem encAll_one (x : EV) : encAll [x] = evText x := by
  show evText x ++ ByteArray.empty = _
  rw [ByteArray.append_empty]
theorem encAll_size_cons (x : EV) (l : List EV) : (encAll (x :: l)).size = 9 + x.data.size + (encAll l).size := by
  show (evText x ++ encAll l).size = _
  rw [ByteArray.size_append, evText_size]
theorem encAll_nil : encAll [] = ⟨#[]⟩ := rfl

/-- The first event of bytes. -/
structure FirstIs (s : ByteArray) (x : EV) (rest : ByteArray) : Prop where
  size : s.size = 9 + x.data.size + rest.size
  kind : numAt s 0 1 = x.kind
  now : numAt s 1 6 = x.now
  long : numAt s 7 2 = x.data.size
  data : s.extract 9 (9 + x.data.size) = x.data
  rest : s.extract (9 + x.data.size) s.size = rest

theorem first_is (x : EV) (r : ByteArray) (h : evB x = true) : FirstIs (evText x ++ r) x r := by
  obtain ⟨⟨n0, n1⟩, hk⟩ := (evB_iff x).1 h
  have hs : (evText x ++ r).size = 9 + x.data.size + r.size := by rw [ByteArray.size_append, evText_size]
  have hN : nums (evText x ++ r) = be 1 x.kind ++ (be 6 x.now ++ (be 2 x.data.size ++ (nums x.data ++ nums r))) := by
    rw [nums_append, nums_ev]
    simp only [List.append_assoc]
  have k0 : 0 ≤ x.kind ∧ x.kind < 256 := by omega
  have d0 : x.data.size < 65536 := by omega
  generalize evText x ++ r = s at *
  refine ⟨hs, ?_, ?_, ?_, ?_, ?_⟩
  · exact numAt_in (A := []) hN (by omega) (by omega) rfl
  · exact numAt_in (A := be 1 x.kind) hN (by omega) (by omega) (be_length _ _)
  · exact numAt_in (A := be 1 x.kind ++ be 6 x.now) (by rw [hN]; simp only [List.append_assoc]; rfl) (by omega) (by omega) (by simp [be_length])
  · apply nums_inj
    rw [nums_extract, show nums s = (be 1 x.kind ++ be 6 x.now ++ be 2 x.data.size) ++ (nums x.data ++ nums r) from by rw [hN]; simp only [List.append_assoc], List.drop_left' (by simp [be_length])]
    exact List.take_left' (by rw [nums_length]; omega)
  · apply nums_inj
    rw [nums_extract, show nums s = (be 1 x.kind ++ be 6 x.now ++ be 2 x.data.size ++ nums x.data) ++ nums r from by rw [hN]; simp only [List.append_assoc], List.drop_left' (by simp [be_length, nums_length]; omega), hs]
    exact List.take_of_length_le (by rw [nums_length]; omega)

/-! ### A log -/

/-- What a log holds: events that may be, their ticks rising. -/
structure LogOk (L : List EV) : Prop where
  ok : ∀ x ∈ L, evB x = true
  up : L.Pairwise (fun x y => x.now ≤ y.now)
/-- The tick of the last event. -/
def logNow (L : List EV) : Int := match L.getLast? with
  | none => 0
  | some x => x.now
theorem logNow_snoc (L : List EV) (x : EV) : logNow (L ++ [x]) = x.now := by simp [logNow]
theorem logNow_nil : logNow [] = 0 := rfl
theorem LogOk.nil : LogOk [] := ⟨fun _ h => (by cases h), List.Pairwise.nil⟩
theorem LogOk.le_now {L : List EV} (h : LogOk L) : ∀ x ∈ L, x.now ≤ logNow L := by
  revert h
  refine snoc_ind (P := fun L => LogOk L → ∀ x ∈ L, x.now ≤ logNow L) (fun _ _ h => by cases h) (fun l a ih h x hx => ?_) L
  rw [logNow_snoc]
  rcases List.mem_append.1 hx with hx | hx
  · exact (List.pairwise_append.1 h.up).2.2 x hx a (List.mem_singleton.2 rfl)
  · rw [List.mem_singleton.1 hx]; exact Int.le_refl _
/-- Does a log take an event? -/
def takesB (L : List EV) (x : EV) : Bool := evB x && decide (logNow L ≤ x.now) && decide (L.length < 4096)
theorem LogOk.add {L : List EV} (h : LogOk L) {x : EV} (hx : takesB L x = true) : LogOk (L ++ [x]) := by
  unfold takesB at hx
  simp only [Bool.and_eq_true, decide_eq_true_eq] at hx
  obtain ⟨⟨h1, h2⟩, h3⟩ := hx
  refine ⟨fun y hy => ?_, List.pairwise_append.2 ⟨h.up, List.pairwise_singleton _ _, fun y hy z hz => ?_⟩⟩
  · rcases List.mem_append.1 hy with hy | hy
    · exact h.ok y hy
    · rw [List.mem_singleton.1 hy]; exact h1
  · rw [List.mem_singleton.1 hz]
    have := h.le_now y hy
    omega
theorem LogOk.takes {L : List EV} (h : LogOk L) {n : Nat} {x : EV} (hx : L[n]? = some x) (hn : n < 4096) : takesB (L.take n) x = true := by
  obtain ⟨hlt, rfl⟩ := List.getElem?_eq_some_iff.1 hx
  unfold takesB
  simp only [Bool.and_eq_true, decide_eq_true_eq]
  refine ⟨⟨h.ok _ (List.getElem_mem hlt), ?_⟩, by rw [List.length_take]; omega⟩
  have hox := (evB_iff _).1 (h.ok _ (List.getElem_mem hlt))
  have hs : L = L.take n ++ L[n] :: L.drop (n + 1) := by rw [← List.drop_eq_getElem_cons hlt, List.take_append_drop]
  have hup := h.up
  rw [hs] at hup
  have h2 := (List.pairwise_append.1 hup).2.2
  cases n with
  | zero => simp [logNow]; exact hox.1.1
  | succ n =>
    have hl : (L.take (n + 1)).getLast? = some L[n] := by
      rw [List.take_succ_eq_append_getElem (by omega), List.getLast?_concat]
    unfold logNow
    rw [hl]
    refine h2 _ ?_ _ List.mem_cons_self
    exact List.mem_of_getLast? hl


def evC (x : EV) : Int := if evB x then 0 else 230

theorem evcheck_any (x : EV) (w : World) (hs : x.data.size ≤ 140737488355328) : Calls Try.prog 60 #[.agg #[.int .i64 x.kind, .int .i64 x.now, .string x.data]] w fun e w' => e = .returned (.int .i64 (evC x)) ∧ Only (fun _ => False) w w' := by
  obtain ⟨k, n, d⟩ := x
  have hC : evC ⟨k, n, d⟩ = if evB ⟨k, n, d⟩ then 0 else 230 := rfl
  simp only at hs ⊢
  have hO := (Only.refl (fun _ => False) w).alloc (.cells #[.int .i64 k, .int .i64 n, .string d] 83)
  by_cases h : evB ⟨k, n, d⟩ = true
  · rw [hC, if_pos h]
    clear hC
    obtain ⟨⟨h0, h1⟩, h2⟩ := (evB_iff _).1 h
    clear h
    simp only at h0 h1 h2
    rcases h2 with ⟨rfl, h2⟩ | ⟨rfl, h2⟩
    · go_enter Try.func60, Try.ntmps60
      go_wp2_with fail
      go_ret
      exact ⟨rfl, hO⟩
    · have hd : d = ⟨#[]⟩ := by
        apply ByteArray.ext
        apply Array.eq_empty_of_size_eq_zero
        exact h2
      subst hd
      go_enter Try.func60, Try.ntmps60
      go_wp2_with fail
      go_ret
      exact ⟨rfl, hO⟩
  · rw [hC, if_neg h]
    clear hC
    rw [evB_iff] at h
    simp only at h
    by_cases h0 : n < 0
    · clear h
      go_enter Try.func60, Try.ntmps60
      go_wp2_with fail
      go_ret
      exact ⟨rfl, hO⟩
    by_cases h1 : 1099511627776 < n
    · clear h
      go_enter Try.func60, Try.ntmps60
      go_wp2_with fail
      go_ret
      exact ⟨rfl, hO⟩
    by_cases hk1 : k = 1
    · subst hk1
      have h2 : 1514 < d.size := by
        apply Classical.byContradiction
        intro hn
        exact h ⟨⟨by omega, by omega⟩, .inl ⟨rfl, by omega⟩⟩
      clear h
      go_enter Try.func60, Try.ntmps60
      go_wp2_with fail
      go_ret
      exact ⟨rfl, hO⟩
    by_cases hk2 : k = 2
    · subst hk2
      have h2 : ¬ d.size = 0 := fun e => h ⟨⟨by omega, by omega⟩, .inr ⟨rfl, e⟩⟩
      have h3 := not_empty_of_size h2
      clear h
      go_enter Try.func60, Try.ntmps60
      go_wp2_with fail
      go_ret
      exact ⟨rfl, hO⟩
    · clear h
      go_enter Try.func60, Try.ntmps60
      go_wp2_with fail
      go_ret
      exact ⟨rfl, hO⟩

theorem text_ev (x : EV) (w : World) (h : evB x = true) : Calls Try.prog 62 #[.agg #[.int .i64 x.kind, .int .i64 x.now, .string x.data]] w fun e w' => e = .returned (.string (evText x)) ∧ Only (fun _ => False) w w' := by
  obtain ⟨k, n, d⟩ := x
  obtain ⟨⟨h0, h1⟩, h2⟩ := (evB_iff _).1 h
  simp only at h0 h1 h2 ⊢
  clear h
  have k0 : 0 ≤ k := by omega
  have k1 : k < 256 := by omega
  have d1 : d.size ≤ 1514 := by omega
  clear h2
  have hT := Lib.hid (show evText ⟨k, n, d⟩ = textOf 1 k ++ textOf 6 n ++ textOf 2 d.size ++ d from rfl)
  have hO := (Only.refl (fun _ => False) w).alloc (.cells #[.int .i64 k, .int .i64 n, .string d] 83)
  have hz := blk_new w (.cells #[.int .i64 k, .int .i64 n, .string d] 83)
  go_enter Try.func62, Try.ntmps62
  go_wp2_with fail
  generalize w.alloc (.cells #[.int .i64 k, .int .i64 n, .string d] 83) = wa at hO hz ⊢
  generalize w.heap.size = p at hz ⊢
  refine (put1 k _ (by omega) (by omega)).mono ?_
  rintro e w1 ⟨rfl, hk⟩
  replace hO := hO.trans hk
  replace hz := hk.at hz (fun h => h)
  clear hk
  have z1 := blk_cell hz 1
  simp only [List.getElem?_toArray, List.getElem?_cons_zero, List.getElem?_cons_succ] at z1
  go_wp2_with fail
  refine (put6 n _ (by omega) (by omega)).mono ?_
  rintro e w2 ⟨rfl, hk⟩
  replace hO := hO.trans hk
  replace hz := hk.at hz (fun h => h)
  clear hk z1
  have z2 := blk_cell hz 2
  simp only [List.getElem?_toArray, List.getElem?_cons_zero, List.getElem?_cons_succ] at z2
  go_wp2_with fail
  refine (put2 (d.size : Int) _ (by omega) (by omega)).mono ?_
  rintro e w3 ⟨rfl, hk⟩
  replace hO := hO.trans hk
  replace hz := hk.at hz (fun h => h)
  clear hk z2
  have z2 := blk_cell hz 2
  simp only [List.getElem?_toArray, List.getElem?_cons_zero, List.getElem?_cons_succ] at z2
  have y0 : (textOf 1 k).size ≤ 1 := by rw [textOf_size]; omega
  have y1 : (textOf 6 n).size ≤ 6 := by rw [textOf_size]; omega
  have y5 : (textOf 2 d.size).size ≤ 2 := by rw [textOf_size]; omega
  have s1 : ¬ 9223372036854775807 < (textOf 1 k).size + (textOf 6 n).size := by omega
  have s2 : ¬ 9223372036854775807 < (textOf 1 k).size + (textOf 6 n).size + (textOf 2 d.size).size := by omega
  have s3 : ¬ 9223372036854775807 < (textOf 1 k).size + (textOf 6 n).size + (textOf 2 d.size).size + d.size := by omega
  clear y0 y1 y5
  go_wp2_with fail
  go_ret
  exact ⟨by rw [hT.out]; rfl, hO⟩


/-- The cells of events. -/
def cellsOf (L : List EV) : List Value := L.flatMap EV.cells
theorem cellsOf_append (a b : List EV) : cellsOf (a ++ b) = cellsOf a ++ cellsOf b := by simp [cellsOf]
theorem ev_len (x : EV) : x.cells.length = 3 := rfl
theorem cellsOf_length (L : List EV) : (cellsOf L).length = L.length * 3 := by
  induction L with
  | nil => rfl
  | cons x L ih =>
    show (x.cells ++ cellsOf L).length = _
    rw [List.length_append, ih, ev_len, List.length_cons]
    omega
theorem cellsOf_at : ∀ (l : List EV) (j : Nat) (x : EV), l[j]? = some x → ∀ t, t < 3 → (cellsOf l)[j * 3 + t]? = x.cells[t]?
  | [], j, x, h, t, ht => by simp at h
  | p :: l, 0, x, h, t, ht => by
    simp only [List.getElem?_cons_zero, Option.some.injEq] at h
    subst h
    show (p.cells ++ cellsOf l)[0 * 3 + t]? = _
    rw [List.getElem?_append_left (by rw [ev_len]; omega), Nat.zero_mul, Nat.zero_add]
  | p :: l, j + 1, x, h, t, ht => by
    have ih := cellsOf_at l j x (by simpa using h) t ht
    show (p.cells ++ cellsOf l)[(j + 1) * 3 + t]? = _
    rw [List.getElem?_append_right (by rw [ev_len]; omega), ev_len, show (j + 1) * 3 + t - 3 = j * 3 + t by omega]
    exact ih

/-- A slice of events that reads as this list. -/
def ESrc (w : World) (v : Value) (L : List EV) : Prop := ∃ a cap, v = .slice a L.length cap ∧ L.length ≤ cap ∧ ∀ j x, L[j]? = some x → ∃ b o, a = some ⟨b, o, none⟩ ∧ w.cell? ⟨b, o + j * 3, none⟩ = some (.int .i64 x.kind) ∧ w.cell? ⟨b, o + j * 3 + 1, none⟩ = some (.int .i64 x.now) ∧ w.cell? ⟨b, o + j * 3 + 2, none⟩ = some (.string x.data)
theorem ESrc.keep {w w' : World} {v : Value} {L : List EV} (h : ESrc w v L) (hk : Only (fun _ => False) w w') : ESrc w' v L := by
  obtain ⟨a, cap, e1, e2, h⟩ := h
  refine ⟨a, cap, e1, e2, fun j x hx => ?_⟩
  obtain ⟨b, o, e3, h1, h2, h3⟩ := h j x hx
  exact ⟨b, o, e3, cell_only hk (fun h => h) h1, cell_only hk (fun h => h) h2, cell_only hk (fun h => h) h3⟩

/-- A row of events, as it lies. -/
theorem erow_form {w : World} {B : Nat} {v : Value} {L : List EV} (h : w.ownsRow B 83 3 v L.length (cellsOf L)) : ∃ a cap, v = .slice a L.length cap ∧ L.length ≤ cap ∧ ∀ j x, L[j]? = some x → ∃ gb, a = some ⟨gb, 0, none⟩ ∧ B ≤ gb ∧ gb < w.heap.size ∧ w.cell? ⟨gb, j * 3, none⟩ = some (.int .i64 x.kind) ∧ w.cell? ⟨gb, j * 3 + 1, none⟩ = some (.int .i64 x.now) ∧ w.cell? ⟨gb, j * 3 + 2, none⟩ = some (.string x.data) := by
  obtain ⟨hl, ⟨rfl, h0⟩ | ⟨gb, cap, cur, rfl, hb, hg, hc1, hm1, hs1, ht1⟩⟩ := h
  · exact ⟨none, 0, by rw [h0], by omega, fun j x hx => by
      have := (List.getElem?_eq_some_iff.1 hx).1
      omega⟩
  · refine ⟨_, cap, rfl, hc1, fun j x hx => ?_⟩
    have hjl : j < L.length := (List.getElem?_eq_some_iff.1 hx).1
    have hc : ∀ t u, x.cells[t]? = some u → w.cell? ⟨gb, j * 3 + t, none⟩ = some u := fun t u hu => by
      have ht : t < 3 := by have := (List.getElem?_eq_some_iff.1 hu).1; rw [ev_len] at this; exact this
      have h1 := cellsOf_at L j x hx t ht
      rw [hu, ← ht1, List.getElem?_take, if_pos (by omega), Array.getElem?_toList] at h1
      rw [blk_cell hg]; exact h1
    exact ⟨gb, rfl, hb, heap_lt hg, hc 0 _ rfl, hc 1 _ rfl, hc 2 _ rfl⟩
theorem erow_src {w : World} {B : Nat} {v : Value} {L : List EV} (h : w.ownsRow B 83 3 v L.length (cellsOf L)) : ESrc w v L := by
  obtain ⟨a, cap, e1, e2, h⟩ := erow_form h
  refine ⟨a, cap, e1, e2, fun j x hx => ?_⟩
  obtain ⟨gb, e3, _, _, h1, h2, h3⟩ := h j x hx
  exact ⟨gb, 0, e3, by rw [Nat.zero_add]; exact h1, by rw [Nat.zero_add]; exact h2, by rw [Nat.zero_add]; exact h3⟩

/-- A log lies at g. -/
structure LogAt (w : World) (B g : Nat) (rv : Value) (L : List EV) : Prop where
  cell : w.heap[g]? = some (.cells #[rv] 116 (0, 0))
  row : w.ownsRow B 83 3 rv L.length (cellsOf L)
theorem LogAt.keep {w w' : World} {B g : Nat} {rv : Value} {L : List EV} {S : Nat → Prop} (h : LogAt w B g rv L) (hk : Only S w w') (hg : ¬ S g) (hS : ∀ k, rv.ownBlock = some k → ¬ S k) : LogAt w' B g rv L := by
  refine ⟨hk.at h.cell hg, h.row.1, ?_⟩
  rcases h.row.2 with h1 | ⟨g', cap, cur, rfl, hb, hg', rest⟩
  · exact .inl h1
  · exact .inr ⟨g', cap, cur, rfl, hb, hk.at hg' (hS g' rfl), rest⟩
theorem LogAt.mono {w w' : World} {B g : Nat} {rv : Value} {L : List EV} (h : LogAt w B g rv L) (hk : Only (fun _ => False) w w') : LogAt w' B g rv L := h.keep hk (fun h => h) (fun _ _ h => h)

theorem new_log (w : World) : Calls Try.prog 33 #[] w fun e w' => e = .returned (.pointer (some ⟨w.heap.size, 0, none⟩)) ∧ w' = w.alloc (.cells #[.slice none 0 0] 116) := by
  go_enter Try.func33, Try.ntmps33
  go_wp2_with fail
  go_ret
  exact ⟨rfl, rfl⟩

theorem len_any (w : World) (B g : Nat) (rv : Value) (L : List EV) (h : LogAt w B g rv L) : Calls Try.prog 36 #[.pointer (some ⟨g, 0, none⟩)] w fun e w' => e = .returned (.int .i64 L.length) ∧ w' = w := by
  obtain ⟨a, cap, rfl, hcap, _⟩ := erow_form h.row
  have x0 := blk_cell h.cell 0
  simp only [List.getElem?_toArray, List.getElem?_cons_zero] at x0
  clear h
  go_enter Try.func36, Try.ntmps36
  go_wp2_with fail
  go_ret
  exact ⟨rfl, rfl⟩

theorem lognow_any (w : World) (B g : Nat) (rv : Value) (L : List EV) (h : LogAt w B g rv L) : Calls Try.prog 61 #[.pointer (some ⟨g, 0, none⟩)] w fun e w' => e = .returned (.int .i64 (logNow L)) ∧ ∃ n, w' = w.drewN n := by
  obtain ⟨a, cap, rfl, hcap, hrow⟩ := erow_form h.row
  have x0 := blk_cell h.cell 0
  simp only [List.getElem?_toArray, List.getElem?_cons_zero] at x0
  have hm : L.length ≤ maxLen := by
    obtain ⟨_, h1 | ⟨_, _, _, _, _, _, h2, h3, _⟩⟩ := h.row
    · simp only [maxLen]; omega
    · omega
  simp only [maxLen] at hm
  clear h
  by_cases hl : L.length = 0
  · have e : L = [] := List.eq_nil_of_length_eq_zero hl
    subst e
    clear hrow
    go_enter Try.func61, Try.ntmps61
    go_wp2_with fail
    go_ret
    exact ⟨rfl, 0, rfl⟩
  · obtain ⟨x, hx⟩ : ∃ x, L[L.length - 1]? = some x := ⟨_, List.getElem?_eq_getElem (by omega)⟩
    obtain ⟨gb, rfl, _, _, z0, z1, z2⟩ := hrow _ _ hx
    have hN : Hid (logNow L = x.now) := Lib.hid (by
      unfold logNow
      rw [List.getLast?_eq_getElem?, hx])
    clear hrow z0 z2 hx
    obtain ⟨m, hm'⟩ : ∃ m, L.length = m + 1 := ⟨L.length - 1, by omega⟩
    rw [hm', Nat.add_sub_cancel] at z1
    rw [hm'] at x0 hcap hm hl
    clear hm'
    go_enter Try.func61, Try.ntmps61
    go_wp2_with fail
    go_quiet (fail)
    go_wp2_with fail
    go_ret
    exact ⟨by rw [hN.out]; rfl, _, rfl⟩

theorem infoE : (Try.prog.info? 83).map (fun i => (i.zero, i.size, i.bytes)) = some (some (.agg #[.int .i64 0, .int .i64 0, .string ⟨#[]⟩]), 3, 32) := by kernel_rfl
theorem append_ev (w : World) (ty : TypeId) (B : Nat) (dv : Value) (n : Nat) (xs : List Value) (hD : w.ownsRow B 83 3 dv n xs) (a : Addr) (m c : Nat) (news : List Value) (hl : news.length = m * 3) (hnews : ∀ j u, news[j]? = some u → w.cell? (a.add j) = some u) (h1 : ∀ u ∈ news, u.oneCell' = true) (hB : B ≤ w.heap.size) (hle : n + m ≤ 1000000) :
    ∃ v' w', (Builtin.append_ #[78, 78] ty #[dv, .slice (some a) m c]).run Try.prog w = .ok v' w' ∧ w'.ownsRow B 83 3 v' (n + m) (xs ++ news) ∧ w.grownBy w' dv.ownBlock ∧ (∀ b, v'.ownBlock = some b → dv.ownBlock = some b ∨ w.heap.size ≤ b) := by
  obtain ⟨i9, hi, hz0, hz1, hz2⟩ := info_parts infoE
  have hm : n + m ≤ maxLen := by simp only [maxLen]; omega
  have hby : (n + m) * 32 ≤ 140737488355328 := by omega
  obtain ⟨v', w', hr, h2, h3, _, h5⟩ := run_append_own_at (P := Try.prog) w B 78 ty 83 i9 _ 3 32 Try.underlying78 hi hz0 hz1 hz2 rfl (by decide) dv n xs hD a m c news hl hnews h1 hm hby hB
  refine ⟨v', w', hr, h2, h3, fun b hb => ?_⟩
  rcases h5 with e | e
  · exact .inl (by rw [← e]; exact hb)
  · rw [e] at hb; cases hb; exact .inr (Nat.le_refl _)

/-- append, as one step of a region that draws, by what it runs to. -/
theorem step_append_by {P : Program} {ops : Array Oper} {o : Oper} {a : Act} {w w' : World} {K : Act → World → Prop} {Q : Exit → Act → World → Prop} {E : Prop} {v vs vx : Value}
    (hg : o.guard = none) (s x : Operand) (t u : TypeId) (hop : o.op = Op.call { callee := Callee.builtin Builtin.append, args := #[s, x], argTypes := #[t, u] })
    (hs : a.eval s = vs) (hx : a.eval x = vx) (hrun : (Builtin.append_ #[t, u] o.type #[vs, vx]).run P w = .ok v w')
    (hK : K (a.put o.dst v) w') :
    if Region.wanted o (yielded ops a.tmps) = true then Oper.wp P o a w K Q else E := by
  have hw : Region.wanted o (yielded ops a.tmps) = true := by simp [Region.wanted, hg]
  rw [if_pos hw]
  unfold Oper.wp
  simp [execOp, hop, resolve, invoke, builtin, hs, hx, hrun, Result.andThen]
  exact hK

set_option maxHeartbeats 1000000 in
/-- An event that is refused. -/
theorem add_no (w : World) (B g : Nat) (rv : Value) (L : List EV) (x : EV) (h : LogAt w B g rv L) (hL : L.length ≤ 1000) (hs : x.data.size ≤ 140737488355328) (ht : takesB L x = false) :
    Calls Try.prog 35 #[.pointer (some ⟨g, 0, none⟩), .agg #[.int .i64 x.kind, .int .i64 x.now, .string x.data]] w fun e w' => ∃ c : Int, e = .returned (.tuple #[.int .i64 0, .int .i64 c]) ∧ Only (fun _ => False) w w' := by
  have hO := (Only.refl (fun _ => False) w).alloc (.cells #[.int .i64 x.kind, .int .i64 x.now, .string x.data] 83)
  have hz := blk_new w (.cells #[.int .i64 x.kind, .int .i64 x.now, .string x.data] 83)
  have hC := Lib.hid (show evC x = if evB x then 0 else 230 from rfl)
  have hN : Hid (evB x = true → x.now < logNow L) := Lib.hid (fun hb => by
    unfold takesB at ht
    rw [hb] at ht
    simp at ht
    apply Classical.byContradiction
    intro hn
    have := ht (by omega)
    omega)
  clear ht
  go_enter Try.func35, Try.ntmps35
  go_wp2_with fail
  generalize w.alloc (.cells #[.int .i64 x.kind, .int .i64 x.now, .string x.data] 83) = w1 at *
  generalize w.heap.size = p at *
  refine (evcheck_any x _ hs).mono ?_
  rintro e w2 ⟨rfl, hk⟩
  have hO2 := hO.trans hk
  have hz2 := hk.at hz (fun h => h)
  have h2 := h.mono hO2
  clear hk hO hz h
  by_cases hev : evB x = true
  · rw [hC.out, if_pos hev]
    have z1 := blk_cell hz2 1
    simp only [List.getElem?_toArray, List.getElem?_cons_zero, List.getElem?_cons_succ] at z1
    have hn := hN.out hev
    have hd : decide (x.now < logNow L) = true := decide_eq_true hn
    clear hev hn hC hN
    go_wp2_with fail
    go_quiet ((go_at_call 61; refine Calls.quiet_of ((lognow_any _ B g rv L (h2.mono ((Only.refl _ w2).drewN _))).mono fun _ _ x => x)))
    go_wp2_with fail
    go_ret2
    exact ⟨1, rfl, hO2.drewN _⟩
  · rw [hC.out, if_neg hev]
    clear hev hC hN
    go_wp2_with fail
    go_ret2
    exact ⟨230, rfl, hO2⟩

set_option maxHeartbeats 1000000 in
theorem add_ok (w : World) (B g : Nat) (rv : Value) (L : List EV) (x : EV) (h : LogAt w B g rv L) (hB : B ≤ w.heap.size) (hL : L.length ≤ 1000) (hs : x.data.size ≤ 140737488355328) (ht : takesB L x = true) :
    Calls Try.prog 35 #[.pointer (some ⟨g, 0, none⟩), .agg #[.int .i64 x.kind, .int .i64 x.now, .string x.data]] w fun e w' => e = .returned (.tuple #[.int .i64 (L.length + 1), .int .i64 0]) ∧ ∃ rv', LogAt w' B g rv' (L ++ [x]) ∧ (∀ b, rv'.ownBlock = some b → rv.ownBlock = some b ∨ w.heap.size ≤ b) ∧ Only (fun k => k = g ∨ rv.ownBlock = some k) w w' := by
  have hO := (Only.refl (fun _ => False) w).alloc (.cells #[.int .i64 x.kind, .int .i64 x.now, .string x.data] 83)
  have hz := blk_new w (.cells #[.int .i64 x.kind, .int .i64 x.now, .string x.data] 83)
  have hgl := heap_lt h.cell
  have hC : evC x = 0 := by
    unfold takesB at ht
    simp only [Bool.and_eq_true] at ht
    exact if_pos ht.1.1
  have hN : decide (x.now < logNow L) = false := by
    unfold takesB at ht
    simp only [Bool.and_eq_true, decide_eq_true_eq] at ht
    exact decide_eq_false (by omega)
  clear ht
  go_enter Try.func35, Try.ntmps35
  go_wp2_with fail
  have hsz : Hid ((w.alloc (.cells #[.int .i64 x.kind, .int .i64 x.now, .string x.data] 83)).heap.size = w.heap.size + 1) := Lib.hid (by rw [World.size_alloc])
  generalize w.alloc (.cells #[.int .i64 x.kind, .int .i64 x.now, .string x.data] 83) = w1 at *
  generalize hp : w.heap.size = p at *
  refine (evcheck_any x _ hs).mono ?_
  rintro e w2 ⟨rfl, hk⟩
  have hO2 := hO.trans hk
  have hz2 := hk.at hz (fun h => h)
  have hs2 := hk.size
  rw [hsz.out] at hs2
  have h2 := h.mono hO2
  rw [hC]
  clear hk hO hz h hsz hC
  have z1 := blk_cell hz2 1
  simp only [List.getElem?_toArray, List.getElem?_cons_zero, List.getElem?_cons_succ] at z1
  go_wp2_with fail
  go_quiet ((go_at_call 61; refine Calls.quiet_of ((lognow_any _ B g rv L (h2.mono ((Only.refl _ w2).drewN _))).mono fun _ _ x => x)))
  have hO3 := hO2.drewN nq
  have h3 := h2.mono ((Only.refl _ w2).drewN nq)
  have hz3 := (((Only.refl (fun _ => False) w2).drewN nq).at hz2 (fun h => h))
  have hs3 : p + 1 ≤ (w2.drewN nq).heap.size := hs2
  clear hO2 h2 hz2 hs2 z1 hN
  generalize w2.drewN nq = w3 at *
  have z0 := blk_cell hz3 0
  have z1 := blk_cell hz3 1
  have z2 := blk_cell hz3 2
  have x0 := blk_cell h3.cell 0
  have xf := blk_free h3.cell 0
  simp only [List.getElem?_toArray, List.getElem?_cons_zero, List.getElem?_cons_succ] at z0 z1 z2 x0
  obtain ⟨a, cap, hrv, hcap, _⟩ := erow_form h3.row
  rw [hrv] at x0
  have hkA := ((Only.refl (fun _ => False) w3).alloc (.cells #[.int .i64 x.kind, .int .i64 x.now, .string x.data] 83)).drew
  have hrowA := (h3.mono hkA).row
  obtain ⟨v', w', hrun, hrow', hgr, hown'⟩ := append_ev (w3.alloc (.cells #[.int .i64 x.kind, .int .i64 x.now, .string x.data] 83)).drew 78 B rv L.length (cellsOf L) hrowA ⟨w3.heap.size, 0, none⟩ 1 1 x.cells rfl (by
    intro j u hj
    rw [Addr.add_lit, Nat.zero_add]
    have := blk_cell (blk_new w3 (.cells #[.int .i64 x.kind, .int .i64 x.now, .string x.data] 83)) j
    exact this.trans (by simpa [EV.cells] using hj)) (by
    intro u hu
    simp only [EV.cells, List.mem_cons, List.not_mem_nil, or_false] at hu
    rcases hu with rfl | rfl | rfl <;> rfl) (by show B ≤ (w3.alloc _).heap.size; rw [World.size_alloc]; omega) (by omega)
  rw [hrv] at hrun hgr
  have hkG := Only.of_grown hgr
  have hgne : ¬ some g = (Value.slice a L.length cap).ownBlock := by
    rw [← hrv]
    intro e
    obtain ⟨cur, hcur⟩ : ∃ cur, w3.heap[g]? = some (.cells cur 83 (0, 0)) := by
      rcases h3.row.2 with ⟨h1, _⟩ | ⟨gb, cap', cur, h1, _, hg', _⟩
      · rw [h1] at e; cases e
      · rw [h1] at e; cases e; exact ⟨cur, hg'⟩
    have hc := h3.cell
    rw [hcur] at hc
    injection hc with hc
    injection hc with _ hc
    revert hc
    decide
  have hcell' := hkG.at (hkA.at h3.cell (fun h => h)) hgne
  rw [hrv] at hcell'
  have y0 := blk_cell hcell' 0
  have yf := blk_free hcell' 0
  simp only [List.getElem?_toArray, List.getElem?_cons_zero, List.getElem?_cons_succ] at y0
  obtain ⟨gb', cap', rfl⟩ : ∃ gb' cap', v' = .slice (some ⟨gb', 0, none⟩) (L.length + 1) cap' := by
    rcases hrow'.2 with ⟨_, h1⟩ | ⟨gb', cap', cur, h1, _⟩
    · omega
    · exact ⟨gb', cap', h1⟩
  have hA0 : (w3.alloc (.cells #[.int .i64 x.kind, .int .i64 x.now, .string x.data] 83)).cell? ⟨g, 0, none⟩ = some (.slice a L.length cap) := cell_only ((Only.refl (fun _ => False) w3).alloc _) (fun h => h) x0
  have HR := Lib.hid hrun
  have HROW := Lib.hid hrow'
  have HOWN := Lib.hid hown'
  have HGR := Lib.hid hkG
  have HKA := Lib.hid hkA
  clear hrun hrow' hown' hkG hgr hkA hrowA
  go_wp2_with fail
  go_region_law (refine step_append_by rfl (.tmp 30) (.tmp 32) 78 78 rfl (by simp [Act.eval, Act.put]) (by simp [Act.eval, Act.put]) HR.out ?_)
  all_goals
    have hO5 := ((HGR.out).mono (S' := fun k => k = g ∨ rv.ownBlock = some k) (fun k _ e => .inr (by rw [hrv]; exact e.symm))).setCell ⟨g, 0, none⟩ (.slice (some ⟨gb', 0, none⟩) (L.length + 1) cap') (fun _ => .inl rfl)
    have hO6 : Only (fun k => k = g ∨ rv.ownBlock = some k) w3 (w'.setCell ⟨g, 0, none⟩ (.slice (some ⟨gb', 0, none⟩) (L.length + 1) cap')) := (HKA.out.mono (fun _ _ h => h.elim)).trans hO5
    have hO7 : Only (fun k => k = g ∨ rv.ownBlock = some k) w (w'.setCell ⟨g, 0, none⟩ (.slice (some ⟨gb', 0, none⟩) (L.length + 1) cap')) := (hO3.mono (fun _ _ h => h.elim)).trans hO6
    have hrow5 : (w'.setCell ⟨g, 0, none⟩ (.slice (some ⟨gb', 0, none⟩) (L.length + 1) cap')).ownsRow B 83 3 (.slice (some ⟨gb', 0, none⟩) (L.length + 1) cap') (L ++ [x]).length (cellsOf (L ++ [x])) := by
      rw [List.length_append, cellsOf_append]
      have hr := HROW.out
      refine ⟨?_, ?_⟩
      · have := hr.1
        show ((cellsOf L ++ cellsOf [x]).length) = _
        rw [List.length_append, cellsOf_length, cellsOf_length]
        simp only [List.length_cons, List.length_nil]
        omega
      rcases hr.2 with ⟨h1, _⟩ | ⟨gb, cp, cur, h1, hb, hg', hrest⟩
      · cases h1
      · refine .inr ⟨gb, cp, cur, h1, hb, ?_, ?_⟩
        · rw [Below.heap_setCell _ _ _ _ (fun e => ?_)]
          · exact hg'
          · have hc := hcell'
            replace e : gb = g := e
            rw [← e, hg'] at hc
            injection hc with hc
            injection hc with _ hc
            revert hc
            decide
        · simpa [cellsOf, EV.cells] using hrest
    have hcell5 := blk_set hcell' 0 (.slice (some ⟨gb', 0, none⟩) (L.length + 1) cap')
    have HOWN2 : Hid (∀ b, (Value.slice (some ⟨gb', 0, none⟩) (L.length + 1) cap').ownBlock = some b → rv.ownBlock = some b ∨ p ≤ b) := Lib.hid (fun b hb => by
      rcases HOWN.out b hb with h1 | h1
      · exact .inl h1
      · right
        replace h1 : (w3.alloc _).heap.size ≤ b := h1
        rw [World.size_alloc] at h1
        omega)
    clear hO5 hO6 hO3 HROW HOWN HGR HKA HR hcell' y0 yf hA0 x0 xf z0 z1 z2 h3 hz3 hgne
    generalize w'.setCell ⟨g, 0, none⟩ (.slice (some ⟨gb', 0, none⟩) (L.length + 1) cap') = w5 at *
    have y0 := blk_cell hcell5 0
    simp only [List.setIfInBounds_toArray, List.set_cons_zero, List.getElem?_toArray, List.getElem?_cons_zero] at y0
    go_wp2_with fail
    go_ret2
    exact ⟨rfl, _, ⟨hcell5, hrow5⟩, fun b hb => hp ▸ HOWN2.out b hb, hO7⟩

theorem get_any (w : World) (B g : Nat) (rv : Value) (L : List EV) (n : Nat) (x : EV) (h : LogAt w B g rv L) (hx : L[n]? = some x) (hL : L.length ≤ 1000) :
    Calls Try.prog 67 #[.pointer (some ⟨g, 0, none⟩), .int .i64 (n + 1)] w fun e w' => e = .returned (.tuple #[.agg #[.int .i64 x.kind, .int .i64 x.now, .string x.data], .int .i64 0]) ∧ Only (fun _ => False) w w' := by
  have hn := (List.getElem?_eq_some_iff.1 hx).1
  obtain ⟨a, cap, rfl, hcap, hrow⟩ := erow_form h.row
  obtain ⟨gb, rfl, _, _, z0, z1, z2⟩ := hrow n x hx
  have x0 := blk_cell h.cell 0
  simp only [List.getElem?_toArray, List.getElem?_cons_zero] at x0
  have hO := (Only.refl (fun _ => False) w).alloc (.cells #[.int .i64 0, .int .i64 0, .string ⟨#[]⟩] 83)
  have hz := blk_new w (.cells #[.int .i64 x.kind, .int .i64 x.now, .string x.data] 83)
  have hO2 := (Only.refl (fun _ => False) w).alloc (.cells #[.int .i64 x.kind, .int .i64 x.now, .string x.data] 83)
  have c0 := blk_cell hz 0
  have c1 := blk_cell hz 1
  have c2 := blk_cell hz 2
  simp only [List.getElem?_toArray, List.getElem?_cons_zero, List.getElem?_cons_succ] at c0 c1 c2
  have hx0 := cell_only hO (fun h => h) x0
  have hz0 := cell_only hO (fun h => h) z0
  have hz1 := cell_only hO (fun h => h) z1
  have hz2 := cell_only hO (fun h => h) z2
  clear h hrow hx hz x0 z0 z1 z2
  go_enter Try.func67, Try.ntmps67
  go_wp2_with fail
  exact bodyPost_ret (v := .tuple #[.agg #[.int .i64 x.kind, .int .i64 x.now, .string x.data], .int .i64 0]) (by simp [results, Try.results67, go_sem, c0, c1, c2]) rfl ⟨rfl, hO2⟩

theorem same_any (w : World) (B g : Nat) (rv : Value) (L : List EV) (n : Nat) (x : EV) (h : LogAt w B g rv L) (hx : L[n]? = some x) (hL : L.length ≤ 1000) :
    Calls Try.prog 39 #[.pointer (some ⟨g, 0, none⟩), .int .i64 (n + 1), .agg #[.int .i64 x.kind, .int .i64 x.now, .string x.data]] w fun e w' => e = .returned (.bool true) ∧ Only (fun _ => False) w w' := by
  have hO := (Only.refl (fun _ => False) w).alloc (.cells #[.int .i64 x.kind, .int .i64 x.now, .string x.data] 83)
  have hz := blk_new w (.cells #[.int .i64 x.kind, .int .i64 x.now, .string x.data] 83)
  have h1 := h.mono hO
  clear h
  go_enter Try.func39, Try.ntmps39
  go_wp2_with fail
  generalize w.alloc (.cells #[.int .i64 x.kind, .int .i64 x.now, .string x.data] 83) = w1 at *
  generalize w.heap.size = p at *
  refine (get_any _ B g rv L n x h1 hx hL).mono ?_
  rintro e w2 ⟨rfl, hk⟩
  have hO2 := hO.trans hk
  have hz2 := hk.at hz (fun h => h)
  clear h1 hz hO hk hx
  have hz3 := blk_alloc hz2 (.cells #[.int .i64 x.kind, .int .i64 x.now, .string x.data] 83)
  have hO3 := hO2.alloc (.cells #[.int .i64 x.kind, .int .i64 x.now, .string x.data] 83)
  have z0 := blk_cell hz3 0
  have z1 := blk_cell hz3 1
  have z2 := blk_cell hz3 2
  simp only [List.getElem?_toArray, List.getElem?_cons_zero, List.getElem?_cons_succ] at z0 z1 z2
  go_wp2_with fail
  go_ret
  exact ⟨rfl, hO3⟩

end Go.Proofs.Yteifehienpeaiaa
