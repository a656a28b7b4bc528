/-
  Arguments opened by their types alone: integers, bools, strings, structs and arrays of them (nested ones too) as rows of cells; slices of those, element by element; and how what came in reads behind a call that has turned nothing.
  No conditions.
-/
import Derived.ProofKit
import Derived.WalkKit
import Derived.OpenShut
import Derived.ShutString
import Derived.ChangeOld
import Derived.Below
import Derived.SizedLaws
import Derived.Deep.Slices
import Derived.Carry
import Derived.KernelRfl
set_option linter.unusedVariables false
set_option linter.unusedSimpArgs false
namespace Go.Proofs.Yteifehienpeaiaa
open Go.ChangeShapes Go.WideShapes Go.ChangeAt Go.RowKit Go.Deep

/-- The kinds of cells. -/
inductive CK where
  | i
  | b
  | s

def reachB : Nat := 140737488351232

def CK.Is : CK → Value → Prop
  | .i, v => ∃ n, v = .int .i64 n ∧ (Lit.int .i64 n).wf = true
  | .b, v => ∃ x, v = .bool x
  | .s, v => ∃ s : ByteArray, v = .string s ∧ s.size ≤ reachB

def CellsAre : List CK → List Value → Prop
  | [], [] => True
  | k :: ks, c :: cs => k.Is c ∧ CellsAre ks cs
  | _, _ => False

theorem CellsAre.length : ∀ {ks : List CK} {cs : List Value}, CellsAre ks cs → cs.length = ks.length
  | [], [], _ => rfl
  | _ :: ks, _ :: cs, h => by simp [CellsAre.length h.2]

theorem CellsAre.append : ∀ {ks ks' : List CK} {cs cs' : List Value}, CellsAre ks cs → CellsAre ks' cs' → CellsAre (ks ++ ks') (cs ++ cs')
  | [], _, [], _, _, h' => h'
  | _ :: ks, _, _ :: cs, _, h, h' => ⟨h.1, CellsAre.append h.2 h'⟩

theorem CellsAre.nil {cs : List Value} (h : CellsAre [] cs) : cs = [] := by
  cases cs with
  | nil => rfl
  | cons c cs => exact h.elim
theorem CellsAre.cons {k : CK} {ks : List CK} {cs : List Value} (h : CellsAre (k :: ks) cs) : ∃ c cs', cs = c :: cs' ∧ k.Is c ∧ CellsAre ks cs' := by
  cases cs with
  | nil => exact h.elim
  | cons c cs => exact ⟨c, cs, rfl, h.1, h.2⟩
theorem CellsAre.i {ks : List CK} {cs : List Value} (h : CellsAre (.i :: ks) cs) : ∃ n cs', cs = .int .i64 n :: cs' ∧ (Lit.int .i64 n).wf = true ∧ CellsAre ks cs' := by
  obtain ⟨c, cs', rfl, ⟨n, rfl, hn⟩, h2⟩ := h.cons
  exact ⟨n, cs', rfl, hn, h2⟩
theorem CellsAre.b {ks : List CK} {cs : List Value} (h : CellsAre (.b :: ks) cs) : ∃ x cs', cs = .bool x :: cs' ∧ CellsAre ks cs' := by
  obtain ⟨c, cs', rfl, ⟨n, rfl⟩, h2⟩ := h.cons
  exact ⟨n, cs', rfl, h2⟩
theorem CellsAre.s {ks : List CK} {cs : List Value} (h : CellsAre (.s :: ks) cs) : ∃ (x : ByteArray) (cs' : List Value), cs = .string x :: cs' ∧ x.size ≤ reachB ∧ CellsAre ks cs' := by
  obtain ⟨c, cs', rfl, ⟨n, rfl, hn⟩, h2⟩ := h.cons
  exact ⟨n, cs', rfl, hn, h2⟩

/-- A struct's fields, one behind the other. -/
def flatFields (P : Program) (f : TypeId → Option (List CK)) : List Field → Nat → Option (List CK)
  | [], _ => some []
  | x :: xs, off =>
    if x.offset = off then
      match f x.type with
      | some ks => if ks.length = P.cellsOf x.type then (flatFields P f xs (off + ks.length)).map (ks ++ ·) else none
      | none => none
    else none

/-- A type's cells. -/
def flatK (P : Program) : Nat → TypeId → Option (List CK)
  | 0, _ => none
  | d + 1, t =>
    match P.underlying t with
    | some (.int .i64) => some [.i]
    | some .bool => some [.b]
    | some .string => some [.s]
    | some (.struct fs) =>
      match flatFields P (flatK P d) fs.toList 0 with
      | some ks => if ks.length = P.cellsOf t then some ks else none
      | none => none
    | some (.array n e) =>
      match flatK P d e with
      | some ks => if ks.length = P.cellsOf e ∧ n * ks.length = P.cellsOf t then some (List.replicate n ks).flatten else none
      | none => none
    | _ => none

section
variable {H : Type} {enc : TypeId × Value → H} {P : Program} {w : World} {base : Nat} {spare : Nat → Bool} {held : Bool}

theorem mapM_cons_some {α β : Type} {f : α → Option β} {a : α} {l : List α} {ys : List β} (h : (a :: l).mapM f = some ys) : ∃ y ys', f a = some y ∧ l.mapM f = some ys' ∧ ys = y :: ys' := by
  rw [List.mapM_cons] at h
  obtain ⟨y, hy, h⟩ := Option.bind_eq_some_iff.1 h
  obtain ⟨ys', hy', h⟩ := Option.bind_eq_some_iff.1 h
  exact ⟨y, ys', hy, hy', (Option.some.inj h).symm⟩

theorem flat_fields {d : Nat} {n : Nat} (ih : ∀ t ks, flatK P d t = some ks → ∀ fuel cs x, DataW.trod enc P w base spare held fuel t cs = some x → (∀ n ∈ x.1.weights P t, n ≤ reachB) → CellsAre ks cs) (cs : List Value) :
    ∀ (fs : List Field) (off : Nat) (ks : List CK), flatFields P (flatK P d) fs off = some ks → ∀ fuel (xs : List (DataW H × List MemPlace)),
      (fs.mapM fun f => DataW.trod enc P w base spare held fuel f.type ((cs.drop f.offset).take (P.cellsOf f.type))) = some xs →
      (∀ n ∈ DataW.weightsEach P (fs.map (·.type)) (xs.map (·.1)), n ≤ reachB) →
      cs.length = off + ks.length → CellsAre ks (cs.drop off)
  | [], off, ks, h, fuel, xs, hx, hw, hl => by
    cases h
    have : cs.drop off = [] := List.drop_eq_nil_iff.2 (by simp at hl; omega)
    rw [this]
    trivial
  | f :: fs, off, ks, h, fuel, xs, hx, hw, hl => by
    unfold flatFields at h
    split at h
    · rename_i ho
      split at h
      · rename_i k1 hk1
        split at h
        · rename_i hlen
          obtain ⟨k2, hk2, rfl⟩ := Option.map_eq_some_iff.1 h
          obtain ⟨y, ys, hy, hys, rfl⟩ := mapM_cons_some hx
          have hw1 : ∀ n ∈ y.1.weights P f.type, n ≤ reachB := fun n hn => hw n (by simp only [List.map_cons, DataW.weightsEach, List.mem_append]; exact .inl hn)
          have hw2 : ∀ n ∈ DataW.weightsEach P (fs.map (·.type)) (ys.map (·.1)), n ≤ reachB := fun n hn => hw n (by simp only [List.map_cons, DataW.weightsEach, List.mem_append]; exact .inr hn)
          have h1 := ih f.type k1 hk1 fuel _ y hy hw1
          simp only [List.length_append] at hl
          have h2 := flat_fields (n := n) ih cs fs (off + k1.length) k2 hk2 fuel ys hys hw2 (by omega)
          rw [ho, ← hlen] at h1
          have := h1.append h2
          rw [← List.drop_drop, List.take_append_drop] at this
          exact this
        · cases h
      · cases h
    · cases h

theorem flat_array {d : Nat} {e : TypeId} {ks : List CK} (ih : ∀ fuel cs x, DataW.trod enc P w base spare held fuel e cs = some x → (∀ n ∈ x.1.weights P e, n ≤ reachB) → CellsAre ks cs) (hlen : ks.length = P.cellsOf e) :
    ∀ (n : Nat) (cs : List Value) (fuel : Nat) (off : Nat) (xs : List (DataW H × List MemPlace)),
      ((List.range' off n).mapM fun i => DataW.trod enc P w base spare held fuel e ((cs.drop (i * P.cellsOf e)).take (P.cellsOf e))) = some xs →
      (∀ n ∈ DataW.weightsAll P e (xs.map (·.1)), n ≤ reachB) →
      cs.length = (off + n) * ks.length → CellsAre (List.replicate n ks).flatten (cs.drop (off * ks.length))
  | 0, cs, fuel, off, xs, hx, hw, hl => by
    have : cs.drop (off * ks.length) = [] := List.drop_eq_nil_iff.2 (by rw [hl]; exact Nat.le_refl _)
    rw [this]
    trivial
  | n + 1, cs, fuel, off, xs, hx, hw, hl => by
    rw [List.range'_succ] at hx
    obtain ⟨y, ys, hy, hys, rfl⟩ := mapM_cons_some hx
    have hw1 : ∀ n ∈ y.1.weights P e, n ≤ reachB := fun n hn => hw n (by simp only [List.map_cons, DataW.weightsAll, List.mem_append]; exact .inl hn)
    have hw2 : ∀ n ∈ DataW.weightsAll P e (ys.map (·.1)), n ≤ reachB := fun n hn => hw n (by simp only [List.map_cons, DataW.weightsAll, List.mem_append]; exact .inr hn)
    have h1 := ih fuel _ y hy hw1
    have h2 := flat_array (d := d) ih hlen n cs fuel (off + 1) ys hys hw2 (by rw [hl]; congr 1; omega)
    rw [← hlen] at h1
    have := h1.append h2
    rw [show (off + 1) * ks.length = off * ks.length + ks.length from by rw [Nat.succ_mul], ← List.drop_drop, List.take_append_drop] at this
    simpa [List.replicate_succ] using this

theorem flat_cells : ∀ (d : Nat) (t : TypeId) (ks : List CK), flatK P d t = some ks → ∀ (fuel : Nat) (cs : List Value) (x : DataW H × List MemPlace),
    DataW.trod enc P w base spare held fuel t cs = some x → (∀ n ∈ x.1.weights P t, n ≤ reachB) → CellsAre ks cs
  | 0, t, ks, h, _, _, _, _, _ => by cases h
  | d + 1, t, ks, h, fuel, cs, x, hx, hw => by
    unfold flatK at h
    split at h
    · rename_i ht
      cases h
      obtain ⟨n, rfl, rfl, hwf⟩ := DataW.trod_int ht hx
      exact ⟨⟨n, rfl, hwf⟩, trivial⟩
    · rename_i ht
      cases h
      obtain ⟨n, rfl, rfl⟩ := DataW.trod_bool ht hx
      exact ⟨⟨n, rfl⟩, trivial⟩
    · rename_i ht
      cases h
      obtain ⟨s, rfl, rfl, hs⟩ := DataW.trod_string ht hx
      refine ⟨⟨s, rfl, ?_⟩, trivial⟩
      have := hw s.data.toList.length (by simp [DataW.weights])
      simpa using this
    · rename_i fs ht
      split at h
      · rename_i k1 hk1
        split at h
        · rename_i hlen
          cases h
          cases fuel with
          | zero => simp [DataW.trod] at hx
          | succ fuel =>
            rw [DataW.trod_step] at hx
            unfold DataW.trodStep at hx
            simp only [ht] at hx
            split at hx
            · rename_i hcl
              obtain ⟨xs, hxs, rfl⟩ := Option.map_eq_some_iff.1 hx
              have := flat_fields (n := 0) (fun t ks h => flat_cells d t ks h) cs fs.toList 0 ks hk1 fuel xs hxs
                (fun n hn => hw n (by simp only [DataW.weights, ht]; exact hn)) (by omega)
              simpa using this
            · cases hx
        · cases h
      · cases h
    · rename_i n e ht
      split at h
      · rename_i k1 hk1
        split at h
        · rename_i hlen
          cases h
          cases fuel with
          | zero => simp [DataW.trod] at hx
          | succ fuel =>
            rw [DataW.trod_step] at hx
            unfold DataW.trodStep at hx
            simp only [ht] at hx
            split at hx
            · rename_i hcl
              obtain ⟨xs, hxs, rfl⟩ := Option.map_eq_some_iff.1 hx
              rw [List.range_eq_range'] at hxs
              have := flat_array (d := d) (fun fuel cs x => flat_cells d e k1 hk1 fuel cs x) hlen.1 n cs fuel 0 xs hxs
                (fun n hn => hw n (by simp only [DataW.weights, ht]; exact hn)) (by rw [hcl, ← hlen.2, Nat.zero_add])
              simpa using this
            · cases hx
        · cases h
      · cases h
    · cases h

/-! ### Arguments -/

theorem open_cells {t : TypeId} {ks : List CK} {v : Value} {d : DataW H} {p : List MemPlace} (d' : Nat) (hk : flatK P d' t = some ks) (h : DataW.Trod enc P w base spare held t v d p) (hw : ∀ n ∈ d.weights P t, n ≤ reachB) : CellsAre ks v.cells.toList := by
  obtain ⟨fuel, h⟩ := h
  exact flat_cells d' t ks hk fuel _ _ h hw

def CK.isI : CK → Bool
  | .i => true
  | _ => false

/-- A slice whose elements are such rows of cells: n of them, f i the cells of the one at i. -/
structure SlIs (w : World) (ks : List CK) (v : Value) (n : Nat) (f : Nat → List Value) : Prop where
  val : ∃ a cap, v = .slice a n cap ∧ n ≤ cap ∧ (0 < n → ∃ b off, a = some ⟨b, off, none⟩ ∧ b < w.heap.size ∧ ∀ i, i < n → ∀ j, j < ks.length → w.cell? ⟨b, off + i * ks.length + j, none⟩ = (f i)[j]?)
  cells : ∀ i, i < n → CellsAre ks (f i)
  small : n * ks.length ≤ reachB
  nil0 : ∀ cap, v = .slice none n cap → cap = 0
  wide : ks.all CK.isI = true → n * (8 * ks.length) ≤ reachB

theorem weightsAll_mem {e : TypeId} : ∀ {l : List (DataW H)} {d : DataW H}, d ∈ l → ∀ n ∈ d.weights P e, n ∈ DataW.weightsAll P e l
  | x :: l, d, hd, n, hn => by
    simp only [DataW.weightsAll]
    rcases List.mem_cons.1 hd with rfl | hd
    · exact List.mem_append_left _ hn
    · exact List.mem_append_right _ (weightsAll_mem hd n hn)

theorem open_slice_cells {t e : TypeId} {ks : List CK} {v : Value} {d : DataW H} {p : List MemPlace} (d' : Nat) (ht : P.underlying t = some (.slice e)) (hk : flatK P d' e = some ks) (hc : P.cellsOf e = ks.length) (hb : ks.length ≤ P.bytesOf e) (hb8 : ks.all CK.isI = true → 8 * ks.length ≤ P.bytesOf e) (hpos : 0 < ks.length)
    (hv : ∃ a n c, v = .slice a n c) (h : DataW.Trod enc P w 0 spare held t v d p) (hw : ∀ n ∈ d.weights P t, n ≤ reachB) : ∃ n f, SlIs w ks v n f := by
  obtain ⟨fuel, h⟩ := h
  obtain ⟨a0, n0, c0, rfl⟩ := hv
  simp only [Value.cells] at h
  rcases open_slice ht h with ⟨hcs, hx⟩ | ⟨a, len, cap, m, n, D, Pl, hcs, _, hl, hm, hmm, hx, hall⟩
  · simp only [List.cons.injEq, and_true, Value.slice.injEq] at hcs
    obtain ⟨rfl, rfl, rfl⟩ := hcs
    exact ⟨0, fun _ => [], ⟨⟨none, 0, rfl, Nat.le_refl _, fun h => by omega⟩, fun i hi => by omega, by simp [reachB], (fun cap e => by cases e; rfl), fun _ => by simp [reachB]⟩⟩
  · simp only [List.cons.injEq, and_true, Value.slice.injEq] at hcs
    obtain ⟨rfl, rfl, rfl⟩ := hcs
    simp only [Prod.mk.injEq] at hx
    obtain ⟨rfl, rfl⟩ := hx
    have hlm : n0 ≤ m := by rw [hmm]; split <;> omega
    have hel : ∀ i, i < n0 → ∃ cs : List Value, w.cells? 0 (a.add (i * P.cellsOf e)) (P.cellsOf e) = some cs ∧ CellsAre ks cs := fun i hi => by
      obtain ⟨cs, h1, h2⟩ := hall i (by omega)
      refine ⟨cs, h1, flat_cells d' e ks hk _ _ _ h2 (fun n' hn' => hw n' ?_)⟩
      simp only [DataW.weights, ht]
      exact List.mem_cons_of_mem _ (List.mem_append_left _ (weightsAll_mem (d := D i) (List.mem_map.2 ⟨i, List.mem_range.2 hi, rfl⟩) _ hn'))
    obtain ⟨f, hf⟩ := choose_lt hel
    refine ⟨n0, f, ⟨⟨some a, c0, rfl, hl, fun h0 => ?_⟩, fun i hi => (hf i hi).2, ?_, (fun cap e => by cases e), fun hall8 => ?_⟩⟩
    · obtain ⟨b, off, spot⟩ := a
      have hcell : ∀ i, i < n0 → ∀ j, j < ks.length → w.cell? (((⟨b, off, spot⟩ : Addr).add (i * P.cellsOf e)).add j) = (f i)[j]? := fun i hi j hj => by
        obtain ⟨h1, h2⟩ := hf i hi
        obtain ⟨_, hlen, hce⟩ := World.cells?_some h1
        have := hce j (by omega)
        rw [this]
      have hspot : spot = none := by
        have h00 := hcell 0 h0 0 hpos
        have hl0 : 0 < (f 0).length := by rw [(hf 0 h0).2.length]; exact hpos
        rw [List.getElem?_eq_getElem hl0] at h00
        simpa [Addr.add] using World.cell?_spot h00
      subst hspot
      have hlt : b < w.heap.size := by
        have h00 := hcell 0 h0 0 hpos
        have hl0 : 0 < (f 0).length := by rw [(hf 0 h0).2.length]; exact hpos
        rw [List.getElem?_eq_getElem hl0] at h00
        simpa [Addr.add] using World.block_lt_of_cell? w _ h00
      refine ⟨b, off, rfl, hlt, fun i hi j hj => ?_⟩
      rw [← hcell i hi j hj, hc]
      congr 1
      unfold Addr.add
      by_cases h1 : i * ks.length = 0 <;> by_cases h2 : j = 0 <;> simp [h1, h2]
    · have := hw ((((List.range n0).map D).length + ((List.range (m - n0)).map fun j => D (n0 + j)).length) * P.bytesOf e) (by simp [DataW.weights, ht])
      simp only [List.length_map, List.length_range] at this
      calc n0 * ks.length ≤ (n0 + (m - n0)) * P.bytesOf e := Nat.mul_le_mul (by omega) hb
        _ ≤ reachB := this
    · have := hw ((((List.range n0).map D).length + ((List.range (m - n0)).map fun j => D (n0 + j)).length) * P.bytesOf e) (by simp [DataW.weights, ht])
      simp only [List.length_map, List.length_range] at this
      calc n0 * (8 * ks.length) ≤ (n0 + (m - n0)) * P.bytesOf e := Nat.mul_le_mul (by omega) (hb8 hall8)
        _ ≤ reachB := this

theorem SlIs.below {w' : World} {ks : List CK} {v : Value} {n : Nat} {f : Nat → List Value} (h : SlIs w ks v n f) (hb : Below w.heap.size w w') : SlIs w' ks v n f := by
  obtain ⟨⟨a, cap, h1, h2, h3⟩, h4, h5, h6, h7⟩ := h
  refine ⟨⟨a, cap, h1, h2, fun h0 => ?_⟩, h4, h5, h6, h7⟩
  obtain ⟨b, off, e, hlt, hc⟩ := h3 h0
  exact ⟨b, off, e, Nat.lt_of_lt_of_le hlt hb.size, fun i hi j hj => (hb.cell (p := ⟨b, _, none⟩) hlt).trans (hc i hi j hj)⟩

/-! ### Behind the call -/

theorem trodAll_below (hl : laidOutB P = true) {W W' : World} (hb : Below W.heap.size W W') : ∀ {ts : List TypeId} {vs : List Value} {ds : List (DataW H)} {ps : List MemPlace}, (ts.all fun t => P.readableRec t && decide (t < P.types.size)) = true →
    DataW.TrodAll enc P W 0 (fun _ => true) true ts vs ds ps → (∀ x ∈ ps, x.block < W.heap.size) → DataW.TrodAll enc P W' 0 (fun b => decide (b < W.heap.size)) true ts vs ds ps
  | [], _, _, _, _, h, _ => by
    obtain ⟨rfl, rfl, rfl⟩ := trodAll_nil h
    exact trodAll_mk0
  | t :: ts, _, _, _, hr, h, hlt => by
    obtain ⟨v0, vs0, d0, ds0, p0, q0, rfl, rfl, rfl, h0, r0⟩ := trodAll_cons h
    simp only [List.all_cons, Bool.and_eq_true, decide_eq_true_eq] at hr
    exact trodAll_cons_mk (Below.trod hl hr.1.1 hr.1.2 h0 hb (fun x hx => hlt x (List.mem_append_left _ hx))) (trodAll_below hl hb hr.2 r0 (fun x hx => hlt x (List.mem_append_right _ hx)))

end
end Go.Proofs.Yteifehienpeaiaa
