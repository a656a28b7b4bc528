/-
  An end of a channel brings what is next, and all behind it without a gap.
  Conditions: numbers are of the kind int, the end's own in their bounds.
-/
import Derived.Test.YteifehienpeaiaaTakeAck
set_option linter.unusedVariables false
set_option linter.unusedSimpArgs false
set_option maxRecDepth 100000
namespace Go.Proofs.Yteifehienpeaiaa
open Go.RowKit

def lookE (E : List (Int × ByteArray)) (k : Int) : Option ByteArray := (E.find? (fun p => p.1 == k)).map (·.2)
def delE (E : List (Int × ByteArray)) (k : Int) : List (Int × ByteArray) := E.filter (fun p => p.1 != k)
theorem getI_encE (k : Int) : ∀ E : List (Int × ByteArray), getI (encE E) k = (lookE E k).map Value.string
  | [] => rfl
  | p :: E => by
    have ih := getI_encE k E
    unfold getI lookE encE at ih ⊢
    simp only [List.map_cons, List.find?_cons]
    cases hp : p.1 == k with
    | true => rfl
    | false => exact ih
theorem delI_encE (k : Int) (E : List (Int × ByteArray)) : delI (encE E) k = encE (delE E k) := by
  unfold delI encE delE
  rw [List.filter_map]
  rfl
theorem lookE_mem {E : List (Int × ByteArray)} {k : Int} {d : ByteArray} (h : lookE E k = some d) : (k, d) ∈ E := by
  unfold lookE at h
  cases hf : E.find? (fun p => p.1 == k) with
  | none => rw [hf] at h; cases h
  | some p =>
    rw [hf] at h
    have h1 := List.mem_of_find?_eq_some hf
    have h2 := List.find?_some hf
    simp only [beq_iff_eq] at h2
    simp only [Option.map_some, Option.some.injEq] at h
    rw [← h2, ← h]; exact h1
theorem delE_length {E : List (Int × ByteArray)} {k : Int} {d : ByteArray} (h : (k, d) ∈ E) : (delE E k).length < E.length :=
  List.length_filter_lt_length_iff_exists.2 ⟨_, h, by simp⟩

/-- What follows without a gap: the last one, what is left, the bytes. -/
def drainE : Nat → Int → List (Int × ByteArray) → Int × List (Int × ByteArray) × List ByteArray
  | 0, t, E => (t, E, [])
  | f + 1, t, E =>
    match lookE E (t + 1) with
    | none => (t, E, [])
    | some d => ((drainE f (t + 1) (delE E (t + 1))).1, (drainE f (t + 1) (delE E (t + 1))).2.1, d :: (drainE f (t + 1) (delE E (t + 1))).2.2)

theorem drainE_none {E : List (Int × ByteArray)} {t : Int} (h : lookE E (t + 1) = none) : ∀ f, drainE f t E = (t, E, [])
  | 0 => rfl
  | f + 1 => by unfold drainE; rw [h]
theorem drainE_some {E : List (Int × ByteArray)} {t : Int} {d : ByteArray} (h : lookE E (t + 1) = some d) (f : Nat) : drainE (f + 1) t E = ((drainE f (t + 1) (delE E (t + 1))).1, (drainE f (t + 1) (delE E (t + 1))).2.1, d :: (drainE f (t + 1) (delE E (t + 1))).2.2) := by
  conv => lhs; unfold drainE
  rw [h]
theorem drainE_fuel : ∀ (f f' : Nat) (t : Int) (E : List (Int × ByteArray)), E.length ≤ f → E.length ≤ f' → drainE f t E = drainE f' t E
  | 0, f', t, E, h, _ => by
    have : E = [] := List.eq_nil_of_length_eq_zero (by omega)
    subst this
    exact (drainE_none rfl f').symm
  | f + 1, 0, t, E, _, h => by
    have : E = [] := List.eq_nil_of_length_eq_zero (by omega)
    subst this
    exact drainE_none rfl (f + 1)
  | f + 1, f' + 1, t, E, h, h' => by
    cases hl : lookE E (t + 1) with
    | none => rw [drainE_none hl, drainE_none hl]
    | some d =>
      have hd := delE_length (lookE_mem hl)
      have := drainE_fuel f f' (t + 1) (delE E (t + 1)) (by omega) (by omega)
      rw [drainE_some hl, drainE_some hl, this]

def CS.drained (s : CS) : Int × List (Int × ByteArray) × List ByteArray := drainE s.E.length s.taken s.E
def CS.nexts (s : CS) : CS := { s with taken := s.drained.1, E := s.drained.2.1 }
def CS.news (s : CS) : List ByteArray := s.drained.2.2

/-- What came ahead of its turn, turned. -/
theorem EndAt.early {w w' : World} {g mo me : Nat} {s : CS} {E : List (Int × ByteArray)} (h : EndAt w g mo me s) (hm : MapI w' me (encE E)) (hk : Only (fun b => b = me) w w') : EndAt w' g mo me { s with E := E } := by
  have hmg : me ≠ g := map_cells h.emap h.cell
  refine ⟨hk.at h.cell (fun e => hmg e.symm), h.omap.only hk (fun e => h.dis e), hm, fun x hx => hk.at (h.sent x hx) (fun e => map_cells h.emap (h.sent x hx) e.symm), h.dis, h.own, h.far⟩

/-- How many entries a map has. -/
def mapN (w : World) (m : Nat) : Nat := match w.heap[m]? with | some (.map es _) => es.size | _ => 0
theorem MapI.mapN_eq {w : World} {m : Nat} {l : List (Int × Value)} (h : MapI w m l) : mapN w m = l.length := by
  obtain ⟨es, c, h1, F⟩ := h
  unfold mapN
  rw [h1]
  have := congrArg List.length F.map
  simpa using this

set_option maxHeartbeats 2000000 in
theorem next_any (w : World) (g mo me : Nat) (s : CS) (h : EndAt w g mo me s) (t0 : 0 ≤ s.taken) (t1 : s.taken + s.E.length ≤ 4294967295) (hEl : s.E.length ≤ 1000000) :
    Calls Try.prog 54 #[.pointer (some ⟨g, 0, none⟩)] w fun e w' => ∃ v, e = .returned v ∧ w'.ownsRow w.heap.size 9 1 v s.news.length (s.news.map Value.string) ∧ EndAt w' g mo me s.nexts ∧ Only (fun k => k = g ∨ k = me) w w' := by
  obtain ⟨i9, hi, hz0, hz1, hz2⟩ := info_parts info9
  have hrow0 := World.ownsRow_nil w w.heap.size 9 1
  have H := Lib.hid h
  have hglt := h.lt g (.inl rfl)
  have hmlt := h.lt me (.inr (.inr (.inl rfl)))
  have hstart : EndAt w g mo me { s with taken := s.taken, E := s.E } := h
  generalize hE0 : s.E.length = L at t1 hEl
  have HE0 := Lib.hid hE0
  clear h hE0
  go_enter Try.func54, Try.ntmps54
  go_wp2_with fail
  go_loopw [2] (fun v wq => ∃ (t : Int) (E : List (Int × ByteArray)) (bs : List ByteArray), EndAt wq g mo me { s with taken := t, E := E } ∧ wq.ownsRow w.heap.size 9 1 v bs.length (bs.map Value.string) ∧ s.drained = ((drainE E.length t E).1, (drainE E.length t E).2.1, bs ++ (drainE E.length t E).2.2) ∧ 0 ≤ t ∧ t + E.length ≤ 4294967295 ∧ bs.length + E.length ≤ L ∧ Only (fun k => k = g ∨ k = me) w wq) (fun _ wq => mapN wq me)
  case atStart => exact ⟨s.taken, s.E, [], hstart, hrow0, rfl, t0, by rw [HE0.out]; exact t1, by rw [HE0.out]; simp, Only.refl _ _⟩
  case round =>
    clear hstart hrow0
    obtain ⟨t, E, bs, hQ, hrow, hdr, p0, p1, hlen, hO2⟩ := hrel
    have HDR := Lib.hid hdr
    have hmn := hQ.emap.mapN_eq
    rw [show (encE E).length = E.length from by unfold encE; rw [List.length_map]] at hmn
    have HMN := Lib.hid hmn
    have hk0 := (Only.refl (fun _ => False) wr).drew
    have hQ2 : EndAt wr.drew g mo me { s with taken := t, E := E } := hQ.keep hk0
    have hrow2 : wr.drew.ownsRow w.heap.size 9 1 _ bs.length (bs.map Value.string) := hrow
    have hO3 := hO2.drew
    have hget := getI_encE (t + 1) E
    clear hdr hrow hmn hQ hO2
    have x10 := (blk_cell hQ2.cell 10).trans (show (({ s with taken := t, E := E } : CS).cells mo me)[10]? = some (.int .i64 t) from rfl)
    have x15 := (blk_cell hQ2.cell 15).trans (show (({ s with taken := t, E := E } : CS).cells mo me)[15]? = some (.map (some me)) from rfl)
    have hm := hQ2.emap
    have hlook := hm.look und_mapE und_int (zero_str _) (t + 1) true
    replace x10 : wr.cell? ⟨g, 10, none⟩ = some (.int .i64 t) := x10
    replace x15 : wr.cell? ⟨g, 15, none⟩ = some (.map (some me)) := x15
    rw [hget] at hlook
    have hwt : IntKind.i64.wrap (t + 1) = t + 1 := by rw [IntKind.wrap_i64]; omega
    clear hget
    cases hl : lookE E (t + 1) with
    | none =>
      rw [hl] at hlook
      simp only [if_true, Option.map_none, Option.getD_none, Option.isSome_none] at hlook
      have hfin : s.drained = (t, E, bs) := by rw [HDR.out, drainE_none hl, List.append_nil]
      have HFIN := Lib.hid hfin
      clear hl hfin
      go_wp2_with fail
      go_region
      generalize wr.drew = w2 at hQ2 hrow2 hO3 ⊢
      clear hlook x10 x15 hm hwt
      have HN := Lib.hid (show s.nexts = { s with taken := t, E := E } from by unfold CS.nexts; rw [HFIN.out])
      have HW := Lib.hid (show s.news = bs from by unfold CS.news; rw [HFIN.out])
      have HQ := Lib.hid hQ2
      have HR := Lib.hid hrow2
      clear hQ2 hrow2
      go_wp2_with fail
      go_ret
      exact ⟨_, rfl, by rw [HW.out]; exact HR.out, by rw [HN.out]; exact HQ.out, hO3⟩
    | some d =>
      rw [hl] at hlook
      simp only [if_true, Option.map_some, Option.getD_some, Option.isSome_some] at hlook
      have hdl := delE_length (lookE_mem hl)
      have hstep : s.drained = ((drainE (delE E (t + 1)).length (t + 1) (delE E (t + 1))).1, (drainE (delE E (t + 1)).length (t + 1) (delE E (t + 1))).2.1, (bs ++ [d]) ++ (drainE (delE E (t + 1)).length (t + 1) (delE E (t + 1))).2.2) := by
        have h1 : E.length = (E.length - 1) + 1 := by omega
        rw [HDR.out, h1, drainE_some hl, drainE_fuel (E.length - 1) (delE E (t + 1)).length (t + 1) (delE E (t + 1)) (by omega) (Nat.le_refl _)]
        simp
      have HSTEP := Lib.hid hstep
      clear hl hstep
      go_wp2_with fail
      go_region
      generalize wr.drew = w2 at hQ2 hrow2 hO3 ⊢
      clear hlook x10 x15 hm
      have x10 := (blk_cell hQ2.cell 10).trans (show (({ s with taken := t, E := E } : CS).cells mo me)[10]? = some (.int .i64 t) from rfl)
      have xf := blk_free hQ2.cell 10
      have hQ3 : EndAt (w2.setCell ⟨g, 10, none⟩ (.int .i64 (t + 1))) g mo me { s with taken := t + 1, E := E } := hQ2.set (s' := { s with taken := t + 1, E := E }) 10 (.int .i64 (t + 1)) rfl rfl rfl
      have hk3 := (Only.refl (fun k => k = g) w2).setCell ⟨g, 10, none⟩ (.int .i64 (t + 1)) (fun _ => rfl)
      have hrow3 := row_only hrow2 hk3 (fun k hk e => by omega)
      have hO4 := hO3.then hk3 (fun _ _ e => .inl e)
      have hwt2 := hwt
      clear hwt
      go_upto_region 5 with fail
      generalize w2.setCell ⟨g, 10, none⟩ (.int .i64 (t + 1)) = w3 at hQ3 hrow3 hO4 ⊢
      clear x10 xf hQ2 hrow2 hO3 hk3
      have hQd := hQ3.keep ((Only.refl (fun _ => False) w3).drew)
      obtain ⟨w4, hdel, hm4, hk4, hz4⟩ := hQd.emap.del und_mapE und_int (t + 1) 0
      have x10 := (blk_cell hQ3.cell 10).trans (show (({ s with taken := t + 1, E := E } : CS).cells mo me)[10]? = some (.int .i64 (t + 1)) from rfl)
      have x15 := (blk_cell hQ3.cell 15).trans (show (({ s with taken := t + 1, E := E } : CS).cells mo me)[15]? = some (.map (some me)) from rfl)
      rw [delI_encE] at hm4
      have hQ4 : EndAt w4 g mo me { s with taken := t + 1, E := delE E (t + 1) } := hQd.early hm4 hk4
      have hrow4 := row_only (w' := w4) (row_only hrow3 ((Only.refl (fun _ => False) w3).drew) (fun _ _ h => h)) hk4 (fun k hk e => by omega)
      have hO5 := (hO4.drew).then hk4 (fun _ _ e => .inr e)
      have HQ4 := Lib.hid hQ4
      clear hQ3 hrow3 hO4 hQd hm4 hk4 hz4 hQ4
      go_wp2_with fail
      go_region
      have hsz5 := hO5.size
      have hbl : bs.length ≤ 1000000 := by omega
      clear hdel x10 x15
      go_wp2_with (at_builtin; refine wpList_append_own _ rfl _ _ 43 rfl w.heap.size 9 i9 (.string ⟨#[]⟩) 1 16 Try.underlying43 hi hz0 hz1 hz2 rfl (by decide) _ bs.length _ rfl (hrow4.alloc _) ⟨w4.heap.size, 0, none⟩ 1 1 [.string d] rfl rfl (cell_one_new _ _ _) (by simp [Value.oneCell']) (by simp [maxLen]; omega) (by omega) (by rw [World.size_alloc]; omega) ?_; intro v5 w5 hown hgr _)
      have hka := (Only.refl (fun _ => False) w4).alloc (.cells #[.string d] 9)
      have hQ5 : EndAt w5 g mo me { s with taken := t + 1, E := delE E (t + 1) } := (HQ4.out.keep hka).only (Only.of_grown hgr) (fun k hk e => by
        have h1 := (hrow4.lt _ e.symm).1
        have h2 := H.out.lt k hk
        omega)
      have hown2 : w5.ownsRow w.heap.size 9 1 v5 (bs ++ [d]).length ((bs ++ [d]).map Value.string) := by
        rw [List.length_append, List.map_append]
        exact hown
      have hO6 : Only (fun k => k = g ∨ k = me) w w5 := (hO5.then hka (fun _ _ h => h.elim)).then (Only.of_grown hgr) (fun k hk e => by have := (hrow4.lt _ e.symm).1; omega)
      have hms := hQ5.emap.mapN_eq
      rw [show (encE (delE E (t + 1))).length = (delE E (t + 1)).length from by unfold encE; rw [List.length_map]] at hms
      clear hown hgr hrow4 hO5 hka
      go_roundw
      case rel => exact ⟨t + 1, delE E (t + 1), bs ++ [d], hQ5, hown2, HSTEP.out, by omega, by omega, by rw [List.length_append]; simp only [List.length_cons, List.length_nil]; omega, hO6⟩
      case measure => rw [hms, HMN.out]; exact hdl

end Go.Proofs.Yteifehienpeaiaa
