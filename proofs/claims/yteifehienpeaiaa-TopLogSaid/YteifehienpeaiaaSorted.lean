/-
  The contracts of maps.Keys and slices.Sorted at a map with int keys: the keys, rising.
  Conditions: the map holds at most 2^40 entries.
-/
import Derived.Test.YteifehienpeaiaaKeysShelf
import Derived.Test.YteifehienpeaiaaMaps
set_option linter.unusedVariables false
set_option linter.unusedSimpArgs false
namespace Go.Proofs.Yteifehienpeaiaa
open Go.RowKit Go.Maps Go.Sort Go.Shelf

theorem und_int : Try.prog.underlying 3 = some (.int .i64) := by kernel_rfl

/-- Every value reads. -/
def anyR (v : Value) : Option (DataW Unit × List MemPlace) := some (.lit (.bool true), [])

theorem MapI.owns {P : Program} {K : TypeId} (hk : P.underlying K = some (.int .i64)) {w : World} {b : Nat} {l : List (Int × Value)} (h : MapI w b l) (hw : ∀ p ∈ l, (Lit.int .i64 p.1).wf = true) (hl : l.length ≤ 1099511627776) :
    ∃ D : DataW Unit, w.ownsMap P K anyR b l.length D ∧ Maps.size D = l.length ∧ (intKeys D).Perm (l.map Prod.fst) := by
  obtain ⟨es, clock, hb, F⟩ := h
  have hlen : es.size = l.length := by have := congrArg List.length F.map; simpa using this
  have hkey : ∀ e ∈ es.toList, ∃ p ∈ l, e.key = .int .i64 p.1 := by
    intro e he
    have : pairOf e ∈ l.map pairI := by rw [← F.map]; exact List.mem_map_of_mem he
    obtain ⟨p, hp, hpe⟩ := List.mem_map.1 this
    exact ⟨p, hp, (congrArg Prod.fst hpe).symm⟩
  have hread : ∀ e ∈ es.toList, WideElems.rd P K anyR e = some (.int .i64 (kInt e), .lit (.bool true)) := by
    intro e he
    obtain ⟨p, hp, hpe⟩ := hkey e he
    unfold WideElems.rd
    rw [hpe, keyOf_int_mk hk (hw p hp)]
    simp [anyR, kInt, hpe, RowKit.intOf]
  have hrg : ∀ e ∈ es.toList, WideElems.rg P K anyR e = (.int .i64 (kInt e), .lit (.bool true)) := fun e he => by
    unfold WideElems.rg
    rw [hread e he]; rfl
  have hkn : (es.toList.map kInt) = l.map Prod.fst := by
    have h := congrArg (List.map (fun q : Value × Value => RowKit.intOf q.1)) F.map
    rw [List.map_map, List.map_map] at h
    exact h
  have hkeynd : (es.toList.map (·.key)).Nodup := by
    have h1 : es.toList.map (·.key) = (l.map Prod.fst).map (Value.int .i64) := by
      have h := congrArg (List.map (fun q : Value × Value => q.1)) F.map
      rw [List.map_map, List.map_map] at h
      rw [List.map_map]
      exact h
    rw [h1]
    exact List.Pairwise.map _ (fun a b hab e => hab (by simpa using e)) F.keys
  refine ⟨.map ((es.toList.map (WideElems.rg P K anyR)).foldr DataW.insert []), ⟨es, clock, hb, ⟨by rw [hlen]; simp only [maxLen]; omega, ⟨F.old, F.born, hkeynd⟩, fun e he => ⟨_, hread e he⟩⟩, by omega, rfl⟩, ?_, ?_⟩
  · simp [Maps.size, length_sorted, hlen]
  · have hp := (WideShapes.sorted_perm (es.toList.map (WideElems.rg P K anyR))).map (fun p => Go.intOf p.1)
    have e1 : (es.toList.map (WideElems.rg P K anyR)).map (fun p => Go.intOf p.1) = l.map Prod.fst := by
      rw [← hkn, List.map_map]
      apply List.map_congr_left
      intro e he
      simp only [Function.comp, hrg e he, Go.intOf]
    rw [e1] at hp
    exact hp

theorem sorts_in (m : Nat) : AnyZI.SortsIn Try.prog Try.sortedA_ren Fence.wide m :=
  ⟨fun blk off cap ss W hH hblk hsz => callsIn_wide.2 (AnyM.slices_Sort_int Try.sortA blk off cap ss W hH hblk hsz),
   fun p cap W => callsIn_wide.2 (AnyM.slices_Sort_int_none Try.sortA p cap W)⟩

theorem keys_any (mb : Option Nat) (W : World) : Calls Try.prog 51 #[.map mb] W fun e w' => e = .returned (.func (.func 73) #[] #[.pointer (some ⟨W.heap.size, 0, none⟩)]) ∧ w' = W.alloc (.cells #[.map mb] 99) :=
  (callsIn_wide (n := 6)).1 (AnyZI.keys_in Try.keysA Fence.wide 6 trivial rfl mb W)

/-- The keys of a list of entries, rising. -/
def keysUp (l : List (Int × Value)) : List Int := (l.map Prod.fst).mergeSort leI

set_option maxHeartbeats 1000000 in
theorem sorted_any (b : Nat) (l : List (Int × Value)) (w : World) (h : MapI w b l) (hw : ∀ p ∈ l, (Lit.int .i64 p.1).wf = true) (hl : l.length ≤ 1099511627776) :
    Calls Try.prog 50 #[.func (.func 73) #[] #[.pointer (some ⟨w.heap.size, 0, none⟩)]] (w.alloc (.cells #[.map (some b)] 99)) fun e w' => ∃ v, e = .returned v ∧ w'.ownsRow w.heap.size 3 1 v (keysUp l).length ((keysUp l).map (Value.int .i64)) ∧ Only (fun _ => False) w w' := by
  refine (callsIn_wide (n := 6)).1 ?_
  obtain ⟨D, hown, hsz, hperm⟩ := h.owns und_int hw hl
  have hbl := hown.lt
  have hseq : SeqGives Fence.wide 3 Try.prog 73 #[.pointer (some ⟨w.heap.size, 0, none⟩)] encZ (fun ss => ss.Perm (intKeys D)) (Maps.size D) (w.alloc (.cells #[.map (some b)] 99)) :=
    AnyZI.keys_gives (ρ := Try.keysA_ren) { Try.keysA with } Fence.wide _ trivial rfl (by omega) w.heap.size b l.length D _ (by simp) (by simp) (by
      obtain ⟨es, clock, hb, Ft, hs, hD⟩ := hown
      exact ⟨es, clock, (Below.heap_alloc _ _ b hbl).trans hb, Ft, hs, hD⟩)
  have cS := AnyZI.sorted_in Try.sortedA Fence.wide 6 trivial trivial trivial trivial rfl (by omega) (sorts_in _) (enters_of Try.func72 (by kernel_rfl) rfl) 73 #[.pointer (some ⟨w.heap.size, 0, none⟩)] trivial (enters_of Try.func73 (by kernel_rfl) rfl) _ _ (by rw [hsz]; simp only [maxLen]; omega) (by rw [hsz]; omega) _ hseq
  change CallsIn _ _ Try.prog 50 _ _ _ at cS
  refine cS.mono ?_
  rintro e w' ⟨v, ss, rfl, hS, hrow, hnil, hb⟩
  have hss : ss.mergeSort leI = keysUp l := mergeSort_of_perm_i (hS.trans hperm)
  have hlen : ss.length = (keysUp l).length := by rw [← hss]; simp
  refine ⟨v, rfl, ?_, ?_⟩
  · have := ownsRow_base_a hrow (show w.heap.size ≤ _ by simp)
    rw [hlen] at this
    have h2 : w'.ownsRow w.heap.size 3 1 v (keysUp l).length ((ss.mergeSort leI).map (Value.int .i64)) := this
    rw [hss] at h2
    exact h2
  · exact Only.of_below (((Below.refl _ w).alloc (Nat.le_refl _) _).trans (hb.mono (by simp)))

end Go.Proofs.Yteifehienpeaiaa
