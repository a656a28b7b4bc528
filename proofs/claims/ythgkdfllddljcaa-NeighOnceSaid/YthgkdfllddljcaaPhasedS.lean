/-
  A region that draws its order and holds calls and stores that turn the state, as XPhasedK has it; an operation without a slot may stand among the others.
  Conditions: each operation of the head has a slot of its own, or none; who has none is counted beyond the frame.
-/
import Derived.Test.YthgkdfllddljcaaPhasedK
set_option linter.unusedVariables false
set_option linter.unusedSimpArgs false
namespace Go.Proofs.Ythgkdfllddljcaa
open Go.RowKit

/-- What an operation comes to; one that yields nothing, too. -/
def OpSaysS (P : Program) (o : Oper) (ev : Operand → Value) (w : World) (post : Value → World → Prop) : Prop :=
  OpSays P o ev w post ∨ ∃ w', (execOp ev o).run P w = .ok .skip w' ∧ post undef w'
theorem OpSaysS.skip {P : Program} {o : Oper} {ev : Operand → Value} {w w' : World} {post : Value → World → Prop} (h : (execOp ev o).run P w = .ok .skip w') (hp : post undef w') : OpSaysS P o ev w post := .inr ⟨w', h, hp⟩

/-- The slots of the first operations; who has none is counted beyond the frame. -/
def slotsHeadS (ops : Array Oper) (m : Nat) (ds : List Nat) : Bool :=
  ((List.range ds.length).all fun i => ((ops[i]?).map fun o => match o.dst with
    | some d => d == ds.getD i 0 && decide (d < m)
    | none => decide (m ≤ ds.getD i 0)).getD false) && ds.Nodup

section
variable {P : Program} {ops : Array Oper} {Q : Exit → Act → World → Prop}

/-- **A region that draws, by one fact for each operation of its head, and by which of them have come up; behind it the tail in the order of the text.** -/
theorem wp_region_phaseds_tail {l : List Oper} {id : Nat} {a0 : Act} {w0 : World} (n : Nat) (ds : List Nat) (need : List (List Nat)) (gs : List (Option Bool)) (late early : List (List Nat)) (T : (Nat → Bool) → World → Prop) (Step : Nat → World → World → Prop) (G : (Nat → Bool) → Nat → Value → World → Prop)
    (hm : P.follows .mixedOrders = true) (hdn : ds.length = n) (hs : slotsHeadS l.toArray a0.tmps.size ds = true) (hn : waitsFor need l.toArray = true) (ha : ahead l.toArray = true) (hg : guardsOK gs l.toArray n = true) (ht : tailOK l.toArray n = true) (hle : reachOK l.toArray late early n = true)
    (hT : T (fun _ => false) w0.drew) (hkeep : ∀ L i j v w w', i ≠ j → L i = false → L j = true → G L j v w → Step i w w' → G (upd L i) j v w') (hgs : ∀ g b, gs.getD g none = some b → ∀ L v w, G L g v w → v = .bool b) (hrefl : ∀ i w, Step i w w) (hfree : ∀ L i v v' w, a0.tmps.size ≤ ds.getD i 0 → G L i v w → G L i v' w)
    (hops : EachOp 0 (l.take n) fun i o => ∀ (L : Nat → Bool) (ev : Operand → Value) (w : World), L i = false → AllB L false (late.getD i []) → AllB L true (early.getD i []) → T L w → (∀ v, ev (.const v) = v) → (∀ f, ev (.func f) = .func (.func f) #[] #[]) → (∀ t, t ∉ ds → ev (.tmp t) = a0.eval (.tmp t)) →
      AllG (G L) (fun j => ds.getD j 0) ev w (need.getD i []) → if wantB gs o = true then OpSaysS P o ev w (fun v w' => T (upd L i) w' ∧ Step i w w' ∧ G (upd L i) i v w') else T (upd L i) w ∧ G (upd L i) i undef w)
    (hend : ∀ (L : Nat → Bool) (a : Act) (w : World), AllB L true (List.range n) → T L w → a.tmps.size = a0.tmps.size → a.defers = a0.defers → (∀ t, t ∉ ds → a.eval (.tmp t) = a0.eval (.tmp t)) →
      AllG (G L) (fun j => ds.getD j 0) a.eval w (List.range n) → wpList P l.toArray Q (l.drop n) a w) :
    (Code.region id l.toArray true).wp P Q a0 w0 := by
  refine wp_region_any hm ?_
  have hsize : l.toArray.size = l.length := by simp
  unfold slotsHeadS at hs
  unfold tailOK at ht
  simp only [Bool.and_eq_true, Bool.or_eq_true, beq_iff_eq, decide_eq_true_eq, List.all_eq_true] at hs ht
  obtain ⟨hs1, hs3⟩ := hs
  obtain ⟨⟨ht1, ht2⟩, ht3⟩ := ht
  have hdst : ∀ i o, i < n → l[i]? = some o → (o.dst = some (ds.getD i 0) ∧ ds.getD i 0 < a0.tmps.size) ∨ (o.dst = none ∧ a0.tmps.size ≤ ds.getD i 0) := by
    intro i o hin ho
    have h1 := hs1 i (List.mem_range.2 (by omega))
    have ho' : l.toArray[i]? = some o := by simpa using ho
    rw [ho'] at h1
    simp only [Option.map_some, Option.getD_some] at h1
    cases hd : o.dst with
    | some d =>
      rw [hd] at h1
      simp only [Bool.and_eq_true, beq_iff_eq, decide_eq_true_eq] at h1
      exact .inl ⟨by rw [h1.1], by rw [← h1.1]; exact h1.2⟩
    | none =>
      rw [hd] at h1
      exact .inr ⟨rfl, by simpa using h1⟩
  have hbelow : ∀ i, i < n → ds.getD i 0 ∈ ds := by
    intro i hin
    have hil : i < ds.length := by omega
    rw [List.getD, List.getElem?_eq_getElem hil]; exact List.getElem_mem hil
  have h0 : ((Array.replicate l.toArray.size false).toList.take n).filter (· == false) = List.replicate n false := by
    rw [Array.toList_replicate, List.take_replicate, Nat.min_eq_left ht1]
    simp
  have hmain := wpAny_headP (P := P) (ops := l.toArray) (Q := Q) (ds := ds) (T := T) (G := G) (a0 := a0) (n := n) ht1 ht2 ht3 ha ?_ ?_ n (Array.replicate l.toArray.size false) a0 w0.drew (by rw [h0]; simp) ?_ ?_
  · rw [show n + (l.toArray.size - n) = l.toArray.size by omega] at hmain
    exact hmain
  · intro listed a w i hin hI hi hU
    obtain ⟨h0, o, ho, hdeps⟩ := mem_ready.1 hi
    have hol : l[i]? = some o := by simpa using ho
    have hd := hdst i o hin hol
    have hlt : i < l.toArray.size := (Array.getElem?_eq_some_iff.1 ho).1
    have hsays := EachOp.at hops (show (l.take n)[i]? = some o by rw [List.getElem?_take, if_pos hin]; exact hol)
    rw [Nat.zero_add] at hsays
    have hneed : AllG (G fun k => listed.getD k false) (fun j => ds.getD j 0) a.eval w (need.getD i []) := by
      refine AllG.of fun j hj => ?_
      have h1 := (List.all_eq_true.1 hn) i (List.mem_range.2 hlt)
      have h2 := (List.all_eq_true.1 h1) j hj
      simp only [ho, Option.map_some, Option.getD_some, Bool.and_eq_true, decide_eq_true_eq] at h2
      obtain ⟨e, he, hb⟩ := Array.any_eq_true'.1 h2.2
      simp only [Bool.and_eq_true, beq_iff_eq] at hb
      have h3 := hdeps e he hb.1
      rw [hb.2] at h3
      exact hU.fact j h3
    have hlisted : i < listed.size := by rw [hU.len]; exact hlt
    have hput : ∀ v w', T (upd (fun k => listed.getD k false) i) w' → (∀ k, k ≠ i → listed.getD k false = true → G (upd (fun k => listed.getD k false) i) k (a.eval (.tmp (ds.getD k 0))) w') → G (upd (fun k => listed.getD k false) i) i v w' → (∀ k, listed.getD k false = true → k < n) → UnderP l.toArray ds T G a0 (listed.setIfInBounds i true) (a.put o.dst v) w' := by
      intro v w' hT' hK hG' hln
      have hb2 := hbelow i hin
      have hother : ∀ k, k ≠ i → listed.getD k false = true → ds.getD i 0 ≠ ds.getD k 0 := by
        intro k hki hk'
        have hkn := hln k hk'
        rw [List.getD, List.getD, List.getElem?_eq_getElem (show i < ds.length by omega), List.getElem?_eq_getElem (show k < ds.length by omega)]
        intro e
        exact hki ((List.getElem_inj hs3).1 e.symm)
      rcases hd with ⟨hd, hb1⟩ | ⟨hd, hb1⟩
      · rw [hd]
        refine ⟨by rw [upd_listed hlisted]; exact hT', by rw [put_size]; exact hU.size, by rw [put_defers]; exact hU.defers, by simp [hU.len], fun t ht => ?_, fun k hk => ?_⟩
        · rw [put_eval_other (by intro e; rw [e] at hb2; exact ht hb2)]
          exact hU.frame t ht
        · rw [upd_listed hlisted]
          by_cases hki : k = i
          · subst hki
            rw [put_eval_same (by rw [hU.size]; exact hb1)]
            exact hG'
          · have hk' : listed.getD k false = true := by rw [getD_set_ne false (fun e => hki e.symm)] at hk; exact hk
            rw [put_eval_other (hother k hki hk')]
            exact hK k hki hk'
      · have hsame : a.put o.dst v = a := by rw [hd]; rfl
        rw [hsame]
        refine ⟨by rw [upd_listed hlisted]; exact hT', hU.size, hU.defers, by simp [hU.len], hU.frame, fun k hk => ?_⟩
        rw [upd_listed hlisted]
        by_cases hki : k = i
        · subst hki
          exact hfree _ _ _ _ _ hb1 hG'
        · have hk' : listed.getD k false = true := by rw [getD_set_ne false (fun e => hki e.symm)] at hk; exact hk
          exact hK k hki hk'
    have hln : ∀ k, listed.getD k false = true → k < n := by
      intro k hk
      rcases Nat.lt_or_ge k n with h | h
      · exact h
      · exfalso
        rcases Nat.lt_or_ge k listed.size with hks | hks
        · have := hI.tail k h (by rw [← hI.size]; exact hks)
          rw [Array.getD, dif_pos hks] at this hk
          rw [this] at hk
          cases hk
        · rw [Array.getD, dif_neg (by omega)] at hk
          cases hk
    have hwanted : Region.wanted o (yielded l.toArray a.tmps) = wantB gs o := by
      unfold Region.wanted wantB
      cases hgd : o.guard with
      | none => rfl
      | some gw =>
        obtain ⟨g, want⟩ := gw
        have h1 := (List.all_eq_true.1 hg) i (List.mem_range.2 hin)
        simp only [ho, Option.map_some, Option.getD_some, hgd, Bool.and_eq_true, decide_eq_true_eq] at h1
        obtain ⟨⟨hgn, hsome⟩, hany⟩ := h1
        obtain ⟨e, he, hb⟩ := Array.any_eq_true'.1 hany
        simp only [Bool.and_eq_true, beq_iff_eq] at hb
        have h3 := hdeps e he hb.1
        rw [hb.2] at h3
        have hfact := hU.fact g h3
        obtain ⟨b, hb2⟩ := Option.isSome_iff_exists.1 hsome
        have hv := hgs g b hb2 _ _ _ hfact
        have hgl : g < l.length := by rw [hsize] at ht1; omega
        have hv' : a.tmps.getD (ds.getD g 0) undef = .bool b := hv
        rcases hdst g l[g] hgn (List.getElem?_eq_getElem hgl) with ⟨hdg, hlt⟩ | ⟨hdg, hlt⟩
        · have hy : yielded l.toArray a.tmps g = some b := by
            unfold yielded
            have h5 : l.toArray[g]? = some l[g] := by simp [hgl]
            rw [h5]
            simp only [Option.bind_some, hdg]
            rw [← hU.size] at hlt
            have h6 : a.tmps[ds.getD g 0]? = some (.bool b) := by
              rw [Array.getElem?_eq_getElem hlt]
              rw [Array.getD, dif_pos hlt] at hv'
              exact congrArg some hv'
            rw [h6]
          simp only
          rw [hy, hb2]
        · exfalso
          rw [← hU.size] at hlt
          rw [Array.getD, dif_neg (by omega)] at hv'
          cases hv'
    have hfa : ∀ k, k ≠ i → listed.getD k false = true → G (fun k => listed.getD k false) k (a.eval (.tmp (ds.getD k 0))) w := fun k _ hk => hU.fact k hk
    have hLi : listed.getD i false = false := getD_both h0
    have hre := (List.all_eq_true.1 hle) i (List.mem_range.2 hin)
    simp only [Bool.and_eq_true, List.all_eq_true] at hre
    have hlate : AllB (fun k => listed.getD k false) false (late.getD i []) := AllB.of fun k hk => by
      cases hx : listed.getD k false with
      | false => rfl
      | true =>
        have := reach_closed hI _ _ _ (hre.1 k hk) hx
        rw [hLi] at this
        cases this
    have hearly : AllB (fun k => listed.getD k false) true (early.getD i []) := AllB.of fun k hk => reach_ready hI ho hdeps _ _ (hre.2 k hk)
    have hs := hsays (fun k => listed.getD k false) a.eval w hLi hlate hearly hU.held (fun _ => rfl) (fun _ => rfl) hU.frame hneed
    unfold wpOp
    rw [ho]
    simp only [hwanted]
    cases hwb : wantB gs o with
    | false =>
      rw [hwb] at hs
      simp only [Bool.false_eq_true, if_false] at hs ⊢
      exact hput undef w hs.1 (fun k hk hl => hkeep _ i k _ w w (fun e => hk e.symm) hLi hl (hfa k hk hl) (hrefl i w)) hs.2 hln
    | true =>
      rw [hwb] at hs
      simp only [if_true] at hs ⊢
      refine .inl ?_
      unfold Oper.wp
      rcases hs with (⟨v, w', hr, hp1, hp2, hp3⟩ | ⟨f, args, w', hr, hp⟩) | ⟨w', hr, hp1, hp2, hp3⟩
      · rw [hr, Oper.upon_value]
        exact hput v w' hp1 (fun k hk hl => hkeep _ i k _ w w' (fun e => hk e.symm) hLi hl (hfa k hk hl) hp2) hp3 hln
      · rw [hr, Oper.upon_enter]
        refine hp.mono ?_
        rintro e w'' ⟨v, rfl, hp1, hp2, hp3⟩
        exact hput v w'' hp1 (fun k hk hl => hkeep _ i k _ w w'' (fun e => hk e.symm) hLi hl (hfa k hk hl) hp2) hp3 hln
      · rw [hr, Oper.upon_skip]
        exact hput undef w' hp1 (fun k hk hl => hkeep _ i k _ w w' (fun e => hk e.symm) hLi hl (hfa k hk hl) hp2) hp3 hln
  · intro listed a w hall hU
    exact hend _ a w (AllB.of fun k hk => hall k (List.mem_range.1 hk)) hU.held hU.size hU.defers hU.frame (AllG.of fun j hj => hU.fact j (hall j (List.mem_range.1 hj)))
  · refine ⟨by rw [show (fun k => (Array.replicate l.toArray.size false).getD k false) = fun _ => false from funext fun k => getD_replicate_false _ _]; exact hT, rfl, rfl, by simp, fun _ _ => rfl, fun i hi => ?_⟩
    exfalso
    rw [Array.getD_eq_getD_getElem?, Array.getElem?_replicate] at hi
    split at hi <;> simp at hi
  · refine ⟨by simp, fun j oj hj hl => ?_, fun t ht ht' => ?_⟩
    · rw [getD_replicate_false] at hl; cases hl
    · have : t < l.length := by simpa using ht'
      simp [Array.getD, this]
end

end Go.Proofs.Ythgkdfllddljcaa
