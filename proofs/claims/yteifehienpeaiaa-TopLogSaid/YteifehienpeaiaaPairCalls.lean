/-
  The calls of the ends of a pair; parts of rows of strings.
  Conditions: lists of at most a million.
-/
import Derived.Test.YteifehienpeaiaaAppTexts
import Derived.Test.YteifehienpeaiaaTakeAll
import Derived.Test.YteifehienpeaiaaTakeNo
set_option linter.unusedVariables false
set_option linter.unusedSimpArgs false
set_option maxRecDepth 100000
namespace Go.Proofs.Yteifehienpeaiaa
open Go.RowKit

theorem size_str (w : World) : (sizeOf (Try.prog.elem 43)).run Try.prog w = .ok 1 w := by kernel_rfl
theorem und_strs : Try.prog.underlying 43 = some (.slice (Try.prog.elem 43)) := by kernel_rfl
def hiT (g cap j : Nat) : Option Addr := if cap = j then some ⟨g, 0, none⟩ else some ⟨g, j, none⟩
theorem run_lowT (g N cap i : Nat) (h : i ≤ cap) (w : World) : (Instr.sliceAt 43 (.slice (some ⟨g, 0, none⟩) N cap) none (some (.int .i64 i)) none).run Try.prog w = .ok (.slice (some ⟨g, 0, none⟩) i cap) w := by
  rw [run_sliceAt_slice w _ _ _ _ _ und_strs, run_slice_h w _ _ _ _ und_strs .i64 i (by omega) (by omega), size_str]
  simp only [Result.andThen, sliced, Int.toNat_natCast, Nat.sub_zero]
  congr 2
  split
  · rfl
  · rw [Option.map_some, Addr.add_lit]
theorem run_highT (g N cap j : Nat) (h : j ≤ N) (h2 : N ≤ cap) (w : World) : (Instr.sliceAt 43 (.slice (some ⟨g, 0, none⟩) N cap) (some (.int .i64 j)) none none).run Try.prog w = .ok (.slice (hiT g cap j) (N - j) (cap - j)) w := by
  rw [run_sliceAt_slice w _ _ _ _ _ und_strs, run_slice_l w _ _ _ _ und_strs .i64 j (by omega) (by omega), size_str]
  simp only [Result.andThen, sliced, Int.toNat_natCast]
  unfold hiT
  congr 2
  split
  · rfl
  · rw [Option.map_some, Addr.add_lit, Nat.zero_add, Nat.mul_one]
theorem row_src_low {w : World} {B g N cap : Nat} {L : List ByteArray} (h : w.ownsRow B 9 1 (.slice (some ⟨g, 0, none⟩) N cap) L.length (L.map Value.string)) (i : Nat) (hi : i ≤ L.length) : TSrc w (.slice (some ⟨g, 0, none⟩) i cap) (L.take i) := by
  rcases row_src h with ⟨h1, _⟩ | ⟨ad, c, h1, h2⟩
  · cases h1
  · injection h1 with e1 e2 e3
    injection e1 with e1
    subst e1
    refine .inr ⟨⟨g, 0, none⟩, cap, by rw [List.length_take, Nat.min_eq_left hi], fun j u hj => h2 j u ?_⟩
    rw [List.map_take, List.getElem?_take] at hj
    split at hj
    · exact hj
    · cases hj
theorem row_src_high {w : World} {B g N cap : Nat} {L : List ByteArray} (h : w.ownsRow B 9 1 (.slice (some ⟨g, 0, none⟩) N cap) L.length (L.map Value.string)) (j : Nat) (hN : L.length = N) (hj : j ≤ N) (hc : N ≤ cap) : TSrc w (.slice (hiT g cap j) (N - j) (cap - j)) (L.drop j) := by
  rcases row_src h with ⟨h1, _⟩ | ⟨ad, c, h1, h2⟩
  · cases h1
  · injection h1 with e1 e2 e3
    injection e1 with e1
    subst e1
    unfold hiT
    by_cases he : cap = j
    · rw [if_pos he]
      have hnil : L.drop j = [] := List.drop_eq_nil_of_le (by omega)
      refine .inr ⟨⟨g, 0, none⟩, cap - j, by rw [hnil]; simp; omega, fun k u hk => ?_⟩
      rw [hnil] at hk
      simp at hk
    · rw [if_neg he]
      refine .inr ⟨⟨g, j, none⟩, cap - j, by rw [List.length_drop, hN], fun k u hk => ?_⟩
      rw [List.map_drop, List.getElem?_drop] at hk
      have := h2 _ u hk
      rw [Addr.add_lit] at this ⊢
      rw [Nat.zero_add] at this
      exact this

theorem foot_filter2 {g mo me : Nat} {O : List Sn} {p : Sn → Bool} : ∀ k, Foot g mo me (O.filter p) k → Foot g mo me O k := by
  rintro k (rfl | rfl | rfl | ⟨x, hx, rfl⟩)
  · exact .inl rfl
  · exact .inr (.inl rfl)
  · exact .inr (.inr (.inl rfl))
  · exact .inr (.inr (.inr ⟨x, (List.mem_filter.1 hx).1, rfl⟩))
theorem takes_O2 (s : CS) (k r n a : Int) (d : ByteArray) (now : Int) : (s.takes k r n a d now).O = s.O ∨ ∃ p : Sn → Bool, (s.takes k r n a d now).O = s.O.filter p := by
  have h1 : (s.hears r a now).O = s.O ∨ ∃ p : Sn → Bool, (s.hears r a now).O = s.O.filter p := by
    unfold CS.hears CS.acks
    split
    · exact .inl rfl
    · exact .inr ⟨_, rfl⟩
  have h2 : (s.takes k r n a d now).O = (s.hears r a now).O := by
    unfold CS.takes
    split
    · rfl
    · show (CS.nexts _).O = _
      unfold CS.nexts CS.keeps
      show (if _ then _ else _ : CS).O = _
      split <;> rfl
  rw [h2]
  exact h1

section
variable {W w : World} {x p : Nat} {g mo me : Nat → Nat} {rv : Nat → Value} {S : PS} {j : Nat}

theorem pair_tick (h : PAt W w x p g mo me rv S) (hj : j < 2) (hp : PInv (S.s j) 300) :
    Calls Try.prog 22 #[.pointer (some ⟨g j, 0, none⟩), .int .i64 S.now] w fun e w' => ∃ v, e = .returned v ∧ w'.ownsRow w.heap.size 9 1 v ((S.s j).outs S.now).length (((S.s j).outs S.now).map Value.string) ∧ PAt W w' x p g mo me rv { S with s := put S.s j ((S.s j).ticks S.now) } ∧ Only (Foot (g j) (mo j) (me j) (S.s j).O) w w' := by
  refine (etick_any w (g j) (mo j) (me j) (S.s j) S.now (h.e j hj) hp.ok hp.up).mono ?_
  rintro e w1 ⟨v, rfl, hrow, hc, hk1⟩
  refine ⟨v, rfl, hrow, h.call hj hk1 (fun _ h => h) hc ?_, hk1⟩
  rintro k (rfl | rfl | rfl | ⟨y, hy, rfl⟩)
  · exact .inl (.inl rfl)
  · exact .inl (.inr (.inl rfl))
  · exact .inl (.inr (.inr (.inl rfl)))
  · obtain ⟨z, hz, rfl⟩ := List.mem_map.1 hy
    exact .inl (.inr (.inr (.inr ⟨z, hz, (upd_key _ z).2.1⟩)))

theorem pair_take (h : PAt W w x p g mo me rv S) (hj : j < 2) (hp : PInv (S.s j) 300) (X : ByteArray) (hX : X.size ≤ 140737488355328) :
    Calls Try.prog 25 #[.pointer (some ⟨g j, 0, none⟩), .string X, .int .i64 S.now] w fun e w' => ∃ (v : Value) (c : Int), e = .returned (.tuple #[v, .int .i64 c]) ∧ w'.ownsRow w.heap.size 9 1 v (took (S.s j) X S.now).2.length ((took (S.s j) X S.now).2.map Value.string) ∧ PAt W w' x p g mo me rv { S with s := put S.s j (took (S.s j) X S.now).1 } ∧ Only (Foot (g j) (mo j) (me j) (S.s j).O) w w' := by
  by_cases hd : decB X = true ∧ numAt X 1 4 = (S.s j).epoch
  · obtain ⟨h1, h2⟩ := hd
    have hok := (decB_iff X).1 h1
    have hsh := letterB_bounds hok.shape
    have ht0 := hp.ok.t0
    have hl1 := hp.l1
    have hte := hp.te
    have htk : took (S.s j) X S.now = ((S.s j).takes (numAt X 0 1) (numAt X 5 1) (numAt X 6 4) (numAt X 10 4) (X.extract 16 (X.size - 4)) S.now, (S.s j).brings (numAt X 0 1) (numAt X 5 1) (numAt X 6 4) (numAt X 10 4) (X.extract 16 (X.size - 4)) S.now) := if_pos ⟨h1, h2⟩
    rw [htk]
    refine (take_letter w (g j) (mo j) (me j) (S.s j) X S.now (h.e j hj) hX hok h2 (fun x hx => (hp.low x hx).1) hp.a0 (by omega) ht0 (by omega) (by omega) ⟨by have := hp.ok.r1; omega, hp.ok.r2⟩ _ _ _ _ _ rfl rfl rfl rfl rfl hsh.2.2.1.1 (by have := hsh.2.2.1.2; omega) hsh.1).mono ?_
    rintro e w1 ⟨v, rfl, hrow, hc, hk1⟩
    have hS : ∀ k, (k = g j ∨ k = mo j ∨ k = me j) → Foot (g j) (mo j) (me j) (S.s j).O k := fun k hk => hk.elim .inl (fun e => .inr (e.elim .inl (fun e => .inr (.inl e))))
    refine ⟨v, 0, rfl, hrow, h.call hj hk1 hS hc ?_, hk1.mono (fun k _ hk => hS k hk)⟩
    intro k hk
    rcases takes_O2 (S.s j) (numAt X 0 1) (numAt X 5 1) (numAt X 6 4) (numAt X 10 4) (X.extract 16 (X.size - 4)) S.now with e | ⟨q, e⟩
    · rw [e] at hk
      exact .inl hk
    · rw [e] at hk
      exact .inl (foot_filter2 k hk)
  · have htk : took (S.s j) X S.now = (S.s j, []) := if_neg hd
    rw [htk, put_same]
    by_cases h1 : DecOk X
    · have h2 : ¬ numAt X 1 4 = (S.s j).epoch := fun e => hd ⟨(decB_iff X).2 h1, e⟩
      refine (take_epoch w (g j) (mo j) (me j) (S.s j) X S.now (h.e j hj) hX h1 h2).mono ?_
      rintro e w1 ⟨rfl, hk1⟩
      exact ⟨_, 260, rfl, World.ownsRow_nil _ _ _ _, h.keep hk1, hk1.mono (fun _ _ h => h.elim)⟩
    · refine (take_bad w (g j) X S.now hX h1).mono ?_
      rintro e w1 ⟨rfl, hk1⟩
      exact ⟨_, 240, rfl, World.ownsRow_nil _ _ _ _, h.keep hk1, hk1.mono (fun _ _ h => h.elim)⟩

/-- What Send answers and leaves: refused, or a letter. -/
def sendX (s : CS) (d : ByteArray) (now : Int) : ByteArray := if s.room ≤ s.O.length then ⟨#[]⟩ else (s.ticked now).letter 1 (s.last + 1) d
def sendC (s : CS) : Int := if s.room ≤ s.O.length then 150 else 0
def sendsTo (s s' : CS) (d : ByteArray) (now : Int) : Prop := (s.room ≤ s.O.length → s' = s) ∧ (¬ s.room ≤ s.O.length → ∃ b, s' = s.sent d now b)
theorem pair_send (h : PAt W w x p g mo me rv S) (hj : j < 2) (hp : PInv (S.s j) 300) (d : ByteArray) (hd : d.size ≤ 4096) :
    Calls Try.prog 28 #[.pointer (some ⟨g j, 0, none⟩), .string d, .int .i64 S.now] w fun e w' => e = .returned (.tuple #[.string (sendX (S.s j) d S.now), .int .i64 (sendC (S.s j))]) ∧ (∃ s', sendsTo (S.s j) s' d S.now ∧ PAt W w' x p g mo me rv { S with s := put S.s j s' }) ∧ Only (Foot (g j) (mo j) (me j) (S.s j).O) w w' := by
  unfold sendX sendC
  by_cases h2 : (S.s j).room ≤ (S.s j).O.length
  · rw [if_pos h2, if_pos h2]
    refine (send_full w (g j) (mo j) (me j) (S.s j) d S.now (h.e j hj) hd h2).mono ?_
    rintro e w1 ⟨rfl, hk1⟩
    refine ⟨rfl, ⟨S.s j, ⟨fun _ => rfl, fun hn => absurd h2 hn⟩, ?_⟩, hk1.mono (fun _ _ h => h.elim)⟩
    rw [put_same]
    exact h.keep hk1
  · rw [if_neg h2, if_neg h2]
    have hl1 := hp.l1
    have hla := hp.la
    have h0 := hp.a0
    refine (send_any w (g j) (mo j) (me j) (S.s j) d S.now (h.e j hj) hp.ok hd (by omega) ⟨by omega, by omega⟩ (fun x hx => by have := (hp.low x hx).2; omega)).mono ?_
    rintro e w1 ⟨b, rfl, hc, hb, hk1⟩
    have hS : ∀ k, (k = g j ∨ k = mo j) → Foot (g j) (mo j) (me j) (S.s j).O k := fun k hk => hk.elim .inl (fun e => .inr (.inl e))
    refine ⟨rfl, ⟨_, ⟨fun hn => absurd hn h2, fun _ => ⟨b, rfl⟩⟩, h.call hj hk1 hS hc ?_⟩, hk1.mono (fun k _ hk => hS k hk)⟩
    rintro k (rfl | rfl | rfl | ⟨y, hy, rfl⟩)
    · exact .inl (.inl rfl)
    · exact .inl (.inr (.inl rfl))
    · exact .inl (.inr (.inr (.inl rfl)))
    · rcases List.mem_append.1 hy with h1 | h1
      · exact .inl (.inr (.inr (.inr ⟨y, h1, rfl⟩)))
      · simp only [List.mem_singleton] at h1
        subst h1
        exact .inr hb
end

end Go.Proofs.Yteifehienpeaiaa
