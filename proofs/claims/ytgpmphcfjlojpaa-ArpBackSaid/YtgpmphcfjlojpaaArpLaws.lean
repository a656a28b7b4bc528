/-
  The plain law of ARP's bytes: what is written is read, and what is read is written.
  No program, no conditions.
-/
import Derived.Test.YtgpmphcfjlojpaaArpCode
set_option linter.unusedVariables false
set_option linter.unusedSimpArgs false
namespace Go.Proofs.Ytgpmphcfjlojpaa

/-- What a string's bytes are, from which a packet's numbers are read. -/
def arpNums (op fm fi tm ti : Int) : List Int := [0, 1, 8, 0, 6, 4] ++ (be 2 op ++ (be 6 fm ++ (be 4 fi ++ (be 6 tm ++ be 4 ti))))
theorem arpNums_length (op fm fi tm ti : Int) : (arpNums op fm fi tm ti).length = 28 := by
  unfold arpNums
  simp only [List.length_append, be_length, List.length_cons, List.length_nil]

theorem nums_head : nums arpHead = [0, 1, 8, 0, 6, 4] := by decide +kernel
theorem nums_arpText (op fm fi tm ti : Int) : nums (arpText op fm fi tm ti) = arpNums op fm fi tm ti := by
  unfold arpText arpNums
  simp only [nums_append, nums_textOf, nums_head, List.append_assoc]
theorem arpText_size (op fm fi tm ti : Int) : (arpText op fm fi tm ti).size = 28 := by
  rw [← nums_length, nums_arpText, arpNums_length]

theorem numAt_app (s : ByteArray) {a k : Nat} (A B R : List Int) (h : nums s = A ++ (B ++ R)) (ha : A.length = a) (hk : B.length = k) : numAt s a k = numOf B := by
  subst ha hk
  unfold numAt
  rw [h, List.drop_left, List.take_left]

theorem arp_reads (s : ByteArray) (R : List Int) (op fm fi tm ti : Int) (hs : nums s = arpNums op fm fi tm ti ++ R) (h : ArpOk op fm fi tm ti) :
    numAt s 6 2 = op ∧ numAt s 8 6 = fm ∧ numAt s 14 4 = fi ∧ numAt s 18 6 = tm ∧ numAt s 24 4 = ti ∧ s.extract 0 6 = ⟨#[0, 1, 8, 0, 6, 4]⟩ := by
  have b0 : 0 ≤ op ∧ op < 65536 := by rcases h.op with rfl | rfl <;> omega
  have b1 := h.fr
  have b2 := h.fi
  have b3 := h.to
  have b4 := h.ti
  unfold MacOk at b1 b3
  unfold IpOk at b2 b4
  unfold arpNums at hs
  refine ⟨?_, ?_, ?_, ?_, ?_, ?_⟩
  · rw [numAt_app (a := 6) (k := 2) s [0, 1, 8, 0, 6, 4] (be 2 op) _ (by rw [hs]; simp only [List.append_assoc]; rfl) rfl (be_length _ _)]
    exact numOf_be 2 op b0.1 (by omega)
  · rw [numAt_app (a := 8) (k := 6) s ([0, 1, 8, 0, 6, 4] ++ be 2 op) (be 6 fm) _ (by rw [hs]; simp only [List.append_assoc]; rfl) (by simp [be_length]) (be_length _ _)]
    exact numOf_be 6 fm b1.1 (by omega)
  · rw [numAt_app (a := 14) (k := 4) s ([0, 1, 8, 0, 6, 4] ++ (be 2 op ++ be 6 fm)) (be 4 fi) _ (by rw [hs]; simp only [List.append_assoc]; rfl) (by simp [be_length]) (be_length _ _)]
    exact numOf_be 4 fi b2.1 (by omega)
  · rw [numAt_app (a := 18) (k := 6) s ([0, 1, 8, 0, 6, 4] ++ (be 2 op ++ (be 6 fm ++ be 4 fi))) (be 6 tm) _ (by rw [hs]; simp only [List.append_assoc]; rfl) (by simp [be_length]) (be_length _ _)]
    exact numOf_be 6 tm b3.1 (by omega)
  · rw [numAt_app (a := 24) (k := 4) s ([0, 1, 8, 0, 6, 4] ++ (be 2 op ++ (be 6 fm ++ (be 4 fi ++ be 6 tm)))) (be 4 ti) R (by rw [hs]; simp only [List.append_assoc]) (by simp [be_length]) (be_length _ _)]
    exact numOf_be 4 ti b4.1 (by omega)
  · apply nums_inj
    rw [nums_extract, hs, show nums ⟨#[0, 1, 8, 0, 6, 4]⟩ = [0, 1, 8, 0, 6, 4] from nums_head, List.drop_zero]
    simp only [List.append_assoc]
    exact List.take_left' rfl

theorem be_takeA (l : List Int) (k : Nat) (h : k ≤ l.length) (hb : ∀ c ∈ l, 0 ≤ c ∧ c ≤ 255) : be k (numOf (l.take k)) = l.take k := by
  have := be_numOf (l.take k) (fun c hc => hb c (List.mem_of_mem_take hc))
  rwa [List.length_take_of_le h] at this

theorem arp_back (s : ByteArray) (h0 : 28 ≤ s.size) (hp : s.extract 0 6 = ⟨#[0, 1, 8, 0, 6, 4]⟩) :
    arpText (numAt s 6 2) (numAt s 8 6) (numAt s 14 4) (numAt s 18 6) (numAt s 24 4) = s.extract 0 28 := by
  apply nums_inj
  have hl := nums_length s
  have hb := nums_bounds s
  have hd : ∀ n, ∀ c ∈ (nums s).drop n, 0 ≤ c ∧ c ≤ 255 := fun n c hc => hb c (List.mem_of_mem_drop hc)
  have he : (nums s).take 6 = [0, 1, 8, 0, 6, 4] := by
    have := congrArg nums hp
    rw [nums_extract, List.drop_zero] at this
    rw [this]
    exact nums_head
  rw [nums_arpText, nums_extract, List.drop_zero]
  unfold arpNums numAt
  rw [← he, be_takeA _ 2 (by rw [List.length_drop]; omega) (hd _), be_takeA _ 6 (by rw [List.length_drop]; omega) (hd _), be_takeA _ 4 (by rw [List.length_drop]; omega) (hd _), be_takeA _ 6 (by rw [List.length_drop]; omega) (hd _), be_takeA _ 4 (by rw [List.length_drop]; omega) (hd _)]
  show _ = (nums s).take (6 + (2 + (6 + (4 + (6 + 4)))))
  simp only [List.take_add, List.drop_drop]

end Go.Proofs.Ytgpmphcfjlojpaa
