/-
  The bridge and the reference bridge in one state: Take, Down, Port, Known of both tell the same.
  Conditions: numbers are of the kind int.
-/
import Derived.Test.YtkmnjlegmgohfaaRefTake
import Derived.Test.YtkmnjlegmgohfaaLists
set_option linter.unusedVariables false
set_option linter.unusedSimpArgs false
set_option maxRecDepth 100000
namespace Go.Proofs.Ytkmnjlegmgohfaa
open Go.RowKit
attribute [local go_sem] max_ii min_ii min_iii

theorem new_bad (p a r : Int) (w : World) (h : ¬ (1 ≤ p ∧ p ≤ 16 ∧ 1 ≤ a ∧ a ≤ 1048576 ∧ 1 ≤ r ∧ r ≤ 1024)) : Calls Try.prog 7 #[.int .i64 p, .int .i64 a, .int .i64 r] w fun e w' => e = .returned (.tuple #[.pointer none, .int .i64 1]) ∧ w = w' := by
  by_cases hm : mn (mn p a) r < 1
  · have d1 : decide (mn (mn p a) r < 1) = true := decide_eq_true hm
    clear h
    go_enter Try.func7, Try.ntmps7
    go_wp2_with fail
    go_ret2
    exact ⟨rfl, rfl⟩
  · have hc : 16 < p ∨ (¬ 16 < p ∧ (1048576 < a ∨ (¬ 1048576 < a ∧ 1024 < r))) := by
      unfold mn at hm
      omega
    clear h
    have d1 : decide (mn (mn p a) r < 1) = false := decide_eq_false hm
    rcases hc with g1 | ⟨g1, g2 | ⟨g2, g3⟩⟩
    all_goals
      go_enter Try.func7, Try.ntmps7
      go_wp2_with fail
      go_ret2
      exact ⟨rfl, rfl⟩

theorem down_bad (s : BS) (c g : Nat) (w : World) (port : Int) (hb : BridgeAt w c g s) (hp : ¬ (0 ≤ port ∧ port < s.ports)) : Calls Try.prog 17 #[.pointer (some ⟨g, 0, none⟩), .int .i64 port] w fun e w' => e = .returned (.int .i64 100) ∧ w = w' := by
  have HB := Lib.hid hb
  have HP := Lib.hid hp
  clear hb hp
  go_enter Try.func17, Try.ntmps17
  go_wp2_with fail
  refine (portno_any s c g _ port HB.out).mono ?_
  rintro e _ ⟨rfl, rfl⟩
  rw [if_neg HP.out]
  go_wp2_with fail
  go_ret
  exact ⟨rfl, rfl⟩

theorem take_port (s : BS) (c g : Nat) (w : World) (port t f k now : Int) (d : ByteArray) (hb : BridgeAt w c g s) (hp : ¬ (0 ≤ port ∧ port < s.ports)) :
    Calls Try.prog 10 #[.pointer (some ⟨g, 0, none⟩), .int .i64 port, .agg #[.int .i64 t, .int .i64 f, .int .i64 k, .string d], .int .i64 now] w fun e w' => e = .returned (.tuple #[.slice none 0 0, .int .i64 100]) ∧ Only (fun _ => False) w w' := by
  have hO := (Only.refl (fun _ => False) w).alloc (.cells #[.int .i64 t, .int .i64 f, .int .i64 k, .string d] 30)
  have HB := Lib.hid (hb.only hO)
  have HP := Lib.hid hp
  clear hb hp
  go_enter Try.func10, Try.ntmps10
  go_wp2_with fail
  refine (portno_any s c g _ port HB.out).mono ?_
  rintro e _ ⟨rfl, rfl⟩
  rw [if_neg HP.out]
  go_wp2_with fail
  go_ret2
  exact ⟨rfl, hO⟩

theorem take_tick (s : BS) (c g : Nat) (w : World) (port t f k now : Int) (d : ByteArray) (hb : BridgeAt w c g s) (hp : 0 ≤ port ∧ port < s.ports) (hn : ¬ (s.now ≤ now ∧ now ≤ 1099511627776)) :
    Calls Try.prog 10 #[.pointer (some ⟨g, 0, none⟩), .int .i64 port, .agg #[.int .i64 t, .int .i64 f, .int .i64 k, .string d], .int .i64 now] w fun e w' => e = .returned (.tuple #[.slice none 0 0, .int .i64 1]) ∧ Only (fun _ => False) w w' := by
  have hO := (Only.refl (fun _ => False) w).alloc (.cells #[.int .i64 t, .int .i64 f, .int .i64 k, .string d] 30)
  have hb2 := hb.only hO
  have x3 := blk_cell hb2.1 3
  simp only [List.getElem?_toArray, List.getElem?_cons_zero, List.getElem?_cons_succ] at x3
  have HB := Lib.hid hb2
  have HP := Lib.hid hp
  have hc : now < s.now ∨ (¬ now < s.now ∧ 1099511627776 < now) := by omega
  clear hb hb2 hp hn
  rcases hc with h1 | ⟨h1, h2⟩
  all_goals
    go_enter Try.func10, Try.ntmps10
    go_wp2_with fail
    refine (portno_any s c g _ port HB.out).mono ?_
    rintro e _ ⟨rfl, rfl⟩
    rw [if_pos HP.out]
    go_wp2_with fail
    go_ret2
    exact ⟨rfl, hO⟩

set_option maxHeartbeats 1000000 in
set_option maxRecDepth 100000 in
theorem known_own (s : BS) (c g : Nat) (w : World) (now : Int) (h : BridgeAt w c g s) (ho : BOk s) (hw : ∀ p ∈ s.L, (Lit.int .i64 p.1).wf = true) (hl : s.L.length ≤ 1024) :
    Calls Try.prog 15 #[.pointer (some ⟨g, 0, none⟩), .int .i64 now] w fun e w' => ∃ v, e = .returned v ∧ OwnL w' w.heap.size v (s.known now) ∧ Only (fun _ => False) w w' := by
  have x4 := blk_cell h.1 4
  simp only [List.getElem?_toArray, List.getElem?_cons_zero, List.getElem?_cons_succ] at x4
  have H := Lib.hid h
  have HO := Lib.hid ho
  have hg := heap_lt h.1
  have hc := h.2.1.lt
  clear h ho
  go_enter Try.func15, Try.ntmps15
  go_wp2_with fail
  have hb0 := blk_alloc (blk_new w (.cells #[.pointer (some ⟨g, 0, none⟩)] 23)) (.cells #[.int .i64 now] 3)
  have hb1 := blk_new2 w (.cells #[.pointer (some ⟨g, 0, none⟩)] 23) (.cells #[.int .i64 now] 3)
  have hka := ((Only.refl (fun _ => False) w).alloc (.cells #[.pointer (some ⟨g, 0, none⟩)] 23)).alloc (.cells #[.int .i64 now] 3)
  have hcap : CapAt ((w.alloc (.cells #[.pointer (some ⟨g, 0, none⟩)] 23)).alloc (.cells #[.int .i64 now] 3)) w.heap.size (w.heap.size + 1) c g s now := ⟨blk_cell hb0 0, blk_cell hb1 0, H.out.only hka⟩
  have hsa : ((w.alloc (.cells #[.pointer (some ⟨g, 0, none⟩)] 23)).alloc (.cells #[.int .i64 now] 3)).heap.size = w.heap.size + 2 := by rw [World.size_alloc, World.size_alloc]
  generalize (w.alloc (.cells #[.pointer (some ⟨g, 0, none⟩)] 23)).alloc (.cells #[.int .i64 now] 3) = wa at hka hcap hsa ⊢
  clear hb0 hb1
  have HSA := Lib.hid hsa
  clear hsa
  have hma := hcap.at_.2.1
  have hwe : ∀ p ∈ encH s.L, (Lit.int .i64 p.1).wf = true := by
    intro p hp
    obtain ⟨y, hy, rfl⟩ := List.mem_map.1 hp
    exact hw y hy
  have hle : (encH s.L).length ≤ 1099511627776 := by unfold encH; rw [List.length_map]; omega
  refine (keys_any (some c) wa).mono ?_
  rintro e w1 ⟨rfl, rfl⟩
  go_wp2_with fail
  refine (sorted_any c (encH s.L) wa hma hwe hle).mono ?_
  rintro e w1 ⟨v, rfl, hrow, hk1⟩
  have hcap1 := hcap.only hk1 (fun h => h) (fun h => h) (fun h => h) (fun h => h)
  have hlen : (keysUp (encH s.L)).length = s.L.length := by unfold keysUp encH; simp
  have HLN := Lib.hid hlen
  clear hlen
  obtain ⟨hr1, ⟨rfl, h0⟩ | ⟨blk, cap, cur, rfl, hbb, hg1, hc1, hm1, hz1, ht1⟩⟩ := hrow
  · have hnil : keysUp (encH s.L) = [] := List.eq_nil_of_length_eq_zero h0
    have hkn : s.known now = [] := by unfold BS.known; rw [hnil]; rfl
    have HKN := Lib.hid hkn
    clear hkn hnil h0 hr1
    go_wp2_with fail
    refine (delete_nil s w.heap.size (w.heap.size + 1) c g w1 now hcap1 HO.out).mono ?_
    rintro e w2 ⟨rfl, hk2⟩
    go_wp2_with fail
    go_ret
    rw [HKN.out]
    exact ⟨_, rfl, OwnL.nil _ _, (hka.trans hk1).trans hk2⟩
  · have hsa := HSA.out
    have hlen := HLN.out
    have ht2 : ∀ k, k < (keysUp (encH s.L)).length → cur[k]? = some (.int .i64 ((keysUp (encH s.L)).getD k 0)) := by
      intro k hk
      have h1 : cur[k]? = (cur.toList.take ((keysUp (encH s.L)).length * 1))[k]? := by rw [List.getElem?_take, if_pos (by omega), Array.getElem?_toList]
      rw [h1, ht1, List.getElem?_map, List.getElem?_eq_getElem hk]
      simp [List.getD, hk]
    clear hsa hlen
    go_wp2_with fail
    have hsa := HSA.out
    have hlen := HLN.out
    refine (delete_any s w.heap.size (w.heap.size + 1) c g blk w1 now hcap1 HO.out cap _ cur hg1 (by rw [hz1]; omega) hc1 hm1 (by omega) ht2 (by omega)).mono ?_
    clear hsa hlen
    rintro e w2 ⟨rfl, ⟨cu, hq1, hq2, hq3⟩, hk2⟩
    go_wp2_with fail
    go_ret
    have hle1 : (s.known now).length ≤ cap := Nat.le_trans (List.length_filter_le _ _) hc1
    refine ⟨_, rfl, ⟨by rw [List.length_map, Nat.mul_one], .inr ⟨blk, cap, cu, rfl, by have := HSA.out; omega, hq1, hle1, hm1, by rw [hq2, Nat.mul_one], ?_⟩⟩, (hka.trans hk1).then hk2 (fun i hi e => by have := HSA.out; omega)⟩
    apply List.ext_getElem?
    intro n
    rw [Nat.mul_one, List.getElem?_take]
    by_cases hn : n < (s.known now).length
    · rw [if_pos hn, Array.getElem?_toList]
      have h3 := hq3 n hn
      rw [h3, List.getElem?_map, List.getElem?_eq_getElem hn]
      show some (Value.int IntKind.i64 ((s.known now).getD n 0)) = _
      rw [List.getD_eq_getElem?_getD, List.getElem?_eq_getElem hn]
      rfl
    · rw [if_neg hn, List.getElem?_eq_none (by rw [List.length_map]; omega)]

theorem OwnL.list {w : World} {B : Nat} {v : Value} {l : List Int} (h : OwnL w B v l) (hl : l.length ≤ 1099511627776) : ∃ a cap, v = .slice a l.length cap ∧ ListAt w a cap l ∧ ∀ ad : Addr, a = some ad → B ≤ ad.block := by
  obtain ⟨h1, ⟨rfl, h0⟩ | ⟨gb, cap, cur, rfl, h3, hg, hc, _, _, ht⟩⟩ := h
  · have : l = [] := List.eq_nil_of_length_eq_zero h0
    subst this
    exact ⟨none, 0, rfl, ListAt.nil _, fun ad e => by cases e⟩
  · exact ⟨_, cap, rfl, ListAt.block hg hc hl (by rwa [Nat.mul_one] at ht), fun ad e => by cases e; exact h3⟩

/-- The bridge and the reference in one state. -/
def Pair (w : World) (c g r : Nat) (s : BS) : Prop := BridgeAt w c g s ∧ RBAt w r s ∧ BOk s ∧ s.L.length ≤ 1024 ∧ ∀ p ∈ s.L, (Lit.int .i64 p.1).wf = true

theorem pair_ne {w : World} {c g r : Nat} {s s' : BS} (h : BridgeAt w c g s) (h' : RBAt w r s') : r ≠ c ∧ r ≠ g ∧ (∀ b cur, w.heap[b]? = some (.cells cur 74 (0, 0)) → b ≠ c ∧ b ≠ g) := by
  obtain ⟨hg, ⟨es, ck, hm, _⟩, hcg⟩ := h
  obtain ⟨v, base, hr, _⟩ := h'
  refine ⟨fun e => ?_, fun e => ?_, fun b cur hc => ⟨fun e => ?_, fun e => ?_⟩⟩
  · rw [e, hm] at hr
    cases hr
  · rw [e, hg] at hr
    injection hr with hr
    injection hr with _ hr
    revert hr
    decide
  · rw [e, hm] at hc
    cases hc
  · rw [e, hg] at hc
    injection hc with hc
    injection hc with _ hc
    revert hc
    decide

theorem BridgeAt.kept {w w' : World} {c g : Nat} {s : BS} {S : Nat → Prop} (h : BridgeAt w c g s) (hk : Only S w w') (h1 : ¬ S c) (h2 : ¬ S g) : BridgeAt w' c g s :=
  ⟨hk.at h.1 h2, h.2.1.only hk h1, h.2.2⟩
theorem BridgeAt.nodup {w : World} {c g : Nat} {s : BS} (h : BridgeAt w c g s) : (s.L.map Prod.fst).Nodup := by
  have := h.2.1.keys
  rwa [show (encH s.L).map Prod.fst = s.L.map Prod.fst from by simp [encH]] at this
theorem Pair.keep {w w' : World} {c g r : Nat} {s : BS} (h : Pair w c g r s) (hk : Only (fun _ => False) w w') : Pair w' c g r s := ⟨h.1.only hk, h.2.1.keep hk, h.2.2⟩
/-- What is new may turn. -/
theorem Pair.above {w w' : World} {c g r B : Nat} {s : BS} {S : Nat → Prop} (h : Pair w c g r s) (hk : Only S w w') (hc : ¬ S c) (hg : ¬ S g) (hr : ¬ S r) (hn : ∀ b cur, w.heap[b]? = some (.cells cur 74 (0, 0)) → ¬ S b) : Pair w' c g r s :=
  ⟨h.1.kept hk hc hg, h.2.1.only hk hr hn, h.2.2⟩

theorem Pair.spoil {w w' : World} {c g r B : Nat} {s : BS} {v : Value} {l : List Int} (h : Pair w c g r s) (ho : OwnL w B v l) (hk : Only (fun k => v.ownBlock = some k) w w') : Pair w' c g r s := by
  obtain ⟨⟨hg, ⟨es, ck, hm, _⟩, hcg⟩, ⟨v2, base, hr, _⟩, _⟩ := id h
  refine ⟨h.1.kept hk (fun e => ?_) (fun e => ?_), h.2.1.only hk (fun e => ?_) (fun b cur hc e => ?_), h.2.2⟩
  · obtain ⟨_, cur, h2⟩ := ho.block e
    rw [hm] at h2
    cases h2
  · obtain ⟨_, cur, h2⟩ := ho.block e
    rw [hg] at h2
    injection h2 with h2
    injection h2 with _ h2
    revert h2
    decide
  · obtain ⟨_, cur, h2⟩ := ho.block e
    rw [hr] at h2
    injection h2 with h2
    injection h2 with _ h2
    revert h2
    decide
  · obtain ⟨_, cur, h2⟩ := ho.block e
    rw [hc] at h2
    injection h2 with h2
    injection h2 with _ h2
    revert h2
    decide

theorem wf_mac {f : Int} (h : MacOk f) : (Lit.int .i64 f).wf = true := by
  obtain ⟨h0, h1⟩ := h
  simp [Lit.wf, IntKind.min, IntKind.max, IntKind.bits, IntKind.signed]; omega

theorem took_len (s : BS) (f port now : Int) (hl : s.L.length ≤ 1024) (hr : s.room ≤ 1024) : (s.took f port now).L.length ≤ 1024 := by
  have h1 : ((BS.kept { s with now := now } f)).length ≤ 1024 := Nat.le_trans (List.length_filter_le _ _) hl
  show (if (((BS.kept { s with now := now } f)).length : Int) < s.room then (BS.kept { s with now := now } f) ++ [(f, port, now)] else (BS.kept { s with now := now } f)).length ≤ 1024
  split
  · rw [List.length_append, List.length_singleton]; omega
  · exact h1
theorem took_wf (s : BS) (f port now : Int) (hw : ∀ p ∈ s.L, (Lit.int .i64 p.1).wf = true) (hf : (Lit.int .i64 f).wf = true) : ∀ p ∈ (s.took f port now).L, (Lit.int .i64 p.1).wf = true := by
  intro p hp
  have hp' : p ∈ (if (((BS.kept { s with now := now } f)).length : Int) < s.room then (BS.kept { s with now := now } f) ++ [(f, port, now)] else (BS.kept { s with now := now } f)) := hp
  have hk : ∀ q ∈ BS.kept { s with now := now } f, (Lit.int .i64 q.1).wf = true := fun q hq => hw q (List.mem_filter.1 hq).1
  split at hp'
  · rcases List.mem_append.1 hp' with h | h
    · exact hk p h
    · rw [List.mem_singleton] at h
      subst h
      exact hf
  · exact hk p hp'

theorem BOk.down {s : BS} (h : BOk s) (port : Int) : BOk (s.down port) :=
  ⟨h.p1, h.p2, h.a1, h.a2, h.r1, h.r2, h.n1, h.n2, fun p hp => h.at0 p (List.mem_filter.1 hp).1⟩

/-- What Down tells. -/
def dcode (s : BS) (port : Int) : Int := if 0 ≤ port ∧ port < s.ports then 0 else 100

theorem down_pair (w : World) (c g r : Nat) (s : BS) (port : Int) (h : Pair w c g r s) :
    Calls Try.prog 17 #[.pointer (some ⟨g, 0, none⟩), .int .i64 port] w fun e w1 => e = .returned (.int .i64 (dcode s port)) ∧ Only (fun k => k = c) w w1 ∧
      Calls Try.prog 18 #[.pointer (some ⟨r, 0, none⟩), .int .i64 port] w1 fun e w2 => ∃ s2, e = .returned (.int .i64 (dcode s port)) ∧ Pair w2 c g r s2 ∧ Only (fun k => k = r) w1 w2 := by
  obtain ⟨hb, hr, ho, hl, hw⟩ := h
  obtain ⟨n1, n2, n3⟩ := pair_ne hb hr
  unfold dcode
  by_cases hp : 0 ≤ port ∧ port < s.ports
  · rw [if_pos hp]
    refine (down_any s c g w port hb hp).mono ?_
    rintro e w1 ⟨rfl, hb1, hk1⟩
    have hr1 := hr.only hk1 n1 (fun b cur hc => (n3 b cur hc).1)
    refine ⟨rfl, hk1, ?_⟩
    refine (down_r w1 r s port hr1 hp hl).mono ?_
    rintro e w2 ⟨rfl, hr2, hk2⟩
    exact ⟨s.down port, rfl, ⟨hb1.kept hk2 (fun e => n1 e.symm) (fun e => n2 e.symm), hr2, ho.down port, Nat.le_trans (List.length_filter_le _ _) hl, fun p hp => hw p (List.mem_filter.1 hp).1⟩, hk2⟩
  · rw [if_neg hp]
    refine (down_bad s c g w port hb hp).mono ?_
    rintro e w1 ⟨rfl, rfl⟩
    refine ⟨rfl, Only.refl _ _, ?_⟩
    refine (down_r_bad w r s port hr hp).mono ?_
    rintro e w2 ⟨rfl, rfl⟩
    exact ⟨s, rfl, ⟨hb, hr, ho, hl, hw⟩, Only.refl _ _⟩

theorem take_pair (w : World) (c g r : Nat) (s : BS) (port t f k now : Int) (d : ByteArray) (h : Pair w c g r s) :
    Calls Try.prog 10 #[.pointer (some ⟨g, 0, none⟩), .int .i64 port, .agg #[.int .i64 t, .int .i64 f, .int .i64 k, .string d], .int .i64 now] w fun e w1 => ∃ (v : Value) (l : List Int) (cc : Int), e = .returned (.tuple #[v, .int .i64 cc]) ∧ OwnL w1 w.heap.size v l ∧ l.length ≤ 1024 ∧ Only (fun k => k = c ∨ k = g) w w1 ∧
      Calls Try.prog 19 #[.pointer (some ⟨r, 0, none⟩), .int .i64 port, .agg #[.int .i64 t, .int .i64 f, .int .i64 k, .string d], .int .i64 now] w1 fun e w2 => ∃ (v2 : Value) (s2 : BS), e = .returned (.tuple #[v2, .int .i64 cc]) ∧ OwnL w2 w1.heap.size v2 l ∧ Pair w2 c g r s2 ∧ Only (fun k => k = r) w1 w2 := by
  obtain ⟨hb, hr, ho, hl, hw⟩ := h
  obtain ⟨n1, n2, n3⟩ := pair_ne hb hr
  by_cases hp : 0 ≤ port ∧ port < s.ports
  · by_cases hn : s.now ≤ now ∧ now ≤ 1099511627776
    · by_cases hf : FrameOk t f k d
      · refine (take_ok s c g w port t f k now d hb ho hp hn.1 hn.2 hf).mono ?_
        rintro e w1 ⟨v, rfl, hown, hb1, hk1⟩
        have hr1 := hr.only hk1 (by omega) (fun b cur hc => by have := n3 b cur hc; omega)
        have ho2 : BOk (s.took f port now) := (ho.tick hn.1 hn.2).learn f port
        have hlen := roads_len port (groupB t) ((s.took f port now).find t now).isSome (((s.took f port now).find t now).getD 0) s.ports.toNat
        have hp2 := ho.p2
        refine ⟨v, _, _, rfl, hown, by omega, hk1, ?_⟩
        refine (take_r_ok s r w1 port t f k now d hr1 ho hb.nodup hl hb1.nodup (took_len s f port now hl ho.r2) hp hn.1 hn.2 hf).mono ?_
        rintro e w2 ⟨v2, rfl, hown2, hr2, hk2⟩
        exact ⟨v2, s.took f port now, rfl, hown2, ⟨hb1.kept hk2 (fun e => n1 e.symm) (fun e => n2 e.symm), hr2, ho2, took_len s f port now hl ho.r2, took_wf s f port now hw (wf_mac hf.fr)⟩, hk2⟩
      · refine (take_frame s c g w port t f k now d hb ho hp hn.1 hn.2 hf).mono ?_
        rintro e w1 ⟨rfl, hk1⟩
        refine ⟨_, [], _, rfl, OwnL.nil _ _, by simp, hk1.mono (fun _ _ h => h.elim), ?_⟩
        refine (take_r_frame s r w1 port t f k now d (hr.keep hk1) hp hn.1 hn.2 hf).mono ?_
        rintro e w2 ⟨rfl, hk2⟩
        exact ⟨_, s, rfl, OwnL.nil _ _, Pair.keep (Pair.keep ⟨hb, hr, ho, hl, hw⟩ hk1) hk2, hk2.mono (fun _ _ h => h.elim)⟩
    · refine (take_tick s c g w port t f k now d hb hp hn).mono ?_
      rintro e w1 ⟨rfl, hk1⟩
      refine ⟨_, [], _, rfl, OwnL.nil _ _, by simp, hk1.mono (fun _ _ h => h.elim), ?_⟩
      refine (take_r_tick s r w1 port t f k now d (hr.keep hk1) hp hn).mono ?_
      rintro e w2 ⟨rfl, hk2⟩
      exact ⟨_, s, rfl, OwnL.nil _ _, Pair.keep (Pair.keep ⟨hb, hr, ho, hl, hw⟩ hk1) hk2, hk2.mono (fun _ _ h => h.elim)⟩
  · refine (take_port s c g w port t f k now d hb hp).mono ?_
    rintro e w1 ⟨rfl, hk1⟩
    refine ⟨_, [], _, rfl, OwnL.nil _ _, by simp, hk1.mono (fun _ _ h => h.elim), ?_⟩
    refine (take_r_port s r w1 port t f k now d (hr.keep hk1) hp).mono ?_
    rintro e w2 ⟨rfl, hk2⟩
    exact ⟨_, s, rfl, OwnL.nil _ _, Pair.keep (Pair.keep ⟨hb, hr, ho, hl, hw⟩ hk1) hk2, hk2.mono (fun _ _ h => h.elim)⟩

end Go.Proofs.Ytkmnjlegmgohfaa
