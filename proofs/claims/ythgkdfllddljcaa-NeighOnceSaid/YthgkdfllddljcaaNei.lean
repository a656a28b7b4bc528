/-
  The contracts of package neigh: its state; tick, fresh, Look.
  Conditions: numbers are of the kind int, the cache's own in their bounds; its own addresses are the address 10, or none.
-/
import Derived.Test.YthgkdfllddljcaaSweep
import Derived.StillTailTactics
set_option linter.unusedVariables false
set_option linter.unusedSimpArgs false
namespace Go.Proofs.Ythgkdfllddljcaa
open Go.RowKit
attribute [local go_sem] and_mask32

theorem und_int : Try.prog.underlying 3 = some (.int .i64) := by kernel_rfl
theorem und_kmap : Try.prog.underlying 60 = some (.map 3 74) := by kernel_rfl
theorem und_amap : Try.prog.underlying 61 = some (.map 3 69) := by kernel_rfl
theorem zero_known (w : World) : (zeroValue 74).run Try.prog w = .ok (heardV (0, 0)) w := by kernel_rfl
theorem zero_pasked (w : World) : (zeroValue 69).run Try.prog w = .ok (.pointer none) w := by kernel_rfl

/-- Who is asked for: its block; when, whether twice; the slice of what waits, and its numbers. -/
structure Asked where
  blk : Nat
  at_ : Int
  twice : Bool
  ws : Value
  L : List Int

/-- A cache's state; mine: is 10 an address of its own? -/
structure NS where
  mac : Int
  age : Int
  pat : Int
  room : Int
  waits : Int
  now : Int
  mine : Bool
  own : Value
  K : List (Int × Int × Int)
  A : List (Int × Asked)

def NS.cells (s : NS) (c d : Nat) : Array Value := #[.int .i64 s.mac, .int .i64 s.age, .int .i64 s.pat, .int .i64 s.room, .int .i64 s.waits, .int .i64 s.now, s.own, .map (some c), .map (some d)]
def encW (A : List (Int × Asked)) : List (Int × Value) := A.map fun p => (p.1, Value.pointer (some ⟨p.2.blk, 0, none⟩))

/-- A packet to an address, and its number, as the laws have them. -/
def pk (to i : Int) : List Value := [.int .i64 10, .int .i64 to, .int .i64 9, .int .i64 0, .int .i64 i, .int .i64 0, .bool false, .bool false, .string ⟨#[]⟩, .string ⟨#[]⟩]
def pks (to : Int) (L : List Int) : List Value := (L.map (pk to)).flatten

structure OwnAt (w : World) (v : Value) (mine : Bool) : Prop where
  yes : mine = true → ∃ b cap cur, v = .slice (some ⟨b, 0, none⟩) 1 cap ∧ 1 ≤ cap ∧ w.heap[b]? = some (.cells cur 3 (0, 0)) ∧ cur[0]? = some (.int .i64 10)
  no : mine = false → ∃ a cap, v = .slice a 0 cap

structure NAt (w : World) (g c d : Nat) (s : NS) : Prop where
  cell : w.heap[g]? = some (.cells (s.cells c d) 63 (0, 0))
  kmap : MapI w c (encH s.K)
  amap : MapI w d (encW s.A)
  own : OwnAt w s.own s.mine
  ask : ∀ p ∈ s.A, w.heap[p.2.blk]? = some (.cells #[.int .i64 p.2.at_, .bool p.2.twice, p.2.ws] 71 (0, 0))
  row : ∀ p ∈ s.A, w.ownsRow 0 47 10 p.2.ws p.2.L.length (pks p.1 p.2.L)
  dis : c ≠ d
  one : (s.A.map (·.2.blk)).Nodup
  two : ∀ p ∈ s.A, ∀ q ∈ s.A, ∀ b, p.2.ws.ownBlock = some b → q.2.ws.ownBlock = some b → p = q

/-- The blocks of a cache. -/
def NFoot (g c d : Nat) (s : NS) (k : Nat) : Prop := k = g ∨ k = c ∨ k = d ∨ s.own.ownBlock = some k ∨ ∃ p ∈ s.A, k = p.2.blk ∨ p.2.ws.ownBlock = some k

theorem row_only {w w' : World} {S : Nat → Prop} {B m n : Nat} {T : TypeId} {v : Value} {vs : List Value} (h : w.ownsRow B T m v n vs) (hk : Only S w w') (hn : ∀ b, v.ownBlock = some b → ¬ S b) : w'.ownsRow B T m v n vs := by
  obtain ⟨h1, ⟨rfl, h2⟩ | ⟨b, cap, cur, rfl, hb, hg, hc, hm, hs, ht⟩⟩ := h
  · exact ⟨h1, .inl ⟨rfl, h2⟩⟩
  · exact ⟨h1, .inr ⟨b, cap, cur, rfl, hb, hk.at hg (hn b rfl), hc, hm, hs, ht⟩⟩

theorem NAt.only {w w' : World} {g c d : Nat} {s : NS} {S : Nat → Prop} (h : NAt w g c d s) (hk : Only S w w') (hn : ∀ k, NFoot g c d s k → ¬ S k) : NAt w' g c d s := by
  refine ⟨hk.at h.cell (hn _ (.inl rfl)), h.kmap.only hk (hn _ (.inr (.inl rfl))), h.amap.only hk (hn _ (.inr (.inr (.inl rfl)))), ⟨fun e => ?_, h.own.no⟩, fun p hp => hk.at (h.ask p hp) (hn _ (.inr (.inr (.inr (.inr ⟨p, hp, .inl rfl⟩))))), fun p hp => row_only (h.row p hp) hk fun b hb => hn _ (.inr (.inr (.inr (.inr ⟨p, hp, .inr hb⟩)))), h.dis, h.one, h.two⟩
  obtain ⟨b, cap, cur, e1, e2, e3, e4⟩ := h.own.yes e
  exact ⟨b, cap, cur, e1, e2, hk.at e3 (hn _ (.inr (.inr (.inr (.inl (by rw [e1]; rfl)))))), e4⟩
theorem NAt.keep {w w' : World} {g c d : Nat} {s : NS} (h : NAt w g c d s) (hk : Only (fun _ => False) w w') : NAt w' g c d s := h.only hk (fun _ _ h => h)

theorem scheck_ok (a : Int) (w : World) (h0 : 0 ≤ a) (h1 : a < 4294967296) :
    Calls Try.prog 27 #[.int .i64 a] w fun e w' => e = .returned (.int .i64 0) ∧ w = w' := by
  have hm : (a % 4294967296 != a) = false := by simp; omega
  go_enter Try.func27, Try.ntmps27
  go_wp2
  go_ret
  exact ⟨rfl, rfl⟩

/-- A number of the cache's own block, stored. -/
theorem NAt.stored {w : World} {g c d : Nat} {s : NS} (h : NAt w g c d s) (n : Int) : NAt (w.setCell ⟨g, 5, none⟩ (.int .i64 n)) g c d { s with now := n } := by
  have hk := (Only.refl (fun k => k = g) w).setCell ⟨g, 5, none⟩ (.int .i64 n) (fun _ => rfl)
  refine ⟨by exact blk_set h.cell 5 (.int .i64 n), h.kmap.only hk ?_, h.amap.only hk ?_, ⟨fun e => ?_, h.own.no⟩, fun p hp => hk.at (h.ask p hp) ?_, fun p hp => row_only (h.row p hp) hk ?_, h.dis, h.one, h.two⟩
  · rintro rfl
    obtain ⟨es, cl, h1, _⟩ := h.kmap
    rw [h.cell] at h1; cases h1
  · rintro rfl
    obtain ⟨es, cl, h1, _⟩ := h.amap
    rw [h.cell] at h1; cases h1
  · obtain ⟨b, cap, cur, e1, e2, e3, e4⟩ := h.own.yes e
    refine ⟨b, cap, cur, e1, e2, hk.at e3 ?_, e4⟩
    rintro rfl
    rw [h.cell] at e3; simp at e3
  · intro e
    have h1 := h.ask p hp
    rw [e, h.cell] at h1; simp at h1
  · rintro b hb rfl
    obtain ⟨h1, ⟨h2, h3⟩ | ⟨b', cap, cur, h2, hb', hg, _⟩⟩ := h.row p hp
    · rw [h2] at hb; cases hb
    · rw [h2] at hb
      cases hb
      rw [h.cell] at hg; simp at hg

theorem tick_ok (w : World) (g c d : Nat) (s : NS) (now : Int) (h : NAt w g c d s) (h0 : s.now ≤ now) (h1 : now ≤ 1099511627776) :
    Calls Try.prog 22 #[.pointer (some ⟨g, 0, none⟩), .int .i64 now] w fun e w' => e = .returned (.int .i64 0) ∧ NAt w' g c d { s with now := now } ∧ Only (fun k => k = g) w w' := by
  have x5 := blk_cell h.cell 5
  have q5 := blk_free h.cell 5
  have hl := heap_lt h.cell
  simp only [NS.cells, List.getElem?_toArray, List.getElem?_cons_zero, List.getElem?_cons_succ] at x5
  have hs := h.stored now
  have hO := (Only.refl (fun k => k = g) w).setCell ⟨g, 5, none⟩ (.int .i64 now) (fun _ => rfl)
  clear h
  have HS := Lib.hid hs
  have HO := Lib.hid hO
  clear hs hO
  go_enter Try.func22, Try.ntmps22
  go_wp2_with fail
  go_ret
  exact ⟨rfl, HS.out, HO.out⟩

theorem fresh_any (w : World) (g c d : Nat) (s : NS) (k : Int × Int) (now : Int) (hg : w.heap[g]? = some (.cells (s.cells c d) 63 (0, 0))) (ha : 0 ≤ s.age) (ha2 : s.age ≤ 1048576) (h0 : 0 ≤ k.2) (h1 : k.2 ≤ 1099511627776) :
    Calls Try.prog 25 #[.pointer (some ⟨g, 0, none⟩), .agg #[.int .i64 k.1, .int .i64 k.2], .int .i64 now] w fun e w' => e = .returned (.bool (decide (now < k.2 + s.age))) ∧ Only (fun _ => False) w w' := by
  have x1 := blk_cell hg 1
  simp only [NS.cells, List.getElem?_toArray, List.getElem?_cons_zero, List.getElem?_cons_succ] at x1
  have hO := (Only.refl (fun _ => False) w).alloc (.cells #[.int .i64 k.1, .int .i64 k.2] 74)
  have hz := blk_new w (.cells #[.int .i64 k.1, .int .i64 k.2] 74)
  have z1 := blk_cell hz 1
  simp only [List.getElem?_toArray, List.getElem?_cons_zero, List.getElem?_cons_succ] at z1
  have y1 : (w.alloc (.cells #[.int .i64 k.1, .int .i64 k.2] 74)).cell? ⟨g, 1, none⟩ = some (.int .i64 s.age) := cell_only ((Only.refl (fun _ => False) w).alloc _) (fun h => h) x1
  clear x1 hg
  go_enter Try.func25, Try.ntmps25
  go_wp2_with fail
  generalize w.alloc (.cells #[.int .i64 k.1, .int .i64 k.2] 74) = wa at z1 y1 hO ⊢
  go_quiet (fail)
  go_wp2_with fail
  go_ret
  exact ⟨rfl, hO.drewN _⟩

structure NOk (s : NS) : Prop where
  a1 : 1 ≤ s.age
  a2 : s.age ≤ 1048576
  p1 : 1 ≤ s.pat
  p2 : s.pat ≤ 1048576
  n1 : 0 ≤ s.now
  n2 : s.now ≤ 1099511627776
  at0 : ∀ p ∈ s.K, 0 ≤ p.2.2 ∧ p.2.2 ≤ s.now

/-- The hardware address of a neighbour, if it is known. -/
def NS.find (s : NS) (a now : Int) : Option Int :=
  match lookH s.K a with
  | none => none
  | some h => if now < h.2 + s.age then some h.1 else none

theorem look_any (s : NS) (g c d : Nat) (w : World) (a now : Int) (hb : NAt w g c d s) (ho : NOk s) : Calls Try.prog 10 #[.pointer (some ⟨g, 0, none⟩), .int .i64 a, .int .i64 now] w fun e w' => e = .returned (.tuple #[.int .i64 ((s.find a now).getD 0), .bool (s.find a now).isSome]) ∧ Only (fun _ => False) w w' := by
  have x7 := blk_cell hb.cell 7
  simp only [NS.cells, List.getElem?_toArray, List.getElem?_cons_zero, List.getElem?_cons_succ] at x7
  have hm := hb.kmap
  have hcell := hb.cell
  have HCELL := Lib.hid hcell
  clear hcell
  cases hl : lookH s.K a with
  | none =>
    have hg : getI (encH s.K) a = none := by rw [getI_encH, hl]; rfl
    have hf : s.find a now = none := by unfold NS.find; rw [hl]
    rw [hf]
    clear hf hl hb
    go_enter Try.func10, Try.ntmps10
    go_wp2_with (at_lookup; refine wpList_look_I _ rfl _ _ 60 true rfl 3 74 und_kmap und_int _ (zero_known _) c _ rfl hm _ rfl ?_; rw [hg]; simp only [if_true, Option.getD_none, Option.isSome_none, heardV])
    go_ret2
    exact ⟨rfl, (Only.refl _ w).alloc _⟩
  | some h =>
    have hg : getI (encH s.K) a = some (heardV h) := by rw [getI_encH, hl]; rfl
    have hat := ho.at0 _ (lookH_mem hl)
    have hn2 := ho.n2
    have hf : s.find a now = if now < h.2 + s.age then some h.1 else none := by unfold NS.find; rw [hl]
    have HO := Lib.hid (Only.refl (fun _ => False) w)
    have ha1 := ho.a1
    have ha2 := ho.a2
    have hz := blk_new w (.cells #[.int .i64 h.1, .int .i64 h.2] 74)
    have z0 := blk_cell hz 0
    have z1 := blk_cell hz 1
    simp only [List.getElem?_toArray, List.getElem?_cons_zero, List.getElem?_cons_succ] at z0 z1
    by_cases hold : now < h.2 + s.age
    · rw [hf, if_pos hold]
      have hd : decide (now < h.2 + s.age) = true := by simpa using hold
      clear hf hl hold hb
      go_enter Try.func10, Try.ntmps10
      go_wp2_with (at_lookup; refine wpList_look_I _ rfl _ _ 60 true rfl 3 74 und_kmap und_int _ (zero_known _) c _ rfl hm _ rfl ?_; rw [hg]; simp only [if_true, Option.getD_some, Option.isSome_some, heardV])
      refine (fresh_any _ g c d s h now (blk_alloc HCELL.out _) (by omega) ha2 hat.1 (by omega)).mono ?_
      rintro e w1 ⟨rfl, hk⟩
      rw [hd]
      replace z0 := cell_only hk (fun h => h) z0
      go_wp2_with fail
      go_ret2
      exact ⟨rfl, (HO.out.alloc _).trans hk⟩
    · rw [hf, if_neg hold]
      have hd : decide (now < h.2 + s.age) = false := by simpa using hold
      clear hf hl hold hb
      go_enter Try.func10, Try.ntmps10
      go_wp2_with (at_lookup; refine wpList_look_I _ rfl _ _ 60 true rfl 3 74 und_kmap und_int _ (zero_known _) c _ rfl hm _ rfl ?_; rw [hg]; simp only [if_true, Option.getD_some, Option.isSome_some, heardV])
      refine (fresh_any _ g c d s h now (blk_alloc HCELL.out _) (by omega) ha2 hat.1 (by omega)).mono ?_
      rintro e w1 ⟨rfl, hk⟩
      rw [hd]
      go_wp2_with fail
      go_ret2
      exact ⟨rfl, (HO.out.alloc _).trans hk⟩

/-- Is an address one of its own? -/
theorem ncontains (w : World) (v : Value) (mine : Bool) (t : Int) (h : OwnAt w v mine) :
    Calls Try.prog 23 #[v, .int .i64 t] w fun e w' => e = .returned (.bool (mine && decide (t = 10))) ∧ w = w' := by
  cases mine with
  | false =>
    obtain ⟨a, cap, rfl⟩ := h.no rfl
    clear h
    go_enter Try.func23, Try.ntmps23
    go_wp2_with fail
    refine Calls.mono (R := fun e w' => e = .returned (.int .i64 (-1)) ∧ w = w') ?_ ?_
    · go_enter Try.func39, Try.ntmps39
      go_wp2_with fail
      go_loop [8] (fun i => i = .int .i64 0) (fun i => 0)
      case atStart => rfl
      case round =>
        subst hrel
        go_wp2_with fail
        go_ret
        exact ⟨rfl, rfl⟩
    · rintro e _ ⟨rfl, rfl⟩
      go_wp2_with fail
      go_ret
      exact ⟨rfl, rfl⟩
  | true =>
    obtain ⟨b, cap, cur, rfl, hc1, hb, hc0⟩ := h.yes rfl
    clear h
    have x0 := blk_cell hb 0
    rw [hc0] at x0
    have hl := heap_lt hb
    clear hb hc0
    go_enter Try.func23, Try.ntmps23
    go_wp2_with fail
    refine Calls.mono (R := fun e w' => e = .returned (.int .i64 (if t = 10 then 0 else -1)) ∧ w = w') ?_ ?_
    · go_enter Try.func39, Try.ntmps39
      go_wp2_with fail
      go_loop [8] (fun i => i = .int .i64 0 ∨ i = .int .i64 1 ∧ t ≠ 10) (fun i => 1 - (intOf i).toNat)
      case atStart => exact .inl rfl
      case round =>
        rcases hrel with rfl | ⟨rfl, ht⟩
        · by_cases ht : t = 10
          · subst ht
            go_wp2_with fail
            go_ret
            exact ⟨rfl, rfl⟩
          · have HT := Lib.hid ht
            go_wp2_with fail
            go_round
            case rel => exact .inr ⟨by go_num, HT.out⟩
            case measure => simp [intOf]
        · have HT := Lib.hid ht
          clear ht
          go_wp2_with fail
          go_ret
          exact ⟨rfl, rfl⟩
    · rintro e _ ⟨rfl, rfl⟩
      by_cases ht : t = 10
      · subst ht
        go_wp2_with fail
        go_ret
        exact ⟨rfl, rfl⟩
      · have hd : decide (t = 10) = false := by simpa using ht
        have HD := Lib.hid hd
        rw [if_neg ht]
        clear ht hd
        go_wp2_with fail
        go_ret
        exact ⟨by rw [HD.out]; rfl, rfl⟩

end Go.Proofs.Ythgkdfllddljcaa
