/-
  TopLog's plain law: what holds at the head of a round, behind the sends, behind the letters; and that it ends.
  No conditions.
-/
import Derived.Test.YteifehienpeaiaaProtoLive
import Derived.Test.YteifehienpeaiaaEvent
set_option linter.unusedVariables false
set_option linter.unusedSimpArgs false
namespace Go.Proofs.Yteifehienpeaiaa
open Go.RowKit

theorem Took'.sub {b b' : CS} {l l' : List ByteArray} {nw ep : Int} (h : Took' b b' l nw ep) (hs : ∀ S ∈ l', S ∈ l) : Took' b b' l' nw ep :=
  ⟨h.up, h.last, h.acku, h.stay, h.bat, h.room, fun r n ak d hm => h.next r n ak d (hs _ hm), fun k r n ak d hm => h.ack k r n ak d (hs _ hm)⟩

/-- By the end of the tick d more is acknowledged. -/
structure Due (i : Int) (a b : CS) (d : Int) : Prop where
  low : i ≤ d
  idle : a.acked = a.last → i + 5 ≤ d
  way : a.acked < b.taken → b.bat ≤ d
  open_ : a.acked < a.last → b.taken = a.acked → i + 2 ≤ d ∧ ∃ x ∈ a.O, x.key = a.acked + 1 ∧ x.at_ + 5 ≤ d

/-- What holds at the head of a round: D was sent, T was brought. -/
structure LogInv (i : Int) (a b : CS) (D T : List ByteArray) : Prop where
  two : Two a b D [] [] T i 3 2 1
  ats : ∀ x ∈ a.O, x.at_ < i
  abat : a.bat ≤ i + 1
  bbat : b.bat ≤ i + 1

theorem Two.ends {a b : CS} {D T : List ByteArray} {i : Int} (h : Two a b D [] [] T i 3 2 1) (hi : i + 1 ≤ 1099511627776) : LogInv (i + 1) a b D T := by
  refine ⟨h.time (by omega) hi, fun x hx => ?_, ?_, ?_⟩
  · have := h.ea.ats x hx
    have := h.ea.n
    omega
  · have := h.ea.bat
    have := h.ea.n
    have := h.ea.b
    omega
  · have := h.eb.bat
    have := h.eb.n
    have := h.eb.b
    omega

theorem LogInv.any {i : Int} {a b : CS} {D T : List ByteArray} (h : LogInv i a b D T) : Due i a b (i + 5) := by
  refine ⟨by omega, fun _ => by omega, fun _ => by have := h.bbat; omega, fun h1 h2 => ⟨by omega, ?_⟩⟩
  obtain ⟨x, hx, hk⟩ := h.two.ab.all (a.acked + 1) (by omega) (by omega)
  exact ⟨x, hx, hk, by have := h.ats x hx; omega⟩

/-- What the sends of a round leave. -/
structure Sends (a a1 : CS) : Prop where
  last : a.last ≤ a1.last
  acked : a1.acked = a.acked
  bat : a1.bat = a.bat
  O : ∀ x ∈ a.O, x ∈ a1.O
  taken : a1.taken = a.taken
theorem Sends.refl (a : CS) : Sends a a := ⟨Int.le_refl _, rfl, rfl, fun _ h => h, rfl⟩
theorem Sends.sent {a a1 : CS} (h : Sends a a1) (d : ByteArray) (now : Int) (k : Nat) : Sends a (a1.sent d now k) := by
  refine ⟨?_, h.acked, h.bat, fun x hx => List.mem_append_left _ (h.O x hx), h.taken⟩
  show a.last ≤ a1.last + 1
  have := h.last
  omega

/-- A round. -/
structure Round (i : Int) (a b a1 a' b' : CS) (D' T' : List ByteArray) : Prop where
  sends : Sends a a1
  prog : Prog a1 b a' b' i 3
  ends : Two a' b' D' [] [] T' i 3 2 1
  abat : ¬ a.bat ≤ i → a'.bat ≤ mx a.bat i

theorem Due.round {i d : Int} {a b a1 a' b' : CS} {D T D' T' : List ByteArray} (h : Due i a b d) (hi : LogInv i a b D T) (hr : Round i a b a1 a' b' D' T') (hs : a.acked = a.last → a.last < a1.last) :
    a.acked + 1 ≤ a'.acked ∨ (a'.acked = a.acked ∧ Due (i + 1) a' b' d) := by
  have s2 := hr.sends.acked
  have p1 := hr.prog.up
  have p2 := hr.prog.last
  have p6 := hr.prog.acku
  have e1 := hr.ends.ab.ackT
  have e2 := hr.ends.ab.takL
  have e3 := hr.ends.eb.bat
  have e4 := hr.ends.eb.n
  have e5 := hr.ends.eb.b
  have e6 := hr.ends.ea.n
  have s1 := hr.sends.last
  have i1 := hi.two.ab.ackT
  have i2 := hi.two.ab.takL
  by_cases hp : a.acked + 1 ≤ a'.acked
  · exact .inl hp
  refine .inr ⟨by omega, ?_⟩
  have he : a'.acked = a.acked := by omega
  have hall : a'.acked < a'.last → b'.taken = a'.acked → ∃ x ∈ a'.O, x.key = a'.acked + 1 ∧ x.at_ ≤ i := by
    intro h1 h2
    obtain ⟨x, hx, hk⟩ := hr.ends.ab.all (a'.acked + 1) (by omega) (by omega)
    exact ⟨x, hx, hk, by have := hr.ends.ea.ats x hx; omega⟩
  by_cases h0 : a.acked = a.last
  · have hd := h.idle h0
    have hs := hs h0
    refine ⟨by omega, fun e => by omega, fun _ => by omega, fun h1 h2 => ⟨by omega, ?_⟩⟩
    obtain ⟨x, hx, hk, ha⟩ := hall h1 h2
    exact ⟨x, hx, hk, by omega⟩
  · by_cases hw : a.acked < b.taken
    · have hd := h.way hw
      by_cases hb : b.bat ≤ i
      · have := hr.prog.ack hb
        omega
      · have hb2 := hr.prog.bat hb
        exact ⟨by omega, fun e => by omega, fun _ => by omega, fun h1 h2 => by omega⟩
    · obtain ⟨hd, x, hx, hk, ha⟩ := h.open_ (by omega) (by omega)
      have hx1 := hr.sends.O x hx
      by_cases hdue : x.at_ + 3 ≤ i
      · have := hr.prog.due x hx1 (by omega) hdue
        exact ⟨by omega, fun e => by omega, fun _ => by omega, fun h1 h2 => by omega⟩
      · rcases hr.prog.stay x hx1 hdue with hs | hs
        · refine ⟨by omega, fun e => by omega, fun _ => by omega, fun h1 h2 => ⟨by omega, x, hs, by omega, ha⟩⟩
        · exact ⟨by omega, fun e => by omega, fun _ => by omega, fun h1 h2 => by omega⟩

/-- The clock of the whole: many letters went, and how far it is. -/
structure Clock (i many : Int) (a b : CS) : Prop where
  few : i ≤ 2 * many + 1
  bat : a.bat ≤ 2 * many + 1
  due : many < 60 ∨ ∃ d, d ≤ 125 + 6 * a.acked ∧ Due i a b d

/-- A round brings it on: m letters went; from sixty on none is lost (hr). -/
theorem Clock.step {i many many' : Int} {a b a1 a' b' : CS} {D T D' T' : List ByteArray} (h : Clock i many a b) (hi : LogInv i a b D T) (hi1 : i + 1 ≤ 1099511627776)
    (hm : many ≤ many') (hm1 : a.bat ≤ i → many + 1 ≤ many') (he : Two a' b' D' [] [] T' i 3 2 1) (hac : a.acked ≤ a'.acked) (hab : ¬ a.bat ≤ i → a'.bat ≤ mx a.bat i)
    (hr : 60 ≤ many → Round i a b a1 a' b' D' T' ∧ (a.acked = a.last → a.last < a1.last)) : Clock (i + 1) many' a' b' := by
  have k1 := h.few
  have k2 := h.bat
  have hl := he.ends hi1
  have hbt := hl.abat
  have hb3 : a'.bat ≤ i + 2 := by omega
  have h0 := hi.two.ab.ack0
  refine ⟨?_, ?_, ?_⟩
  · by_cases hb : a.bat ≤ i
    · have := hm1 hb
      omega
    · omega
  · by_cases hb : a.bat ≤ i
    · have := hm1 hb
      omega
    · have := hab hb
      unfold mx at this
      split at this <;> omega
  · by_cases hc : many' < 60
    · exact .inl hc
    refine .inr ?_
    by_cases hc0 : many < 60
    · exact ⟨i + 1 + 5, by omega, hl.any⟩
    · obtain ⟨d, hd, hdue⟩ := h.due.resolve_left hc0
      obtain ⟨hr1, hr2⟩ := hr (by omega)
      rcases hdue.round hi hr1 hr2 with h1 | ⟨h1, h2⟩
      · have := hdue.low
        exact ⟨i + 1 + 5, by omega, hl.any⟩
      · exact ⟨d, by omega, h2⟩

/-- Four hundred rounds are too many. -/
theorem Clock.over {i many : Int} {a b : CS} (h : Clock i many a b) (ha : a.acked ≤ 30) : i ≤ 310 := by
  have := h.few
  rcases h.due with h1 | ⟨d, h1, h2⟩
  · omega
  · have := h2.low
    omega


/-! ### Fates -/
/-- How often the letter m comes. -/
def repOf (fl : Nat → Int) (n m : Nat) : Nat := if m < n ∧ m < 60 then (if fl m % 3 = 0 then 1 else if fl m % 3 = 1 then 0 else 2) else 1
def expd (rep : Nat → Nat) : Nat → List ByteArray → List ByteArray
  | _, [] => []
  | m, S :: l => List.replicate (rep m) S ++ expd rep (m + 1) l
theorem expd_snoc (rep : Nat → Nat) : ∀ (l : List ByteArray) (m : Nat) (S : ByteArray), expd rep m (l ++ [S]) = expd rep m l ++ List.replicate (rep (m + l.length)) S
  | [], m, S => by simp [expd]
  | X :: l, m, S => by
    show List.replicate (rep m) X ++ expd rep (m + 1) (l ++ [S]) = (List.replicate (rep m) X ++ expd rep (m + 1) l) ++ _
    rw [expd_snoc rep l (m + 1) S, List.append_assoc, List.length_cons, show m + 1 + l.length = m + (l.length + 1) by omega]
theorem expd_sub (rep : Nat → Nat) : ∀ (l : List ByteArray) (m : Nat), ∀ S ∈ expd rep m l, S ∈ l
  | [], m, S, h => h
  | X :: l, m, S, h => by
    rcases List.mem_append.1 (show S ∈ List.replicate (rep m) X ++ expd rep (m + 1) l from h) with h | h
    · rw [(List.mem_replicate.1 h).2]
      exact List.mem_cons_self
    · exact List.mem_cons_of_mem _ (expd_sub rep l (m + 1) S h)
theorem expd_all (rep : Nat → Nat) : ∀ (l : List ByteArray) (m : Nat), (∀ k, m ≤ k → rep k = 1) → expd rep m l = l
  | [], m, h => rfl
  | X :: l, m, h => by
    show List.replicate (rep m) X ++ expd rep (m + 1) l = X :: l
    rw [h m (Nat.le_refl _), expd_all rep l (m + 1) (fun k hk => h k (by omega))]
    rfl
theorem repOf_late (fl : Nat → Int) (n : Nat) {k : Nat} (h : 60 ≤ k) : repOf fl n k = 1 := if_neg (by omega)

/-! ### Chunks of a log -/
structure Chunks (L : List EV) (C : List (List EV)) (given : Nat) : Prop where
  flat : C.flatten = L.take given
  le : given ≤ L.length
  one : ∀ c ∈ C, 1 ≤ c.length ∧ (encAll c).size ≤ 4096
theorem Chunks.len {L : List EV} {C : List (List EV)} {n : Nat} (h : Chunks L C n) : C.length ≤ n := by
  have h1 : ∀ D : List (List EV), (∀ c ∈ D, 1 ≤ c.length) → D.length ≤ D.flatten.length := by
    intro D
    induction D with
    | nil => intro _; exact Nat.le_refl _
    | cons c D ih =>
      intro hD
      have := ih (fun x hx => hD x (List.mem_cons_of_mem _ hx))
      have := hD c List.mem_cons_self
      rw [List.flatten_cons, List.length_append, List.length_cons]
      omega
  have h2 := h1 C (fun c hc => (h.one c hc).1)
  rw [h.flat, List.length_take] at h2
  omega
theorem Chunks.snoc {L : List EV} {C : List (List EV)} {n k : Nat} (h : Chunks L C n) (h1 : 1 ≤ k) (h2 : n + k ≤ L.length) (h3 : (encAll ((L.drop n).take k)).size ≤ 4096) : Chunks L (C ++ [(L.drop n).take k]) (n + k) := by
  refine ⟨?_, h2, fun c hc => ?_⟩
  · rw [List.flatten_append, h.flat, List.take_add]
    simp
  · rcases List.mem_append.1 hc with hc | hc
    · exact h.one c hc
    · rw [List.mem_singleton.1 hc]
      exact ⟨by rw [List.length_take, List.length_drop]; omega, h3⟩
theorem Chunks.nil (L : List EV) : Chunks L [] 0 := ⟨rfl, Nat.zero_le _, fun c hc => by cases hc⟩

/-- What is got in the midst of a chunk is a beginning of the log. -/
theorem Chunks.next {L : List EV} {C : List (List EV)} {n : Nat} (h : Chunks L C n) {m p : Nat} {c : List EV} {x : EV} (hc : C[m]? = some c) (hx : c[p]? = some x) :
    (C.take m).flatten ++ c.take p = L.take ((C.take m).flatten ++ c.take p).length ∧ L[((C.take m).flatten ++ c.take p).length]? = some x := by
  obtain ⟨hm, rfl⟩ := List.getElem?_eq_some_iff.1 hc
  obtain ⟨hp, rfl⟩ := List.getElem?_eq_some_iff.1 hx
  have e1 : C = C.take m ++ C[m] :: C.drop (m + 1) := by rw [← List.drop_eq_getElem_cons hm, List.take_append_drop]
  have e2 : C[m] = C[m].take p ++ C[m][p] :: C[m].drop (p + 1) := by rw [← List.drop_eq_getElem_cons hp, List.take_append_drop]
  have e3 : L = ((C.take m).flatten ++ C[m].take p) ++ C[m][p] :: (C[m].drop (p + 1) ++ (C.drop (m + 1)).flatten ++ L.drop n) := by
    have f1 := h.flat
    have f2 : C.flatten = ((C.take m).flatten ++ C[m].take p) ++ C[m][p] :: (C[m].drop (p + 1) ++ (C.drop (m + 1)).flatten) := by
      have : C.flatten = (C.take m).flatten ++ (C[m] ++ (C.drop (m + 1)).flatten) := by
        conv => lhs; rw [e1]
        rw [List.flatten_append, List.flatten_cons]
      rw [this]
      conv => lhs; rw [e2]
      simp only [List.append_assoc, List.cons_append]
    rw [f1] at f2
    conv => lhs; rw [← List.take_append_drop n L, f2]
    simp only [List.append_assoc, List.cons_append]
  generalize (C.take m).flatten ++ C[m].take p = P at *
  generalize C[m][p] = y at *
  generalize C[m].drop (p + 1) ++ (C.drop (m + 1)).flatten ++ L.drop n = R at *
  subst e3
  exact ⟨by rw [List.take_left], by rw [List.getElem?_append_right (Nat.le_refl _), Nat.sub_self]; rfl⟩

/-! ### The head of a round -/
def end0 (role : Int) : CS := ⟨5, 3, 2, 1, role, 0, 0, 0, 0, 0, 0, 0, 0, 0, [], []⟩

structure HInv (i : Nat) (L : List EV) (a b : CS) (C : List (List EV)) (given many : Nat) (T : List ByteArray) (G : List EV) : Prop where
  live : LogInv i a b (C.map encAll) T
  clock : Clock i many a b
  chunks : Chunks L C given
  got : G = (C.take T.length).flatten
  room : a.room = 5
  nd : many < 60 ∨ ¬ (given = L.length ∧ a.last = a.acked)

theorem two_start : Two (end0 4) (end0 1) [] [] [] [] 0 3 2 1 := by
  have one : ∀ r, 0 ≤ r → r ≤ 5 → EInv (end0 r) 0 3 2 1 := by
    intro r h0 h1
    have hp := PInv.new (room := 5) (wait := 3) (beat := 2) (epoch := 1) (role := r) (mark := 0) (now := 0) ⟨⟨⟨by decide, by decide⟩, ⟨by decide, by decide⟩, ⟨by decide, by decide⟩⟩, by decide, by decide, by unfold roleB; simp; omega, by decide, by decide⟩
    exact ⟨hp.mono (by decide), fun q hq => (by cases hq), rfl, rfl, rfl, by show (0 : Int) ≤ 0; decide, fun x hx => (by cases hx), by show (0 : Int) ≤ 0 + 2; decide, by show (0 : Int) ≤ 5; decide⟩
  have dir : ∀ r r', Dir (end0 r) (end0 r') [] [] := by
    intro r r'
    exact ⟨rfl, by show (0 : Int) ≤ 0; decide, by show (0 : Int) ≤ 0; decide, by show (0 : Int) ≤ 0; decide, fun n h1 h2 => by
      replace h1 : (0 : Int) < n := h1
      replace h2 : n ≤ (0 : Int) := h2
      omega, fun x hx => (by cases hx), fun q hq => (by cases hq), rfl⟩
  exact ⟨one 4 (by decide) (by decide), one 1 (by decide) (by decide), dir 4 1, dir 1 4, by decide, by decide, by decide, by decide⟩
theorem HInv.start (L : List EV) : HInv 0 L (end0 4) (end0 1) [] 0 0 [] [] := by
  refine ⟨⟨two_start, fun x hx => (by cases hx), by show (0 : Int) ≤ _; decide, by show (0 : Int) ≤ _; decide⟩, ⟨by decide, by show (0 : Int) ≤ _; decide, .inl (by decide)⟩, Chunks.nil L, rfl, rfl, .inl (by decide)⟩

/-! ### The sends of a round -/
structure SInv (i : Nat) (L : List EV) (a b : CS) (C : List (List EV)) (given : Nat) (T : List ByteArray) (a1 : CS) (C1 : List (List EV)) (given1 : Nat) (M : List ByteArray) : Prop where
  two : Two a1 b (C1.map encAll) [] [] T i 3 2 1
  sends : Sends a a1
  chunks : Chunks L C1 given1
  lets : ∀ S ∈ M, LetIn (C1.map encAll) a.taken 1 S
  room : a1.room = 5
  some : (a1 = a ∧ given1 = given) ∨ a.last < a1.last
  pre : ∃ X, C1 = C ++ X
  many : M.length ≤ given1

theorem HInv.sends {i : Nat} {L : List EV} {a b : CS} {C : List (List EV)} {given many : Nat} {T : List ByteArray} {G : List EV} (h : HInv i L a b C given many T G) : SInv i L a b C given T a C given [] :=
  ⟨h.live.two, .refl a, h.chunks, fun S hS => (by cases hS), h.room, .inl ⟨rfl, rfl⟩, ⟨[], (List.append_nil _).symm⟩, Nat.zero_le _⟩

section
variable {i : Nat} {L : List EV} {a b : CS} {C : List (List EV)} {given : Nat} {T : List ByteArray} {a1 : CS} {C1 : List (List EV)} {given1 : Nat} {M : List ByteArray}

theorem SInv.sent (h : SInv i L a b C given T a1 C1 given1 M) (hL : L.length ≤ 30) {k : Nat} (h1 : 1 ≤ k) (h2 : given1 + k ≤ L.length) (h3 : (encAll ((L.drop given1).take k)).size ≤ 4096) (hf : ¬ a1.room ≤ a1.O.length) (blk : Nat) :
    SInv i L a b C given T (a1.sent (encAll ((L.drop given1).take k)) i blk) (C1 ++ [(L.drop given1).take k]) (given1 + k) (M ++ [(a1.ticked i).letter 1 (a1.last + 1) (encAll ((L.drop given1).take k))]) := by
  have hl := h.chunks.len
  have hle := h.chunks.le
  obtain ⟨t1, t2⟩ := h.two.sent (encAll ((L.drop given1).take k)) h3 (by omega) (by rw [List.length_map]; omega) blk
  have e : (C1 ++ [(L.drop given1).take k]).map encAll = C1.map encAll ++ [encAll ((L.drop given1).take k)] := by rw [List.map_append]; rfl
  obtain ⟨X, hX⟩ := h.pre
  refine ⟨by rw [e]; exact t1, h.sends.sent _ _ _, h.chunks.snoc h1 h2 h3, fun S hS => ?_, h.room, .inr ?_, ⟨X ++ [(L.drop given1).take k], by rw [hX, List.append_assoc]⟩, by rw [List.length_append]; have := h.many; simp only [List.length_cons, List.length_nil]; omega⟩
  · rw [e]
    rcases List.mem_append.1 hS with hS | hS
    · exact (h.lets S hS).mono ⟨_, rfl⟩ (Int.le_refl _)
    · rw [List.mem_singleton.1 hS, ← h.sends.taken]
      exact t2
  · show a.last < a1.last + 1
    have := h.sends.last
    omega
end

/-! ### The letters of a round -/
section
variable {i : Nat} {L : List EV} {a b : CS} {C : List (List EV)} {given many : Nat} {T : List ByteArray} {G : List EV} {a1 : CS} {C1 : List (List EV)} {given1 : Nat} {M : List ByteArray}

/-- Behind the ticks: what goes there, and back. -/
theorem SInv.ticked (h : SInv i L a b C given T a1 C1 given1 M) : Two (a1.ticks i) (b.ticks i) (C1.map encAll) [] [] T i 3 2 1 ∧ (∀ S ∈ M ++ a1.outs i, LetIn (C1.map encAll) (a1.ticks i).taken 1 S) ∧ (∀ S ∈ b.outs i, LetIn [] (b.ticks i).taken 1 S) := by
  obtain ⟨h1, o1⟩ := h.two.tick
  obtain ⟨h2, o2⟩ := h1.swap.tick
  refine ⟨h2.swap, fun S hS => ?_, o2⟩
  have ht : (a1.ticks i).taken = a1.taken := rfl
  rcases List.mem_append.1 hS with hS | hS
  · rw [ht, h.sends.taken]
    exact h.lets S hS
  · rw [ht]
    exact o1 S hS

/-- Behind some letters that went there. -/
theorem there_some {a2 b1 : CS} {D : List ByteArray} {i : Nat} (h : Two a2 b1 D [] [] T i 3 2 1) {X : List ByteArray} (hX : ∀ S ∈ X, LetIn D a2.taken 1 S) :
    Two a2 (takeAll (b1, T) X i).1 D [] [] (takeAll (b1, T) X i).2 i 3 2 1 ∧ Took' b1 (takeAll (b1, T) X i).1 X i 1 := Two.takeAll X b1 T h hX
/-- Behind some letters that went back. -/
theorem back_some {a2 b2 : CS} {D T2 : List ByteArray} {i : Nat} (h : Two a2 b2 D [] [] T2 i 3 2 1) {X : List ByteArray} (hX : ∀ S ∈ X, LetIn [] b2.taken 1 S) :
    Two (takeAll (a2, []) X i).1 b2 D [] [] T2 i 3 2 1 ∧ Took' a2 (takeAll (a2, []) X i).1 X i 1 := by
  obtain ⟨h1, h2⟩ := Two.takeAll X a2 [] h.swap hX
  have hg : (takeAll (a2, []) X i).2 = [] := by
    have := h1.ab.got
    simpa using this
  rw [hg] at h1
  exact ⟨h1.swap, h2⟩

theorem beat_out {s : CS} {i : Int} (hn : s.now ≤ i) (h1 : i ≤ 1099511627776) (hb : s.bat ≤ i) : 1 ≤ (s.outs i).length := by
  unfold CS.outs
  rw [ticked_now hn h1, if_pos hb, List.length_append]
  simp

/-- A round, from head to head. -/
theorem HInv.next (h : HInv i L a b C given many T G) (hs : SInv i L a b C given T a1 C1 given1 M) (hL : L.length ≤ 30) (hi : i < 400) (hex : given1 = L.length ∨ a1.room ≤ a1.O.length)
    (rep : Nat → Nat) (hrep : ∀ k, 60 ≤ k → rep k = 1) {a' b' : CS} {T' : List ByteArray} (hb' : takeAll (b.ticks i, T) (expd rep many (M ++ a1.outs i)) i = (b', T'))
    (ha' : (takeAll (a1.ticks i, []) (expd rep (many + (M ++ a1.outs i).length) (b.outs i)) i).1 = a') {G' : List EV} (hG : G' = (C1.take T'.length).flatten) (hnd : ¬ (given1 = L.length ∧ a'.last = a'.acked)) :
    HInv (i + 1) L a' b' C1 given1 (many + (M ++ a1.outs i).length + (b.outs i).length) T' G' := by
  obtain ⟨t0, l0, l1⟩ := hs.ticked
  obtain ⟨t1, k1⟩ := there_some t0 (X := expd rep many (M ++ a1.outs i)) (fun S hS => l0 S (expd_sub rep _ _ S hS))
  rw [hb'] at t1 k1
  simp only at t1 k1
  have hup : (b.ticks i).taken ≤ b'.taken := k1.up
  obtain ⟨t2, k2⟩ := back_some t1 (X := expd rep (many + (M ++ a1.outs i).length) (b.outs i)) (fun S hS => (l1 S (expd_sub rep _ _ S hS)).mono ⟨[], rfl⟩ hup)
  rw [ha'] at t2 k2
  have hi1 : ((i : Int)) + 1 ≤ 1099511627776 := by omega
  have habat : ¬ a.bat ≤ i → a'.bat ≤ mx a.bat i := by
    intro hn
    have hb1 := hs.sends.bat
    have e1 : (a1.ticks i).bat = a.bat := by
      show (if a1.bat ≤ (a1.ticked i).now then _ else a1.bat) = a.bat
      rw [ticked_now hs.two.ea.n hs.two.n1, hb1, if_neg hn]
    rcases k2.bat with e | e
    · rw [e, e1]; unfold mx; split <;> omega
    · rw [e]; unfold mx; split <;> omega
  have hacu : a.acked ≤ a'.acked := by
    have h1 : (a1.ticks i).acked ≤ a'.acked := k2.acku
    have h2 : (a1.ticks i).acked = a1.acked := rfl
    have := hs.sends.acked
    omega
  refine ⟨?_, ?_, hs.chunks, hG, ?_, .inr hnd⟩
  · have := t2.ends hi1
    rw [show ((i + 1 : Nat) : Int) = (i : Int) + 1 from by push_cast; rfl]
    exact this
  · rw [show ((i + 1 : Nat) : Int) = (i : Int) + 1 from by push_cast; rfl]
    refine h.clock.step h.live hi1 (a1 := a1) (by push_cast; omega) (fun hb => ?_) t2 hacu habat (fun hm => ⟨⟨hs.sends, ?_, t2, habat⟩, fun hidle => ?_⟩)
    · have hb1 := hs.sends.bat
      have h1 := beat_out (s := a1) (i := i) hs.two.ea.n hs.two.n1 (by omega)
      rw [List.length_append]
      push_cast
      omega
    · have hm' : 60 ≤ many := by omega
      have e1 := expd_all rep (M ++ a1.outs i) many (fun k hk => hrep k (by omega))
      have e2 := expd_all rep (b.outs i) (many + (M ++ a1.outs i).length) (fun k hk => hrep k (by omega))
      rw [e1] at k1
      rw [e2] at k2
      exact hs.two.prog (Wa := []) (Wb := []) (fun S hS => (by cases hS)) (fun S hS => (by cases hS)) rfl rfl (k2.sub (fun S hS => by simpa using hS)) (k1.sub (fun S hS => List.mem_append_right _ (by simpa using hS))) t2.ab.ackT
    · rcases hs.some with ⟨e1, e2⟩ | e
      · exfalso
        subst e1
        have hO : a1.O.length = 0 := by
          cases hO : a1.O with
          | nil => rfl
          | cons x l =>
            have := hs.two.ab.low x (by rw [hO]; exact List.mem_cons_self)
            omega
        have hr := hs.room
        rcases h.nd with h1 | h1
        · omega
        · rcases hex with h2 | h2
          · exact h1 ⟨by omega, hidle.symm⟩
          · omega
      · exact e
  · rw [k2.room]
    exact hs.room

/-- It ends. -/
theorem HInv.over (h : HInv 400 L a b C given many T G) (hL : L.length ≤ 30) : False := by
  have hl := h.chunks.len
  have hle := h.chunks.le
  have h1 := h.live.two.ab.ackT
  have h2 := h.live.two.ab.takL
  have h3 := h.live.two.ab.last
  rw [List.length_map] at h3
  have := h.clock.over (by omega)
  omega

/-- Once all is acknowledged all is got. -/
theorem all_got {a' b' : CS} {T' : List ByteArray} {i : Nat} {G' : List EV} (hc : Chunks L C1 given1) (ht : Two a' b' (C1.map encAll) [] [] T' i 3 2 1) (hG : G' = (C1.take T'.length).flatten) (h1 : given1 = L.length) (h2 : a'.last = a'.acked) : G' = L := by
  have g1 := ht.ab.got
  have g2 := ht.ab.last
  have g3 := ht.ab.ackT
  have g4 := ht.ab.takL
  have hl : T'.length = C1.length := by
    rw [g1, List.length_take]
    rw [List.length_map] at g2 ⊢
    omega
  rw [hG, hl, List.take_length, hc.flat, h1, List.take_length]
end

end Go.Proofs.Yteifehienpeaiaa
