/-
  The walk of the law TopLog: a log goes over.
  Conditions: numbers are of the kind int; strings within the form's reach.
-/
import Derived.Test.YteifehienpeaiaaTopLoop1
import Derived.Test.YteifehienpeaiaaTopLoop2
import Derived.Test.YteifehienpeaiaaOpen
set_option linter.unusedVariables false
set_option linter.unusedSimpArgs false
set_option maxRecDepth 100000
namespace Go.Proofs.Yteifehienpeaiaa
open Go.RowKit

theorem log_new (w : World) : LogAt (w.alloc (.cells #[.slice none 0 0] 116)) w.heap.size w.heap.size (.slice none 0 0) [] :=
  ⟨blk_new w _, World.ownsRow_nil _ _ _ _⟩

theorem carries_any (w : World) : Calls Try.prog 34 #[] w fun e w' => e = .returned (.bool true) ∧ Only (fun _ => False) w w' := by
  have hl := log_new w
  have hO := (Only.refl (fun _ => False) w).alloc (.cells #[.slice none 0 0] 116)
  have hc0 : crcV ⟨#[]⟩ = 0 := by decide
  go_enter Try.func34, Try.ntmps34
  go_wp2_with fail
  refine (new_log w).mono ?_
  rintro e w1 ⟨rfl, rfl⟩
  generalize w.alloc (.cells #[.slice none 0 0] 116) = w1 at *
  generalize w.heap.size = g at *
  go_wp2_with fail
  refine (len_any w1 g g _ [] hl).mono ?_
  rintro e w2 ⟨rfl, rfl⟩
  simp only [List.length_nil]
  go_wp2_with fail
  refine (crc_any ⟨#[]⟩ _ (by decide)).mono ?_
  rintro e w3 ⟨rfl, hk⟩
  rw [hc0]
  go_wp2_with fail
  go_ret
  exact ⟨rfl, hO.trans hk⟩

theorem ev_cells {cs : List Value} (h : CellsAre [.i, .i, .s] cs) : ∃ x : EV, cs = x.cells ∧ x.data.size ≤ reachB := by
  obtain ⟨a, _, rfl, _, h1⟩ := h.i
  obtain ⟨b, _, rfl, _, h2⟩ := h1.i
  obtain ⟨c, _, rfl, hc, h3⟩ := h2.s
  obtain rfl := h3.nil
  exact ⟨⟨a, b, c⟩, rfl, hc⟩
instance : Inhabited EV := ⟨⟨0, 0, ⟨#[]⟩⟩⟩
theorem int_cells {cs : List Value} (h : CellsAre [.i] cs) : ∃ x : Int, cs = [.int .i64 x] ∧ (Lit.int .i64 x).wf = true := by
  obtain ⟨a, _, rfl, ha, h1⟩ := h.i
  obtain rfl := h1.nil
  exact ⟨a, rfl, ha⟩

theorem tw_start {W w1 w2 w3 w4 : World} {g mo me : Nat → Nat} (hW1 : w1 = W.alloc (.cells #[.slice none 0 0] 116)) (hW2 : w2 = w1.alloc (.cells #[.slice none 0 0] 116))
    (h0 : EndAt w3 (g 0) (mo 0) (me 0) (end0 4)) (a0 : w2.heap.size ≤ g 0) (a1 : w2.heap.size ≤ mo 0) (a2 : w2.heap.size ≤ me 0) (k3 : Only (fun _ => False) w2 w3)
    (h1 : EndAt w4 (g 1) (mo 1) (me 1) (end0 1)) (b0 : w3.heap.size ≤ g 1) (b1 : w3.heap.size ≤ mo 1) (b2 : w3.heap.size ≤ me 1) (k4 : Only (fun _ => False) w3 w4) :
    TW W w4 g mo me W.heap.size w1.heap.size (.slice none 0 0) (.slice none 0 0) (sOf (end0 4) (end0 1)) [] [] := by
  have s1 : w1.heap.size = W.heap.size + 1 := by rw [hW1, World.size_alloc]
  have s2 : w2.heap.size = W.heap.size + 2 := by rw [hW2, World.size_alloc, s1]
  have s3 := k3.size
  have hO2 : Only (fun _ => False) W w2 := by rw [hW2, hW1]; exact ((Only.refl _ W).alloc _).alloc _
  have hO4 := (hO2.trans k3).trans k4
  have hl1 : w2.heap[W.heap.size]? = some (.cells #[.slice none 0 0] 116 (0, 0)) := by
    rw [hW2]
    exact blk_alloc (by rw [hW1]; exact blk_new W _) _
  have hl2 : w2.heap[w1.heap.size]? = some (.cells #[.slice none 0 0] 116 (0, 0)) := by
    rw [hW2]
    exact blk_new w1 _
  have lt0 := h0.lt
  refine ⟨fun j hj => ?_, fun k k0 k1 => ?_, ⟨k4.at (k3.at hl1 (fun h => h)) (fun h => h), World.ownsRow_nil _ _ _ _⟩, ⟨k4.at (k3.at hl2 (fun h => h)) (fun h => h), World.ownsRow_nil _ _ _ _⟩, by omega, fun k hk => (by cases hk), fun j hj k hf => ?_, Nat.le_refl _, by omega, hO4⟩
  · have : j = 0 ∨ j = 1 := by omega
    rcases this with rfl | rfl
    · exact h0.keep k4
    · exact h1
  · have := lt0 k k0
    replace k1 : Foot (g 1) (mo 1) (me 1) [] k := k1
    rcases k1 with rfl | rfl | rfl | ⟨x, hx, _⟩
    · omega
    · omega
    · omega
    · cases hx
  · have : j = 0 ∨ j = 1 := by omega
    rcases this with rfl | rfl
    · replace hf : Foot (g 0) (mo 0) (me 0) [] k := hf
      rcases hf with rfl | rfl | rfl | ⟨x, hx, _⟩
      · omega
      · omega
      · omega
      · cases hx
    · replace hf : Foot (g 1) (mo 1) (me 1) [] k := hf
      rcases hf with rfl | rfl | rfl | ⟨x, hx, _⟩
      · omega
      · omega
      · omega
      · cases hx

set_option maxHeartbeats 16000000 in
theorem topLog_walk (W : World) (v : Value) (n : Nat) (f : Nat → List Value) (h : SlIs W [.i, .i, .s] v n f) (size : Int) (wsize : (Lit.int .i64 size).wf = true) (v2 : Value) (n2 : Nat) (f2 : Nat → List Value) (h2 : SlIs W [.i] v2 n2 f2) :
    Calls Try.prog 9 #[v, .int .i64 size, v2] W fun e W' => e = .returned (.bool true) ∧ Below W.heap.size W W' := by
  obtain ⟨⟨a, cap, rfl, hle, hat⟩, hcells, hsmall, _, _⟩ := h
  obtain ⟨pa, hpa⟩ := Deep.choose_lt (fun i hi => ev_cells (hcells i hi))
  have HPA := Lib.hid hpa
  have HAT := Lib.hid hat
  obtain ⟨⟨a2, cap2, rfl, hle2, hat2⟩, hcells2, hsmall2, _, _⟩ := h2
  obtain ⟨fl, hfl⟩ := Deep.choose_lt (fun i hi => int_cells (hcells2 i hi))
  have HFL := Lib.hid hfl
  have HAT2 := Lib.hid hat2
  clear hcells hpa hat hcells2 hfl hat2
  simp only [List.length_cons, List.length_nil, reachB] at hsmall hsmall2
  go_enter Try.func9, Try.ntmps9
  go_wp2_with fail
  refine (new_log W).mono ?_
  rintro e w1 ⟨rfl, hW1⟩
  have HW1 := Lib.hid hW1
  clear hW1
  go_wp2_with fail
  refine (new_log w1).mono ?_
  rintro e w2 ⟨rfl, hW2⟩
  have HW2 := Lib.hid hW2
  clear hW2
  go_wp2_with fail
  refine (end_new w2 5 3 2 1 4 0 0 ⟨by decide, by decide⟩ ⟨by decide, by decide⟩ ⟨by decide, by decide⟩ ⟨by decide, by decide⟩ ⟨by decide, by decide⟩ ⟨by decide, by decide⟩ ⟨by decide, by decide⟩).mono ?_
  rintro e w3 ⟨g0, mo0, me0, rfl, hE0, a00, a01, a02, hk3⟩
  go_wp2_with fail
  refine (end_new w3 5 3 2 1 1 0 0 ⟨by decide, by decide⟩ ⟨by decide, by decide⟩ ⟨by decide, by decide⟩ ⟨by decide, by decide⟩ ⟨by decide, by decide⟩ ⟨by decide, by decide⟩ ⟨by decide, by decide⟩).mono ?_
  rintro e w4 ⟨g1, mo1, me1, rfl, hE1, b00, b01, b02, hk4⟩
  obtain ⟨g, rfl, rfl⟩ : ∃ g : Nat → Nat, g 0 = g0 ∧ g 1 = g1 := ⟨fun j => if j = 0 then g0 else g1, rfl, rfl⟩
  obtain ⟨mo, rfl, rfl⟩ : ∃ g : Nat → Nat, g 0 = mo0 ∧ g 1 = mo1 := ⟨fun j => if j = 0 then mo0 else mo1, rfl, rfl⟩
  obtain ⟨me, rfl, rfl⟩ : ∃ g : Nat → Nat, g 0 = me0 ∧ g 1 = me1 := ⟨fun j => if j = 0 then me0 else me1, rfl, rfl⟩
  have HT := Lib.hid (tw_start HW1.out HW2.out hE0 a00 a01 a02 hk3 hE1 b00 b01 b02 hk4)
  clear HW1 HW2 hE0 a00 a01 a02 hk3 hE1 b00 b01 b02 hk4
  generalize W.heap.size = lg at HT ⊢
  generalize w1.heap.size = gg at HT ⊢
  go_wp2_with fail
  refine (carries_any w4).mono ?_
  rintro e w5 ⟨rfl, hk5⟩
  have HT5 := Lib.hid (HT.out.keep hk5)
  clear HT hk5
  go_wp2_with fail
  refine loop1 _ W w5 g mo me lg gg _ _ _ a n cap pa rfl rfl rfl rfl rfl (by omega) hle (fun k hk => ?_) HT5.out ?_
  · obtain ⟨b, off, e1, _, hat⟩ := HAT.out (by omega)
    obtain ⟨he, hds⟩ := HPA.out k hk
    refine ⟨b, off, e1, fun j u hj => ?_, by simp only [reachB] at hds; omega⟩
    have hj3 : j < 3 := (List.getElem?_eq_some_iff.1 hj).1
    have := hat k hk j hj3
    rw [he] at this
    exact this.trans hj
  rintro ⟨tm, df⟩ w6 L lv hsz' hdf' hK' hL30 hLok hL3 hT6
  have HT6 := Lib.hid hT6
  have HLO := Lib.hid hLok
  have HL3 := Lib.hid hL3
  have HFL2 : Hid (∀ k, k < n2 → ∃ b off, a2 = some ⟨b, off, none⟩ ∧ W.cell? ⟨b, off + k, none⟩ = some (.int .i64 (fl k)) ∧ (Lit.int .i64 (fl k)).wf = true) := Lib.hid (fun k hk => by
    obtain ⟨b, off, e1, _, hat⟩ := HAT2.out (by omega)
    obtain ⟨he, hwf⟩ := HFL.out k hk
    have := hat k hk 0 (by decide)
    rw [he] at this
    refine ⟨b, off, e1, ?_, hwf⟩
    simpa using this)
  clear hT6 hLok hL3 HT5 HAT HPA HAT2 HFL
  simp only at hsz'
  replace hdf' : df = [] := hdf'
  subst hdf'
  have q1 : tm.getD 1 undef = .int .i64 size := AllEq.get hK' 1 (by decide)
  have q2 : tm.getD 2 undef = .slice a2 n2 cap2 := AllEq.get hK' 2 (by decide)
  have q7 : tm.getD 7 undef = .pointer (some ⟨lg, 0, none⟩) := AllEq.get hK' 7 (by decide)
  have q8 : tm.getD 8 undef = .pointer (some ⟨gg, 0, none⟩) := AllEq.get hK' 8 (by decide)
  have q9 : tm.getD 9 undef = .pointer (some ⟨g 0, 0, none⟩) := AllEq.get hK' 9 (by decide)
  have q11 : tm.getD 11 undef = .pointer (some ⟨g 1, 0, none⟩) := AllEq.get hK' 11 (by decide)
  have he : tm = #[tm.getD 0 undef, tm.getD 1 undef, tm.getD 2 undef, tm.getD 3 undef, tm.getD 4 undef, tm.getD 5 undef, tm.getD 6 undef, tm.getD 7 undef, tm.getD 8 undef, tm.getD 9 undef, tm.getD 10 undef, tm.getD 11 undef, tm.getD 12 undef, tm.getD 13 undef, tm.getD 14 undef, tm.getD 15 undef, tm.getD 16 undef, tm.getD 17 undef, tm.getD 18 undef, tm.getD 19 undef, tm.getD 20 undef, tm.getD 21 undef, tm.getD 22 undef, tm.getD 23 undef, tm.getD 24 undef, tm.getD 25 undef, tm.getD 26 undef, tm.getD 27 undef, tm.getD 28 undef, tm.getD 29 undef, tm.getD 30 undef, tm.getD 31 undef, tm.getD 32 undef, tm.getD 33 undef, tm.getD 34 undef, tm.getD 35 undef, tm.getD 36 undef, tm.getD 37 undef, tm.getD 38 undef, tm.getD 39 undef, tm.getD 40 undef, tm.getD 41 undef, tm.getD 42 undef, tm.getD 43 undef, tm.getD 44 undef, tm.getD 45 undef, tm.getD 46 undef, tm.getD 47 undef, tm.getD 48 undef, tm.getD 49 undef, tm.getD 50 undef, tm.getD 51 undef, tm.getD 52 undef, tm.getD 53 undef, tm.getD 54 undef, tm.getD 55 undef, tm.getD 56 undef, tm.getD 57 undef, tm.getD 58 undef, tm.getD 59 undef, tm.getD 60 undef, tm.getD 61 undef, tm.getD 62 undef, tm.getD 63 undef, tm.getD 64 undef, tm.getD 65 undef, tm.getD 66 undef, tm.getD 67 undef, tm.getD 68 undef, tm.getD 69 undef, tm.getD 70 undef, tm.getD 71 undef, tm.getD 72 undef, tm.getD 73 undef, tm.getD 74 undef, tm.getD 75 undef, tm.getD 76 undef, tm.getD 77 undef, tm.getD 78 undef, tm.getD 79 undef, tm.getD 80 undef, tm.getD 81 undef, tm.getD 82 undef, tm.getD 83 undef, tm.getD 84 undef, tm.getD 85 undef, tm.getD 86 undef, tm.getD 87 undef, tm.getD 88 undef, tm.getD 89 undef, tm.getD 90 undef, tm.getD 91 undef, tm.getD 92 undef, tm.getD 93 undef, tm.getD 94 undef, tm.getD 95 undef, tm.getD 96 undef, tm.getD 97 undef, tm.getD 98 undef, tm.getD 99 undef, tm.getD 100 undef, tm.getD 101 undef, tm.getD 102 undef, tm.getD 103 undef, tm.getD 104 undef, tm.getD 105 undef, tm.getD 106 undef, tm.getD 107 undef, tm.getD 108 undef, tm.getD 109 undef, tm.getD 110 undef, tm.getD 111 undef, tm.getD 112 undef, tm.getD 113 undef, tm.getD 114 undef, tm.getD 115 undef, tm.getD 116 undef, tm.getD 117 undef, tm.getD 118 undef, tm.getD 119 undef, tm.getD 120 undef, tm.getD 121 undef, tm.getD 122 undef, tm.getD 123 undef, tm.getD 124 undef, tm.getD 125 undef, tm.getD 126 undef, tm.getD 127 undef, tm.getD 128 undef, tm.getD 129 undef, tm.getD 130 undef, tm.getD 131 undef, tm.getD 132 undef, tm.getD 133 undef, tm.getD 134 undef, tm.getD 135 undef, tm.getD 136 undef, tm.getD 137 undef, tm.getD 138 undef, tm.getD 139 undef, tm.getD 140 undef, tm.getD 141 undef, tm.getD 142 undef, tm.getD 143 undef, tm.getD 144 undef, tm.getD 145 undef, tm.getD 146 undef, tm.getD 147 undef, tm.getD 148 undef, tm.getD 149 undef, tm.getD 150 undef, tm.getD 151 undef, tm.getD 152 undef, tm.getD 153 undef, tm.getD 154 undef, tm.getD 155 undef, tm.getD 156 undef, tm.getD 157 undef, tm.getD 158 undef, tm.getD 159 undef, tm.getD 160 undef, tm.getD 161 undef, tm.getD 162 undef, tm.getD 163 undef, tm.getD 164 undef, tm.getD 165 undef, tm.getD 166 undef, tm.getD 167 undef, tm.getD 168 undef, tm.getD 169 undef, tm.getD 170 undef, tm.getD 171 undef, tm.getD 172 undef, tm.getD 173 undef, tm.getD 174 undef, tm.getD 175 undef, tm.getD 176 undef, tm.getD 177 undef, tm.getD 178 undef, tm.getD 179 undef, tm.getD 180 undef, tm.getD 181 undef, tm.getD 182 undef, tm.getD 183 undef, tm.getD 184 undef, tm.getD 185 undef, tm.getD 186 undef, tm.getD 187 undef, tm.getD 188 undef, tm.getD 189 undef, tm.getD 190 undef, tm.getD 191 undef, tm.getD 192 undef, tm.getD 193 undef, tm.getD 194 undef, tm.getD 195 undef, tm.getD 196 undef, tm.getD 197 undef, tm.getD 198 undef, tm.getD 199 undef, tm.getD 200 undef, tm.getD 201 undef, tm.getD 202 undef, tm.getD 203 undef, tm.getD 204 undef, tm.getD 205 undef, tm.getD 206 undef, tm.getD 207 undef, tm.getD 208 undef, tm.getD 209 undef, tm.getD 210 undef, tm.getD 211 undef, tm.getD 212 undef, tm.getD 213 undef, tm.getD 214 undef, tm.getD 215 undef, tm.getD 216 undef, tm.getD 217 undef, tm.getD 218 undef, tm.getD 219 undef, tm.getD 220 undef, tm.getD 221 undef, tm.getD 222 undef, tm.getD 223 undef, tm.getD 224 undef, tm.getD 225 undef, tm.getD 226 undef, tm.getD 227 undef, tm.getD 228 undef, tm.getD 229 undef, tm.getD 230 undef, tm.getD 231 undef, tm.getD 232 undef, tm.getD 233 undef, tm.getD 234 undef, tm.getD 235 undef, tm.getD 236 undef, tm.getD 237 undef, tm.getD 238 undef, tm.getD 239 undef, tm.getD 240 undef, tm.getD 241 undef, tm.getD 242 undef, tm.getD 243 undef, tm.getD 244 undef, tm.getD 245 undef, tm.getD 246 undef, tm.getD 247 undef, tm.getD 248 undef, tm.getD 249 undef, tm.getD 250 undef, tm.getD 251 undef, tm.getD 252 undef, tm.getD 253 undef] := arr_eta (n := 254) hsz'
  rw [he, q1, q2, q7, q8, q9, q11]
  clear he hK' hsz' q1 q2 q7 q8 q9 q11
  generalize tm.getD 0 undef = x0
  generalize tm.getD 3 undef = x3
  generalize tm.getD 4 undef = x4
  generalize tm.getD 5 undef = x5
  generalize tm.getD 6 undef = x6
  generalize tm.getD 10 undef = x10
  generalize tm.getD 12 undef = x12
  generalize tm.getD 13 undef = x13
  generalize tm.getD 14 undef = x14
  generalize tm.getD 15 undef = x15
  generalize tm.getD 16 undef = x16
  generalize tm.getD 17 undef = x17
  generalize tm.getD 18 undef = x18
  generalize tm.getD 19 undef = x19
  generalize tm.getD 20 undef = x20
  generalize tm.getD 21 undef = x21
  generalize tm.getD 22 undef = x22
  generalize tm.getD 23 undef = x23
  generalize tm.getD 24 undef = x24
  generalize tm.getD 25 undef = x25
  generalize tm.getD 26 undef = x26
  generalize tm.getD 27 undef = x27
  generalize tm.getD 28 undef = x28
  generalize tm.getD 29 undef = x29
  generalize tm.getD 30 undef = x30
  generalize tm.getD 31 undef = x31
  generalize tm.getD 32 undef = x32
  generalize tm.getD 33 undef = x33
  generalize tm.getD 34 undef = x34
  generalize tm.getD 35 undef = x35
  generalize tm.getD 36 undef = x36
  generalize tm.getD 37 undef = x37
  generalize tm.getD 38 undef = x38
  generalize tm.getD 39 undef = x39
  generalize tm.getD 40 undef = x40
  generalize tm.getD 41 undef = x41
  generalize tm.getD 42 undef = x42
  generalize tm.getD 43 undef = x43
  generalize tm.getD 44 undef = x44
  generalize tm.getD 45 undef = x45
  generalize tm.getD 46 undef = x46
  generalize tm.getD 47 undef = x47
  generalize tm.getD 48 undef = x48
  generalize tm.getD 49 undef = x49
  generalize tm.getD 50 undef = x50
  generalize tm.getD 51 undef = x51
  generalize tm.getD 52 undef = x52
  generalize tm.getD 53 undef = x53
  generalize tm.getD 54 undef = x54
  generalize tm.getD 55 undef = x55
  generalize tm.getD 56 undef = x56
  generalize tm.getD 57 undef = x57
  generalize tm.getD 58 undef = x58
  generalize tm.getD 59 undef = x59
  generalize tm.getD 60 undef = x60
  generalize tm.getD 61 undef = x61
  generalize tm.getD 62 undef = x62
  generalize tm.getD 63 undef = x63
  generalize tm.getD 64 undef = x64
  generalize tm.getD 65 undef = x65
  generalize tm.getD 66 undef = x66
  generalize tm.getD 67 undef = x67
  generalize tm.getD 68 undef = x68
  generalize tm.getD 69 undef = x69
  generalize tm.getD 70 undef = x70
  generalize tm.getD 71 undef = x71
  generalize tm.getD 72 undef = x72
  generalize tm.getD 73 undef = x73
  generalize tm.getD 74 undef = x74
  generalize tm.getD 75 undef = x75
  generalize tm.getD 76 undef = x76
  generalize tm.getD 77 undef = x77
  generalize tm.getD 78 undef = x78
  generalize tm.getD 79 undef = x79
  generalize tm.getD 80 undef = x80
  generalize tm.getD 81 undef = x81
  generalize tm.getD 82 undef = x82
  generalize tm.getD 83 undef = x83
  generalize tm.getD 84 undef = x84
  generalize tm.getD 85 undef = x85
  generalize tm.getD 86 undef = x86
  generalize tm.getD 87 undef = x87
  generalize tm.getD 88 undef = x88
  generalize tm.getD 89 undef = x89
  generalize tm.getD 90 undef = x90
  generalize tm.getD 91 undef = x91
  generalize tm.getD 92 undef = x92
  generalize tm.getD 93 undef = x93
  generalize tm.getD 94 undef = x94
  generalize tm.getD 95 undef = x95
  generalize tm.getD 96 undef = x96
  generalize tm.getD 97 undef = x97
  generalize tm.getD 98 undef = x98
  generalize tm.getD 99 undef = x99
  generalize tm.getD 100 undef = x100
  generalize tm.getD 101 undef = x101
  generalize tm.getD 102 undef = x102
  generalize tm.getD 103 undef = x103
  generalize tm.getD 104 undef = x104
  generalize tm.getD 105 undef = x105
  generalize tm.getD 106 undef = x106
  generalize tm.getD 107 undef = x107
  generalize tm.getD 108 undef = x108
  generalize tm.getD 109 undef = x109
  generalize tm.getD 110 undef = x110
  generalize tm.getD 111 undef = x111
  generalize tm.getD 112 undef = x112
  generalize tm.getD 113 undef = x113
  generalize tm.getD 114 undef = x114
  generalize tm.getD 115 undef = x115
  generalize tm.getD 116 undef = x116
  generalize tm.getD 117 undef = x117
  generalize tm.getD 118 undef = x118
  generalize tm.getD 119 undef = x119
  generalize tm.getD 120 undef = x120
  generalize tm.getD 121 undef = x121
  generalize tm.getD 122 undef = x122
  generalize tm.getD 123 undef = x123
  generalize tm.getD 124 undef = x124
  generalize tm.getD 125 undef = x125
  generalize tm.getD 126 undef = x126
  generalize tm.getD 127 undef = x127
  generalize tm.getD 128 undef = x128
  generalize tm.getD 129 undef = x129
  generalize tm.getD 130 undef = x130
  generalize tm.getD 131 undef = x131
  generalize tm.getD 132 undef = x132
  generalize tm.getD 133 undef = x133
  generalize tm.getD 134 undef = x134
  generalize tm.getD 135 undef = x135
  generalize tm.getD 136 undef = x136
  generalize tm.getD 137 undef = x137
  generalize tm.getD 138 undef = x138
  generalize tm.getD 139 undef = x139
  generalize tm.getD 140 undef = x140
  generalize tm.getD 141 undef = x141
  generalize tm.getD 142 undef = x142
  generalize tm.getD 143 undef = x143
  generalize tm.getD 144 undef = x144
  generalize tm.getD 145 undef = x145
  generalize tm.getD 146 undef = x146
  generalize tm.getD 147 undef = x147
  generalize tm.getD 148 undef = x148
  generalize tm.getD 149 undef = x149
  generalize tm.getD 150 undef = x150
  generalize tm.getD 151 undef = x151
  generalize tm.getD 152 undef = x152
  generalize tm.getD 153 undef = x153
  generalize tm.getD 154 undef = x154
  generalize tm.getD 155 undef = x155
  generalize tm.getD 156 undef = x156
  generalize tm.getD 157 undef = x157
  generalize tm.getD 158 undef = x158
  generalize tm.getD 159 undef = x159
  generalize tm.getD 160 undef = x160
  generalize tm.getD 161 undef = x161
  generalize tm.getD 162 undef = x162
  generalize tm.getD 163 undef = x163
  generalize tm.getD 164 undef = x164
  generalize tm.getD 165 undef = x165
  generalize tm.getD 166 undef = x166
  generalize tm.getD 167 undef = x167
  generalize tm.getD 168 undef = x168
  generalize tm.getD 169 undef = x169
  generalize tm.getD 170 undef = x170
  generalize tm.getD 171 undef = x171
  generalize tm.getD 172 undef = x172
  generalize tm.getD 173 undef = x173
  generalize tm.getD 174 undef = x174
  generalize tm.getD 175 undef = x175
  generalize tm.getD 176 undef = x176
  generalize tm.getD 177 undef = x177
  generalize tm.getD 178 undef = x178
  generalize tm.getD 179 undef = x179
  generalize tm.getD 180 undef = x180
  generalize tm.getD 181 undef = x181
  generalize tm.getD 182 undef = x182
  generalize tm.getD 183 undef = x183
  generalize tm.getD 184 undef = x184
  generalize tm.getD 185 undef = x185
  generalize tm.getD 186 undef = x186
  generalize tm.getD 187 undef = x187
  generalize tm.getD 188 undef = x188
  generalize tm.getD 189 undef = x189
  generalize tm.getD 190 undef = x190
  generalize tm.getD 191 undef = x191
  generalize tm.getD 192 undef = x192
  generalize tm.getD 193 undef = x193
  generalize tm.getD 194 undef = x194
  generalize tm.getD 195 undef = x195
  generalize tm.getD 196 undef = x196
  generalize tm.getD 197 undef = x197
  generalize tm.getD 198 undef = x198
  generalize tm.getD 199 undef = x199
  generalize tm.getD 200 undef = x200
  generalize tm.getD 201 undef = x201
  generalize tm.getD 202 undef = x202
  generalize tm.getD 203 undef = x203
  generalize tm.getD 204 undef = x204
  generalize tm.getD 205 undef = x205
  generalize tm.getD 206 undef = x206
  generalize tm.getD 207 undef = x207
  generalize tm.getD 208 undef = x208
  generalize tm.getD 209 undef = x209
  generalize tm.getD 210 undef = x210
  generalize tm.getD 211 undef = x211
  generalize tm.getD 212 undef = x212
  generalize tm.getD 213 undef = x213
  generalize tm.getD 214 undef = x214
  generalize tm.getD 215 undef = x215
  generalize tm.getD 216 undef = x216
  generalize tm.getD 217 undef = x217
  generalize tm.getD 218 undef = x218
  generalize tm.getD 219 undef = x219
  generalize tm.getD 220 undef = x220
  generalize tm.getD 221 undef = x221
  generalize tm.getD 222 undef = x222
  generalize tm.getD 223 undef = x223
  generalize tm.getD 224 undef = x224
  generalize tm.getD 225 undef = x225
  generalize tm.getD 226 undef = x226
  generalize tm.getD 227 undef = x227
  generalize tm.getD 228 undef = x228
  generalize tm.getD 229 undef = x229
  generalize tm.getD 230 undef = x230
  generalize tm.getD 231 undef = x231
  generalize tm.getD 232 undef = x232
  generalize tm.getD 233 undef = x233
  generalize tm.getD 234 undef = x234
  generalize tm.getD 235 undef = x235
  generalize tm.getD 236 undef = x236
  generalize tm.getD 237 undef = x237
  generalize tm.getD 238 undef = x238
  generalize tm.getD 239 undef = x239
  generalize tm.getD 240 undef = x240
  generalize tm.getD 241 undef = x241
  generalize tm.getD 242 undef = x242
  generalize tm.getD 243 undef = x243
  generalize tm.getD 244 undef = x244
  generalize tm.getD 245 undef = x245
  generalize tm.getD 246 undef = x246
  generalize tm.getD 247 undef = x247
  generalize tm.getD 248 undef = x248
  generalize tm.getD 249 undef = x249
  generalize tm.getD 250 undef = x250
  generalize tm.getD 251 undef = x251
  generalize tm.getD 252 undef = x252
  generalize tm.getD 253 undef = x253
  go_wp2_with fail
  refine (among_any size 1000 w6 wsize (by decide) (by decide)).mono ?_
  rintro e w7 ⟨rfl, rfl⟩
  obtain ⟨z, hz⟩ : ∃ z, size % 1000 = z := ⟨_, rfl⟩
  have hz0 : 0 ≤ z ∧ z < 1000 := by omega
  rw [hz]
  clear hz
  obtain ⟨sz, rfl⟩ : ∃ sz : Nat, z = sz := ⟨z.toNat, by omega⟩
  have hw : IntKind.i64.wrap (1 + (sz : Int)) = ((sz + 1 : Nat) : Int) := by rw [IntKind.wrap_i64]; push_cast; omega
  have hw2 : wrap64 (1 + (sz : Int)) = ((sz + 1 : Nat) : Int) := by rw [IntWalk.wrap64_in _ ⟨by omega, by omega⟩]; push_cast; omega
  go_wp2_with fail
  refine loop2 _ W w6 g mo me lg gg lv _ L (sz + 1) fl n2 a2 cap2 rfl rfl rfl rfl rfl rfl rfl rfl rfl rfl rfl hL30 HLO.out HL3.out (by omega) (by omega) hle2 HFL2.out HT6.out ?_
  rintro ⟨tm, df⟩ w9 h6 hdf hO
  replace hdf : df = [] := hdf
  subst hdf
  go_ret
  exact ⟨congrArg Ending.returned h6, hO.below (Nat.le_refl _) (fun _ _ h => h)⟩

end Go.Proofs.Yteifehienpeaiaa
