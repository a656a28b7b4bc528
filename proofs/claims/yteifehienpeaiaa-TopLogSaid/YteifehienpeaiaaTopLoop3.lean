/-
  TopLog's loop over the sends of a round.
  Conditions: numbers are of the kind int.
-/
import Derived.Test.YteifehienpeaiaaTopPlain
set_option linter.unusedVariables false
set_option linter.unusedSimpArgs false
set_option maxRecDepth 100000
namespace Go.Proofs.Yteifehienpeaiaa
open Go.RowKit

/-- A step that turns rows of strings alone. -/
theorem TW.other {W w w' : World} {g mo me : Nat → Nat} {lg gg : Nat} {lv gv : Value} {s : Nat → CS} {L G : List EV} {Q : Nat → Prop} (h : TW W w g mo me lg gg lv gv s L G) (hk : Only Q w w') (hQ : ∀ k, Q k → ∃ cs, w.heap[k]? = some (.cells cs 9 (0, 0))) (hW : ∀ k, Q k → W.heap.size ≤ k) : TW W w' g mo me lg gg lv gv s L G := by
  refine ⟨fun j hj => (h.e j hj).only hk (fun k hf e => ?_), h.apart, h.log.keep hk (fun e => ?_) (fun k hb e => ?_), h.got.keep hk (fun e => ?_) (fun k hb e => ?_), h.ne, h.sep, h.new, h.newl, h.newg, h.only.then hk (fun k hlt e => by have := hW k e; omega)⟩
  · obtain ⟨cs, hc⟩ := hQ k e
    exact foot_ty (h.e j hj) hc (by decide) (by decide) hf
  · obtain ⟨cs, hc⟩ := hQ _ e
    exact ty_ne hc h.log.cell (by decide) rfl
  · obtain ⟨cs, hc⟩ := hQ _ e
    obtain ⟨cur, hcur⟩ := erow_block h.log.row hb
    exact ty_ne hc hcur (by decide) rfl
  · obtain ⟨cs, hc⟩ := hQ _ e
    exact ty_ne hc h.got.cell (by decide) rfl
  · obtain ⟨cs, hc⟩ := hQ _ e
    obtain ⟨cur, hcur⟩ := erow_block h.got.row hb
    exact ty_ne hc hcur (by decide) rfl

def K3 : List Nat := [1, 2, 7, 8, 9, 11, 15, 16, 18, 105]
/-- What holds ahead of a send. -/
structure Rel3 (W : World) (g mo me : Nat → Nat) (lg gg : Nat) (lv gv : Value) (i : Nat) (L : List EV) (a b : CS) (C : List (List EV)) (given : Nat) (T : List ByteArray) (G : List EV) (a1 : CS) (C1 : List (List EV)) (given1 : Nat) (M : List ByteArray) (tv : Value) (w : World) : Prop where
  inv : SInv i L a b C given T a1 C1 given1 M
  tw : TW W w g mo me lg gg lv gv (sOf a1 b) L G
  row : w.ownsRow W.heap.size 9 1 tv M.length (M.map Value.string)

set_option maxHeartbeats 4000000 in
theorem loop3 {Q : Exit → Act → World → Prop} (a0 : Act) (W w0 : World) (g mo me : Nat → Nat) (lg gg : Nat) (lv gv : Value) (i : Nat) (L : List EV) (a b : CS) (C : List (List EV)) (given : Nat) (T : List ByteArray) (G : List EV) (sz : Nat)
    (hsz : a0.tmps.size = 254) (hdf : a0.defers = []) (h1 : a0.tmps.getD 1 undef = .int .i64 sz) (h7 : a0.tmps.getD 7 undef = .pointer (some ⟨lg, 0, none⟩)) (h8 : a0.tmps.getD 8 undef = .pointer (some ⟨gg, 0, none⟩)) (h9 : a0.tmps.getD 9 undef = .pointer (some ⟨g 0, 0, none⟩)) (h14 : a0.tmps.getD 14 undef = .int .i64 given) (h16 : a0.tmps.getD 16 undef = .int .i64 i) (h17 : a0.tmps.getD 17 undef = .slice none 0 0)
    (hL : L.length ≤ 30) (hok : LogOk L) (hL3 : ∀ x ∈ L, x.data.size ≤ 300) (hsz1 : sz ≤ 1000)
    (hS : SInv i L a b C given T a C given []) (hT : TW W w0 g mo me lg gg lv gv (sOf a b) L G)
    (hexit : ∀ a' w' (a1 : CS) (C1 : List (List EV)) (given1 : Nat) (M : List ByteArray) (tv : Value), a'.tmps.size = 254 → a'.defers = [] → AllEq K3 a0 a' → a'.tmps.getD 14 undef = .int .i64 given1 → a'.tmps.getD 17 undef = tv → Rel3 W g mo me lg gg lv gv i L a b C given T G a1 C1 given1 M tv w' → (given1 = L.length ∨ a1.room ≤ a1.O.length) → Q (.exit 4) a' w') :
    (Code.loop (lawBody 2)).wp Try.prog Q a0 w0 := by
  refine wp_loop (fun a' w => a'.tmps.size = 254 ∧ a'.defers = [] ∧ AllEq K3 a0 a' ∧ ∃ (a1 : CS) (C1 : List (List EV)) (given1 : Nat) (M : List ByteArray) (tv : Value), a'.tmps.getD 14 undef = .int .i64 given1 ∧ a'.tmps.getD 17 undef = tv ∧ Rel3 W g mo me lg gg lv gv i L a b C given T G a1 C1 given1 M tv w) (fun a' _ => L.length - (intOf (a'.tmps.getD 14 undef)).toNat) ⟨hsz, hdf, .refl _ _, a, C, given, [], _, h14, h17, ⟨hS, hT, World.ownsRow_nil _ _ _ _⟩⟩ ?_
  rintro ⟨tm, df⟩ wr ⟨hsz, hdf', hK, a1, C1, given1, M, tv, q14, q17, hR⟩
  replace hdf' : df = [] := hdf'
  subst hdf'
  have HR := Lib.hid hR
  have HE := Lib.hid hexit
  have HOK := Lib.hid hok
  have HL3 := Lib.hid hL3
  clear hR hexit hok hL3 hS hT hdf
  simp only at hsz q14 q17
  have k2 : tm.getD 2 undef = a0.tmps.getD 2 undef := AllEq.get hK 2 (by decide)
  have k11 : tm.getD 11 undef = a0.tmps.getD 11 undef := AllEq.get hK 11 (by decide)
  have k15 : tm.getD 15 undef = a0.tmps.getD 15 undef := AllEq.get hK 15 (by decide)
  have k18 : tm.getD 18 undef = a0.tmps.getD 18 undef := AllEq.get hK 18 (by decide)
  have k105 : tm.getD 105 undef = a0.tmps.getD 105 undef := AllEq.get hK 105 (by decide)
  have q1 : tm.getD 1 undef = .int .i64 sz := (AllEq.get hK 1 (by decide)).trans h1
  have q7 : tm.getD 7 undef = .pointer (some ⟨lg, 0, none⟩) := (AllEq.get hK 7 (by decide)).trans h7
  have q8 : tm.getD 8 undef = .pointer (some ⟨gg, 0, none⟩) := (AllEq.get hK 8 (by decide)).trans h8
  have q9 : tm.getD 9 undef = .pointer (some ⟨g 0, 0, none⟩) := (AllEq.get hK 9 (by decide)).trans h9
  have q16 : tm.getD 16 undef = .int .i64 i := (AllEq.get hK 16 (by decide)).trans h16
  have he : tm = #[tm.getD 0 undef, tm.getD 1 undef, tm.getD 2 undef, tm.getD 3 undef, tm.getD 4 undef, tm.getD 5 undef, tm.getD 6 undef, tm.getD 7 undef, tm.getD 8 undef, tm.getD 9 undef, tm.getD 10 undef, tm.getD 11 undef, tm.getD 12 undef, tm.getD 13 undef, tm.getD 14 undef, tm.getD 15 undef, tm.getD 16 undef, tm.getD 17 undef, tm.getD 18 undef, tm.getD 19 undef, tm.getD 20 undef, tm.getD 21 undef, tm.getD 22 undef, tm.getD 23 undef, tm.getD 24 undef, tm.getD 25 undef, tm.getD 26 undef, tm.getD 27 undef, tm.getD 28 undef, tm.getD 29 undef, tm.getD 30 undef, tm.getD 31 undef, tm.getD 32 undef, tm.getD 33 undef, tm.getD 34 undef, tm.getD 35 undef, tm.getD 36 undef, tm.getD 37 undef, tm.getD 38 undef, tm.getD 39 undef, tm.getD 40 undef, tm.getD 41 undef, tm.getD 42 undef, tm.getD 43 undef, tm.getD 44 undef, tm.getD 45 undef, tm.getD 46 undef, tm.getD 47 undef, tm.getD 48 undef, tm.getD 49 undef, tm.getD 50 undef, tm.getD 51 undef, tm.getD 52 undef, tm.getD 53 undef, tm.getD 54 undef, tm.getD 55 undef, tm.getD 56 undef, tm.getD 57 undef, tm.getD 58 undef, tm.getD 59 undef, tm.getD 60 undef, tm.getD 61 undef, tm.getD 62 undef, tm.getD 63 undef, tm.getD 64 undef, tm.getD 65 undef, tm.getD 66 undef, tm.getD 67 undef, tm.getD 68 undef, tm.getD 69 undef, tm.getD 70 undef, tm.getD 71 undef, tm.getD 72 undef, tm.getD 73 undef, tm.getD 74 undef, tm.getD 75 undef, tm.getD 76 undef, tm.getD 77 undef, tm.getD 78 undef, tm.getD 79 undef, tm.getD 80 undef, tm.getD 81 undef, tm.getD 82 undef, tm.getD 83 undef, tm.getD 84 undef, tm.getD 85 undef, tm.getD 86 undef, tm.getD 87 undef, tm.getD 88 undef, tm.getD 89 undef, tm.getD 90 undef, tm.getD 91 undef, tm.getD 92 undef, tm.getD 93 undef, tm.getD 94 undef, tm.getD 95 undef, tm.getD 96 undef, tm.getD 97 undef, tm.getD 98 undef, tm.getD 99 undef, tm.getD 100 undef, tm.getD 101 undef, tm.getD 102 undef, tm.getD 103 undef, tm.getD 104 undef, tm.getD 105 undef, tm.getD 106 undef, tm.getD 107 undef, tm.getD 108 undef, tm.getD 109 undef, tm.getD 110 undef, tm.getD 111 undef, tm.getD 112 undef, tm.getD 113 undef, tm.getD 114 undef, tm.getD 115 undef, tm.getD 116 undef, tm.getD 117 undef, tm.getD 118 undef, tm.getD 119 undef, tm.getD 120 undef, tm.getD 121 undef, tm.getD 122 undef, tm.getD 123 undef, tm.getD 124 undef, tm.getD 125 undef, tm.getD 126 undef, tm.getD 127 undef, tm.getD 128 undef, tm.getD 129 undef, tm.getD 130 undef, tm.getD 131 undef, tm.getD 132 undef, tm.getD 133 undef, tm.getD 134 undef, tm.getD 135 undef, tm.getD 136 undef, tm.getD 137 undef, tm.getD 138 undef, tm.getD 139 undef, tm.getD 140 undef, tm.getD 141 undef, tm.getD 142 undef, tm.getD 143 undef, tm.getD 144 undef, tm.getD 145 undef, tm.getD 146 undef, tm.getD 147 undef, tm.getD 148 undef, tm.getD 149 undef, tm.getD 150 undef, tm.getD 151 undef, tm.getD 152 undef, tm.getD 153 undef, tm.getD 154 undef, tm.getD 155 undef, tm.getD 156 undef, tm.getD 157 undef, tm.getD 158 undef, tm.getD 159 undef, tm.getD 160 undef, tm.getD 161 undef, tm.getD 162 undef, tm.getD 163 undef, tm.getD 164 undef, tm.getD 165 undef, tm.getD 166 undef, tm.getD 167 undef, tm.getD 168 undef, tm.getD 169 undef, tm.getD 170 undef, tm.getD 171 undef, tm.getD 172 undef, tm.getD 173 undef, tm.getD 174 undef, tm.getD 175 undef, tm.getD 176 undef, tm.getD 177 undef, tm.getD 178 undef, tm.getD 179 undef, tm.getD 180 undef, tm.getD 181 undef, tm.getD 182 undef, tm.getD 183 undef, tm.getD 184 undef, tm.getD 185 undef, tm.getD 186 undef, tm.getD 187 undef, tm.getD 188 undef, tm.getD 189 undef, tm.getD 190 undef, tm.getD 191 undef, tm.getD 192 undef, tm.getD 193 undef, tm.getD 194 undef, tm.getD 195 undef, tm.getD 196 undef, tm.getD 197 undef, tm.getD 198 undef, tm.getD 199 undef, tm.getD 200 undef, tm.getD 201 undef, tm.getD 202 undef, tm.getD 203 undef, tm.getD 204 undef, tm.getD 205 undef, tm.getD 206 undef, tm.getD 207 undef, tm.getD 208 undef, tm.getD 209 undef, tm.getD 210 undef, tm.getD 211 undef, tm.getD 212 undef, tm.getD 213 undef, tm.getD 214 undef, tm.getD 215 undef, tm.getD 216 undef, tm.getD 217 undef, tm.getD 218 undef, tm.getD 219 undef, tm.getD 220 undef, tm.getD 221 undef, tm.getD 222 undef, tm.getD 223 undef, tm.getD 224 undef, tm.getD 225 undef, tm.getD 226 undef, tm.getD 227 undef, tm.getD 228 undef, tm.getD 229 undef, tm.getD 230 undef, tm.getD 231 undef, tm.getD 232 undef, tm.getD 233 undef, tm.getD 234 undef, tm.getD 235 undef, tm.getD 236 undef, tm.getD 237 undef, tm.getD 238 undef, tm.getD 239 undef, tm.getD 240 undef, tm.getD 241 undef, tm.getD 242 undef, tm.getD 243 undef, tm.getD 244 undef, tm.getD 245 undef, tm.getD 246 undef, tm.getD 247 undef, tm.getD 248 undef, tm.getD 249 undef, tm.getD 250 undef, tm.getD 251 undef, tm.getD 252 undef, tm.getD 253 undef] := arr_eta (n := 254) hsz
  rw [he, q1, q7, q8, q9, q14, q16, q17]
  clear he hK hsz q1 q7 q8 q9 q14 q16 q17
  generalize tm.getD 0 undef = x0
  generalize tm.getD 2 undef = x2 at k2 ⊢
  generalize tm.getD 3 undef = x3
  generalize tm.getD 4 undef = x4
  generalize tm.getD 5 undef = x5
  generalize tm.getD 6 undef = x6
  generalize tm.getD 10 undef = x10
  generalize tm.getD 11 undef = x11 at k11 ⊢
  generalize tm.getD 12 undef = x12
  generalize tm.getD 13 undef = x13
  generalize tm.getD 15 undef = x15 at k15 ⊢
  generalize tm.getD 18 undef = x18 at k18 ⊢
  generalize tm.getD 19 undef = x19
  generalize tm.getD 20 undef = x20
  generalize tm.getD 21 undef = x21
  generalize tm.getD 22 undef = x22
  generalize tm.getD 23 undef = x23
  generalize tm.getD 24 undef = x24
  generalize tm.getD 25 undef = x25
  generalize tm.getD 26 undef = x26
  generalize tm.getD 27 undef = x27
  generalize tm.getD 28 undef = x28
  generalize tm.getD 29 undef = x29
  generalize tm.getD 30 undef = x30
  generalize tm.getD 31 undef = x31
  generalize tm.getD 32 undef = x32
  generalize tm.getD 33 undef = x33
  generalize tm.getD 34 undef = x34
  generalize tm.getD 35 undef = x35
  generalize tm.getD 36 undef = x36
  generalize tm.getD 37 undef = x37
  generalize tm.getD 38 undef = x38
  generalize tm.getD 39 undef = x39
  generalize tm.getD 40 undef = x40
  generalize tm.getD 41 undef = x41
  generalize tm.getD 42 undef = x42
  generalize tm.getD 43 undef = x43
  generalize tm.getD 44 undef = x44
  generalize tm.getD 45 undef = x45
  generalize tm.getD 46 undef = x46
  generalize tm.getD 47 undef = x47
  generalize tm.getD 48 undef = x48
  generalize tm.getD 49 undef = x49
  generalize tm.getD 50 undef = x50
  generalize tm.getD 51 undef = x51
  generalize tm.getD 52 undef = x52
  generalize tm.getD 53 undef = x53
  generalize tm.getD 54 undef = x54
  generalize tm.getD 55 undef = x55
  generalize tm.getD 56 undef = x56
  generalize tm.getD 57 undef = x57
  generalize tm.getD 58 undef = x58
  generalize tm.getD 59 undef = x59
  generalize tm.getD 60 undef = x60
  generalize tm.getD 61 undef = x61
  generalize tm.getD 62 undef = x62
  generalize tm.getD 63 undef = x63
  generalize tm.getD 64 undef = x64
  generalize tm.getD 65 undef = x65
  generalize tm.getD 66 undef = x66
  generalize tm.getD 67 undef = x67
  generalize tm.getD 68 undef = x68
  generalize tm.getD 69 undef = x69
  generalize tm.getD 70 undef = x70
  generalize tm.getD 71 undef = x71
  generalize tm.getD 72 undef = x72
  generalize tm.getD 73 undef = x73
  generalize tm.getD 74 undef = x74
  generalize tm.getD 75 undef = x75
  generalize tm.getD 76 undef = x76
  generalize tm.getD 77 undef = x77
  generalize tm.getD 78 undef = x78
  generalize tm.getD 79 undef = x79
  generalize tm.getD 80 undef = x80
  generalize tm.getD 81 undef = x81
  generalize tm.getD 82 undef = x82
  generalize tm.getD 83 undef = x83
  generalize tm.getD 84 undef = x84
  generalize tm.getD 85 undef = x85
  generalize tm.getD 86 undef = x86
  generalize tm.getD 87 undef = x87
  generalize tm.getD 88 undef = x88
  generalize tm.getD 89 undef = x89
  generalize tm.getD 90 undef = x90
  generalize tm.getD 91 undef = x91
  generalize tm.getD 92 undef = x92
  generalize tm.getD 93 undef = x93
  generalize tm.getD 94 undef = x94
  generalize tm.getD 95 undef = x95
  generalize tm.getD 96 undef = x96
  generalize tm.getD 97 undef = x97
  generalize tm.getD 98 undef = x98
  generalize tm.getD 99 undef = x99
  generalize tm.getD 100 undef = x100
  generalize tm.getD 101 undef = x101
  generalize tm.getD 102 undef = x102
  generalize tm.getD 103 undef = x103
  generalize tm.getD 104 undef = x104
  generalize tm.getD 105 undef = x105 at k105 ⊢
  generalize tm.getD 106 undef = x106
  generalize tm.getD 107 undef = x107
  generalize tm.getD 108 undef = x108
  generalize tm.getD 109 undef = x109
  generalize tm.getD 110 undef = x110
  generalize tm.getD 111 undef = x111
  generalize tm.getD 112 undef = x112
  generalize tm.getD 113 undef = x113
  generalize tm.getD 114 undef = x114
  generalize tm.getD 115 undef = x115
  generalize tm.getD 116 undef = x116
  generalize tm.getD 117 undef = x117
  generalize tm.getD 118 undef = x118
  generalize tm.getD 119 undef = x119
  generalize tm.getD 120 undef = x120
  generalize tm.getD 121 undef = x121
  generalize tm.getD 122 undef = x122
  generalize tm.getD 123 undef = x123
  generalize tm.getD 124 undef = x124
  generalize tm.getD 125 undef = x125
  generalize tm.getD 126 undef = x126
  generalize tm.getD 127 undef = x127
  generalize tm.getD 128 undef = x128
  generalize tm.getD 129 undef = x129
  generalize tm.getD 130 undef = x130
  generalize tm.getD 131 undef = x131
  generalize tm.getD 132 undef = x132
  generalize tm.getD 133 undef = x133
  generalize tm.getD 134 undef = x134
  generalize tm.getD 135 undef = x135
  generalize tm.getD 136 undef = x136
  generalize tm.getD 137 undef = x137
  generalize tm.getD 138 undef = x138
  generalize tm.getD 139 undef = x139
  generalize tm.getD 140 undef = x140
  generalize tm.getD 141 undef = x141
  generalize tm.getD 142 undef = x142
  generalize tm.getD 143 undef = x143
  generalize tm.getD 144 undef = x144
  generalize tm.getD 145 undef = x145
  generalize tm.getD 146 undef = x146
  generalize tm.getD 147 undef = x147
  generalize tm.getD 148 undef = x148
  generalize tm.getD 149 undef = x149
  generalize tm.getD 150 undef = x150
  generalize tm.getD 151 undef = x151
  generalize tm.getD 152 undef = x152
  generalize tm.getD 153 undef = x153
  generalize tm.getD 154 undef = x154
  generalize tm.getD 155 undef = x155
  generalize tm.getD 156 undef = x156
  generalize tm.getD 157 undef = x157
  generalize tm.getD 158 undef = x158
  generalize tm.getD 159 undef = x159
  generalize tm.getD 160 undef = x160
  generalize tm.getD 161 undef = x161
  generalize tm.getD 162 undef = x162
  generalize tm.getD 163 undef = x163
  generalize tm.getD 164 undef = x164
  generalize tm.getD 165 undef = x165
  generalize tm.getD 166 undef = x166
  generalize tm.getD 167 undef = x167
  generalize tm.getD 168 undef = x168
  generalize tm.getD 169 undef = x169
  generalize tm.getD 170 undef = x170
  generalize tm.getD 171 undef = x171
  generalize tm.getD 172 undef = x172
  generalize tm.getD 173 undef = x173
  generalize tm.getD 174 undef = x174
  generalize tm.getD 175 undef = x175
  generalize tm.getD 176 undef = x176
  generalize tm.getD 177 undef = x177
  generalize tm.getD 178 undef = x178
  generalize tm.getD 179 undef = x179
  generalize tm.getD 180 undef = x180
  generalize tm.getD 181 undef = x181
  generalize tm.getD 182 undef = x182
  generalize tm.getD 183 undef = x183
  generalize tm.getD 184 undef = x184
  generalize tm.getD 185 undef = x185
  generalize tm.getD 186 undef = x186
  generalize tm.getD 187 undef = x187
  generalize tm.getD 188 undef = x188
  generalize tm.getD 189 undef = x189
  generalize tm.getD 190 undef = x190
  generalize tm.getD 191 undef = x191
  generalize tm.getD 192 undef = x192
  generalize tm.getD 193 undef = x193
  generalize tm.getD 194 undef = x194
  generalize tm.getD 195 undef = x195
  generalize tm.getD 196 undef = x196
  generalize tm.getD 197 undef = x197
  generalize tm.getD 198 undef = x198
  generalize tm.getD 199 undef = x199
  generalize tm.getD 200 undef = x200
  generalize tm.getD 201 undef = x201
  generalize tm.getD 202 undef = x202
  generalize tm.getD 203 undef = x203
  generalize tm.getD 204 undef = x204
  generalize tm.getD 205 undef = x205
  generalize tm.getD 206 undef = x206
  generalize tm.getD 207 undef = x207
  generalize tm.getD 208 undef = x208
  generalize tm.getD 209 undef = x209
  generalize tm.getD 210 undef = x210
  generalize tm.getD 211 undef = x211
  generalize tm.getD 212 undef = x212
  generalize tm.getD 213 undef = x213
  generalize tm.getD 214 undef = x214
  generalize tm.getD 215 undef = x215
  generalize tm.getD 216 undef = x216
  generalize tm.getD 217 undef = x217
  generalize tm.getD 218 undef = x218
  generalize tm.getD 219 undef = x219
  generalize tm.getD 220 undef = x220
  generalize tm.getD 221 undef = x221
  generalize tm.getD 222 undef = x222
  generalize tm.getD 223 undef = x223
  generalize tm.getD 224 undef = x224
  generalize tm.getD 225 undef = x225
  generalize tm.getD 226 undef = x226
  generalize tm.getD 227 undef = x227
  generalize tm.getD 228 undef = x228
  generalize tm.getD 229 undef = x229
  generalize tm.getD 230 undef = x230
  generalize tm.getD 231 undef = x231
  generalize tm.getD 232 undef = x232
  generalize tm.getD 233 undef = x233
  generalize tm.getD 234 undef = x234
  generalize tm.getD 235 undef = x235
  generalize tm.getD 236 undef = x236
  generalize tm.getD 237 undef = x237
  generalize tm.getD 238 undef = x238
  generalize tm.getD 239 undef = x239
  generalize tm.getD 240 undef = x240
  generalize tm.getD 241 undef = x241
  generalize tm.getD 242 undef = x242
  generalize tm.getD 243 undef = x243
  generalize tm.getD 244 undef = x244
  generalize tm.getD 245 undef = x245
  generalize tm.getD 246 undef = x246
  generalize tm.getD 247 undef = x247
  generalize tm.getD 248 undef = x248
  generalize tm.getD 249 undef = x249
  generalize tm.getD 250 undef = x250
  generalize tm.getD 251 undef = x251
  generalize tm.getD 252 undef = x252
  generalize tm.getD 253 undef = x253
  have HKK : Hid (x2 = a0.tmps.getD 2 undef ∧ x11 = a0.tmps.getD 11 undef ∧ x15 = a0.tmps.getD 15 undef ∧ x18 = a0.tmps.getD 18 undef ∧ x105 = a0.tmps.getD 105 undef ∧ True) := Lib.hid ⟨k2, k11, k15, k18, k105, trivial⟩
  clear k2 k11 k15 k18 k105
  clear h14 h17
  unfold lawBody
  conv => arg 2; whnf
  have hle := HR.out.inv.chunks.le
  go_wp2_with fail
  refine (len_any wr W.heap.size lg lv L HR.out.tw.log).mono ?_
  rintro e w2 ⟨rfl, rfl⟩
  by_cases hlt : given1 < L.length
  · have hd : decide ((given1 : Int) < L.length) = true := decide_eq_true (by omega)
    go_wp2_with fail
    refine (bytes_any w2 W.heap.size lg lv L given1 sz HR.out.tw.log HOK.out.ok (by omega) hlt (by omega)).mono ?_
    rintro e w3 ⟨k, rfl, hk1, hk2, hks, hO3⟩
    have hsize : (encAll ((L.drop given1).take k)).size ≤ 4096 := by
      rcases hks with h | h
      · obtain rfl : k = 1 := by omega
        have : (L.drop given1).take 1 = [L[given1]] := by
          rw [List.drop_eq_getElem_cons hlt]
          rfl
        rw [this, encAll_size_cons, encAll_nil]
        have h3 := HL3.out _ (List.getElem_mem hlt)
        show 9 + _ + 0 ≤ _
        omega
      · omega
    have HT3 := Lib.hid (HR.out.tw.keep hO3)
    have HROW3 : Hid (w3.ownsRow W.heap.size 9 1 tv M.length (M.map Value.string)) := Lib.hid (Texts.row HR.out.row (.of hO3))
    have HINV := Lib.hid HR.out.inv
    clear hks hO3 HR
    obtain ⟨cc, hcc⟩ : ∃ cc, encAll ((L.drop given1).take k) = cc := ⟨_, rfl⟩
    rw [hcc] at hsize ⊢
    have HCC := Lib.hid hcc
    clear hcc
    by_cases hfull : a1.room ≤ a1.O.length
    · have HF := Lib.hid hfull
      clear hfull
      go_wp2_with fail
      refine (tw_full (j := 0) HT3.out (by decide) cc hsize i HF.out).mono ?_
      rintro e w4 ⟨rfl, hT4, htx4⟩
      have HT4 := Lib.hid hT4
      have HTX4 := Lib.hid htx4
      clear hT4 htx4
      go_wp2_with fail
      exact HE.out _ _ a1 C1 given1 M tv rfl rfl (by obtain ⟨k2, k11, k15, k18, k105, _⟩ := HKK.out; exact ⟨h1.symm, k2, h7.symm, h8.symm, h9.symm, k11, k15, h16.symm, k18, k105, trivial⟩) rfl rfl ⟨HINV.out, HT4.out, Texts.row HROW3.out HTX4.out⟩ (.inr HF.out)
    · have HF := Lib.hid hfull
      clear hfull
      go_wp2_with fail
      refine (tw_send (j := 0) HT3.out (by decide) HINV.out.two.ea.p cc hsize i (show ¬ a1.room ≤ a1.O.length from by have := HF.out; omega)).mono ?_
      rintro e w4 ⟨blk, rfl, hT4, htx4⟩
      rw [sOf_put0] at hT4
      have HT4 : Hid (TW W w4 g mo me lg gg lv gv (sOf (a1.sent cc i blk) b) L G) := Lib.hid hT4
      have hrow4 := Texts.row HROW3.out htx4
      have HN : Hid (SInv i L a b C given T (a1.sent cc i blk) (C1 ++ [(L.drop given1).take k]) (given1 + k) (M ++ [(a1.ticked i).letter 1 (a1.last + 1) cc])) := Lib.hid (by
        rw [← HCC.out]
        exact HINV.out.sent hL hk1 hk2 (by rw [HCC.out]; exact hsize) (fun hh => absurd hh (by have := HF.out; omega)) blk)
      have hM := HINV.out.many
      have hsz4 := HT4.out.only.size
      have hlet : ((sOf a1 b 0).ticked i).letter 1 ((sOf a1 b 0).last + 1) cc = (a1.ticked i).letter 1 (a1.last + 1) cc := rfl
      rw [hlet]
      clear hlet
      generalize (a1.ticked i).letter 1 (a1.last + 1) cc = LT at HN ⊢
      have hal4 := hrow4.alloc (.cells #[.string LT] 9)
      have hkal := (Only.refl (fun _ => False) w4).alloc (.cells #[.string LT] 9)
      have HT5 := Lib.hid (HT4.out.keep hkal)
      have HROW4 := Lib.hid hrow4
      have HAL4 := Lib.hid hal4
      obtain ⟨i9, hi, hz0, hz1, hz2⟩ := info_parts info9
      clear hT4 htx4 HT3 HROW3 HINV hrow4 hkal hal4 HT4
      go_wp2_with (at_builtin; refine wpList_append_own _ rfl _ _ 43 rfl W.heap.size 9 i9 (.string ⟨#[]⟩) 1 16 Try.underlying43 hi hz0 hz1 hz2 rfl (by decide) _ M.length _ rfl HAL4.out ⟨w4.heap.size, 0, none⟩ 1 1 [.string LT] rfl rfl (cell_one_new _ _ _) (by simp [Value.oneCell']) (by simp [maxLen]; omega) (by omega) (by rw [World.size_alloc]; omega) ?_; intro v1 w7 hown hg _)
      have hg' : (w4.alloc (.cells #[.string LT] 9)).grownBy w7 tv.ownBlock := hg
      have hT7 := HT5.out.other (Only.of_grown hg') (fun k e => row_block HAL4.out e.symm) (fun k e => (HAL4.out.lt k e.symm).1)
      refine ⟨⟨(by first | rfl | trivial), (by first | rfl | trivial), (by obtain ⟨k2, k11, k15, k18, k105, _⟩ := HKK.out; exact ⟨h1.symm, k2, h7.symm, h8.symm, h9.symm, k11, k15, h16.symm, k18, k105, trivial⟩), a1.sent cc i blk, _, given1 + k, _, v1, by push_cast; go_num, (by first | rfl | trivial), ⟨HN.out, hT7, by rw [List.length_append, List.map_append]; exact hown⟩⟩, ?_⟩
      simp [intOf]; omega
  · obtain rfl : given1 = L.length := by omega
    go_wp2_with fail
    exact HE.out _ _ a1 C1 L.length M tv rfl rfl (by obtain ⟨k2, k11, k15, k18, k105, _⟩ := HKK.out; exact ⟨h1.symm, k2, h7.symm, h8.symm, h9.symm, k11, k15, h16.symm, k18, k105, trivial⟩) rfl rfl HR.out (.inl rfl)

end Go.Proofs.Yteifehienpeaiaa
