/-
  TopLog's loop over the copies of a letter that goes back.
  Conditions: numbers are of the kind int.
-/
import Derived.Test.YteifehienpeaiaaTopPlain
set_option linter.unusedVariables false
set_option linter.unusedSimpArgs false
set_option maxRecDepth 100000
namespace Go.Proofs.Yteifehienpeaiaa
open Go.RowKit

def K6b : List Nat := [1, 2, 7, 8, 9, 11, 14, 15, 16, 17, 18, 23, 24, 26, 105, 147, 148, 149, 154, 155, 156]
set_option maxHeartbeats 4000000 in
theorem loop6b {Q : Exit → Act → World → Prop} (a0 : Act) (W w0 : World) (g mo me : Nat → Nat) (lg gg : Nat) (lv gv0 : Value) (L : List EV) (a2 b2 : CS) (C1 : List (List EV)) (T2 : List ByteArray) (G : List EV) (X0 : List ByteArray) (S : ByteArray) (R i : Nat)
    (hsz : a0.tmps.size = 254) (hdf : a0.defers = []) (h7 : a0.tmps.getD 7 undef = .pointer (some ⟨lg, 0, none⟩)) (h8 : a0.tmps.getD 8 undef = .pointer (some ⟨gg, 0, none⟩)) (h9 : a0.tmps.getD 9 undef = .pointer (some ⟨g 0, 0, none⟩)) (h11 : a0.tmps.getD 11 undef = .pointer (some ⟨g 1, 0, none⟩)) (h16 : a0.tmps.getD 16 undef = .int .i64 i) (h23 : a0.tmps.getD 23 undef = .int .i64 1) (h26 : a0.tmps.getD 26 undef = .string S) (h178 : a0.tmps.getD 178 undef = .int .i64 R) (h179 : a0.tmps.getD 179 undef = .int .i64 0)
    (hR : R ≤ 2) (hL : L.length ≤ 30) (htwo : Two a2 b2 (C1.map encAll) [] [] T2 i 3 2 1) (hlets : ∀ S' ∈ X0 ++ List.replicate R S, LetIn [] b2.taken 1 S')
    (hT : TW W w0 g mo me lg gg lv gv0 (sOf (takeAll (a2, []) (X0 ++ List.replicate 0 S) i).1 b2) L G)
    (hexit : ∀ a' w' gv, a'.tmps.size = 254 → a'.defers = [] → AllEq K6b a0 a' → TW W w' g mo me lg gg lv gv (sOf (takeAll (a2, []) (X0 ++ List.replicate R S) i).1 b2) L G → Texts w0 w' → Q (.exit 10) a' w') :
    (Code.loop (lawBody 5)).wp Try.prog Q a0 w0 := by
  refine wp_loop (fun a w => a.tmps.size = 254 ∧ a.defers = [] ∧ AllEq K6b a0 a ∧ a.tmps.getD 178 undef = .int .i64 R ∧ ∃ (r : Nat) (gv : Value), a.tmps.getD 179 undef = .int .i64 r ∧ r ≤ R ∧ TW W w g mo me lg gg lv gv (sOf (takeAll (a2, []) (X0 ++ List.replicate r S) i).1 b2) L G ∧ Texts w0 w) (fun a _ => R - (intOf (a.tmps.getD 179 undef)).toNat) ⟨hsz, hdf, .refl _ _, h178, 0, gv0, h179, Nat.zero_le _, hT, .refl _⟩ ?_
  rintro ⟨tm, df⟩ wr ⟨hsz, hdf', hK, q178, r, gv, q179, hrR, hTr, htx⟩
  replace hdf' : df = [] := hdf'
  subst hdf'
  have HT := Lib.hid hTr
  have HTX := Lib.hid htx
  have HE := Lib.hid hexit
  have HTWO := Lib.hid htwo
  have HLETS := Lib.hid hlets
  skip
  skip
  clear hT hTr htx hexit htwo hlets  hdf
  simp only at hsz q178 q179
  have k1 : tm.getD 1 undef = a0.tmps.getD 1 undef := AllEq.get hK 1 (by decide)
  have k2 : tm.getD 2 undef = a0.tmps.getD 2 undef := AllEq.get hK 2 (by decide)
  have k14 : tm.getD 14 undef = a0.tmps.getD 14 undef := AllEq.get hK 14 (by decide)
  have k15 : tm.getD 15 undef = a0.tmps.getD 15 undef := AllEq.get hK 15 (by decide)
  have k17 : tm.getD 17 undef = a0.tmps.getD 17 undef := AllEq.get hK 17 (by decide)
  have k18 : tm.getD 18 undef = a0.tmps.getD 18 undef := AllEq.get hK 18 (by decide)
  have k24 : tm.getD 24 undef = a0.tmps.getD 24 undef := AllEq.get hK 24 (by decide)
  have k105 : tm.getD 105 undef = a0.tmps.getD 105 undef := AllEq.get hK 105 (by decide)
  have k147 : tm.getD 147 undef = a0.tmps.getD 147 undef := AllEq.get hK 147 (by decide)
  have k148 : tm.getD 148 undef = a0.tmps.getD 148 undef := AllEq.get hK 148 (by decide)
  have k149 : tm.getD 149 undef = a0.tmps.getD 149 undef := AllEq.get hK 149 (by decide)
  have k154 : tm.getD 154 undef = a0.tmps.getD 154 undef := AllEq.get hK 154 (by decide)
  have k155 : tm.getD 155 undef = a0.tmps.getD 155 undef := AllEq.get hK 155 (by decide)
  have k156 : tm.getD 156 undef = a0.tmps.getD 156 undef := AllEq.get hK 156 (by decide)
  have q7 : tm.getD 7 undef = .pointer (some ⟨lg, 0, none⟩) := (AllEq.get hK 7 (by decide)).trans h7
  have q8 : tm.getD 8 undef = .pointer (some ⟨gg, 0, none⟩) := (AllEq.get hK 8 (by decide)).trans h8
  have q9 : tm.getD 9 undef = .pointer (some ⟨g 0, 0, none⟩) := (AllEq.get hK 9 (by decide)).trans h9
  have q11 : tm.getD 11 undef = .pointer (some ⟨g 1, 0, none⟩) := (AllEq.get hK 11 (by decide)).trans h11
  have q16 : tm.getD 16 undef = .int .i64 i := (AllEq.get hK 16 (by decide)).trans h16
  have q23 : tm.getD 23 undef = .int .i64 1 := (AllEq.get hK 23 (by decide)).trans h23
  have q26 : tm.getD 26 undef = .string S := (AllEq.get hK 26 (by decide)).trans h26
  have he : tm = #[tm.getD 0 undef, tm.getD 1 undef, tm.getD 2 undef, tm.getD 3 undef, tm.getD 4 undef, tm.getD 5 undef, tm.getD 6 undef, tm.getD 7 undef, tm.getD 8 undef, tm.getD 9 undef, tm.getD 10 undef, tm.getD 11 undef, tm.getD 12 undef, tm.getD 13 undef, tm.getD 14 undef, tm.getD 15 undef, tm.getD 16 undef, tm.getD 17 undef, tm.getD 18 undef, tm.getD 19 undef, tm.getD 20 undef, tm.getD 21 undef, tm.getD 22 undef, tm.getD 23 undef, tm.getD 24 undef, tm.getD 25 undef, tm.getD 26 undef, tm.getD 27 undef, tm.getD 28 undef, tm.getD 29 undef, tm.getD 30 undef, tm.getD 31 undef, tm.getD 32 undef, tm.getD 33 undef, tm.getD 34 undef, tm.getD 35 undef, tm.getD 36 undef, tm.getD 37 undef, tm.getD 38 undef, tm.getD 39 undef, tm.getD 40 undef, tm.getD 41 undef, tm.getD 42 undef, tm.getD 43 undef, tm.getD 44 undef, tm.getD 45 undef, tm.getD 46 undef, tm.getD 47 undef, tm.getD 48 undef, tm.getD 49 undef, tm.getD 50 undef, tm.getD 51 undef, tm.getD 52 undef, tm.getD 53 undef, tm.getD 54 undef, tm.getD 55 undef, tm.getD 56 undef, tm.getD 57 undef, tm.getD 58 undef, tm.getD 59 undef, tm.getD 60 undef, tm.getD 61 undef, tm.getD 62 undef, tm.getD 63 undef, tm.getD 64 undef, tm.getD 65 undef, tm.getD 66 undef, tm.getD 67 undef, tm.getD 68 undef, tm.getD 69 undef, tm.getD 70 undef, tm.getD 71 undef, tm.getD 72 undef, tm.getD 73 undef, tm.getD 74 undef, tm.getD 75 undef, tm.getD 76 undef, tm.getD 77 undef, tm.getD 78 undef, tm.getD 79 undef, tm.getD 80 undef, tm.getD 81 undef, tm.getD 82 undef, tm.getD 83 undef, tm.getD 84 undef, tm.getD 85 undef, tm.getD 86 undef, tm.getD 87 undef, tm.getD 88 undef, tm.getD 89 undef, tm.getD 90 undef, tm.getD 91 undef, tm.getD 92 undef, tm.getD 93 undef, tm.getD 94 undef, tm.getD 95 undef, tm.getD 96 undef, tm.getD 97 undef, tm.getD 98 undef, tm.getD 99 undef, tm.getD 100 undef, tm.getD 101 undef, tm.getD 102 undef, tm.getD 103 undef, tm.getD 104 undef, tm.getD 105 undef, tm.getD 106 undef, tm.getD 107 undef, tm.getD 108 undef, tm.getD 109 undef, tm.getD 110 undef, tm.getD 111 undef, tm.getD 112 undef, tm.getD 113 undef, tm.getD 114 undef, tm.getD 115 undef, tm.getD 116 undef, tm.getD 117 undef, tm.getD 118 undef, tm.getD 119 undef, tm.getD 120 undef, tm.getD 121 undef, tm.getD 122 undef, tm.getD 123 undef, tm.getD 124 undef, tm.getD 125 undef, tm.getD 126 undef, tm.getD 127 undef, tm.getD 128 undef, tm.getD 129 undef, tm.getD 130 undef, tm.getD 131 undef, tm.getD 132 undef, tm.getD 133 undef, tm.getD 134 undef, tm.getD 135 undef, tm.getD 136 undef, tm.getD 137 undef, tm.getD 138 undef, tm.getD 139 undef, tm.getD 140 undef, tm.getD 141 undef, tm.getD 142 undef, tm.getD 143 undef, tm.getD 144 undef, tm.getD 145 undef, tm.getD 146 undef, tm.getD 147 undef, tm.getD 148 undef, tm.getD 149 undef, tm.getD 150 undef, tm.getD 151 undef, tm.getD 152 undef, tm.getD 153 undef, tm.getD 154 undef, tm.getD 155 undef, tm.getD 156 undef, tm.getD 157 undef, tm.getD 158 undef, tm.getD 159 undef, tm.getD 160 undef, tm.getD 161 undef, tm.getD 162 undef, tm.getD 163 undef, tm.getD 164 undef, tm.getD 165 undef, tm.getD 166 undef, tm.getD 167 undef, tm.getD 168 undef, tm.getD 169 undef, tm.getD 170 undef, tm.getD 171 undef, tm.getD 172 undef, tm.getD 173 undef, tm.getD 174 undef, tm.getD 175 undef, tm.getD 176 undef, tm.getD 177 undef, tm.getD 178 undef, tm.getD 179 undef, tm.getD 180 undef, tm.getD 181 undef, tm.getD 182 undef, tm.getD 183 undef, tm.getD 184 undef, tm.getD 185 undef, tm.getD 186 undef, tm.getD 187 undef, tm.getD 188 undef, tm.getD 189 undef, tm.getD 190 undef, tm.getD 191 undef, tm.getD 192 undef, tm.getD 193 undef, tm.getD 194 undef, tm.getD 195 undef, tm.getD 196 undef, tm.getD 197 undef, tm.getD 198 undef, tm.getD 199 undef, tm.getD 200 undef, tm.getD 201 undef, tm.getD 202 undef, tm.getD 203 undef, tm.getD 204 undef, tm.getD 205 undef, tm.getD 206 undef, tm.getD 207 undef, tm.getD 208 undef, tm.getD 209 undef, tm.getD 210 undef, tm.getD 211 undef, tm.getD 212 undef, tm.getD 213 undef, tm.getD 214 undef, tm.getD 215 undef, tm.getD 216 undef, tm.getD 217 undef, tm.getD 218 undef, tm.getD 219 undef, tm.getD 220 undef, tm.getD 221 undef, tm.getD 222 undef, tm.getD 223 undef, tm.getD 224 undef, tm.getD 225 undef, tm.getD 226 undef, tm.getD 227 undef, tm.getD 228 undef, tm.getD 229 undef, tm.getD 230 undef, tm.getD 231 undef, tm.getD 232 undef, tm.getD 233 undef, tm.getD 234 undef, tm.getD 235 undef, tm.getD 236 undef, tm.getD 237 undef, tm.getD 238 undef, tm.getD 239 undef, tm.getD 240 undef, tm.getD 241 undef, tm.getD 242 undef, tm.getD 243 undef, tm.getD 244 undef, tm.getD 245 undef, tm.getD 246 undef, tm.getD 247 undef, tm.getD 248 undef, tm.getD 249 undef, tm.getD 250 undef, tm.getD 251 undef, tm.getD 252 undef, tm.getD 253 undef] := arr_eta (n := 254) hsz
  rw [he, q7, q8, q9, q11, q16, q23, q26, q178, q179]
  clear he hK hsz q7 q8 q9 q11 q16 q23 q26 q178 q179
  generalize tm.getD 0 undef = x0
  generalize tm.getD 1 undef = x1 at k1 ⊢
  generalize tm.getD 2 undef = x2 at k2 ⊢
  generalize tm.getD 3 undef = x3
  generalize tm.getD 4 undef = x4
  generalize tm.getD 5 undef = x5
  generalize tm.getD 6 undef = x6
  generalize tm.getD 10 undef = x10
  generalize tm.getD 12 undef = x12
  generalize tm.getD 13 undef = x13
  generalize tm.getD 14 undef = x14 at k14 ⊢
  generalize tm.getD 15 undef = x15 at k15 ⊢
  generalize tm.getD 17 undef = x17 at k17 ⊢
  generalize tm.getD 18 undef = x18 at k18 ⊢
  generalize tm.getD 19 undef = x19
  generalize tm.getD 20 undef = x20
  generalize tm.getD 21 undef = x21
  generalize tm.getD 22 undef = x22
  generalize tm.getD 24 undef = x24 at k24 ⊢
  generalize tm.getD 25 undef = x25
  generalize tm.getD 27 undef = x27
  generalize tm.getD 28 undef = x28
  generalize tm.getD 29 undef = x29
  generalize tm.getD 30 undef = x30
  generalize tm.getD 31 undef = x31
  generalize tm.getD 32 undef = x32
  generalize tm.getD 33 undef = x33
  generalize tm.getD 34 undef = x34
  generalize tm.getD 35 undef = x35
  generalize tm.getD 36 undef = x36
  generalize tm.getD 37 undef = x37
  generalize tm.getD 38 undef = x38
  generalize tm.getD 39 undef = x39
  generalize tm.getD 40 undef = x40
  generalize tm.getD 41 undef = x41
  generalize tm.getD 42 undef = x42
  generalize tm.getD 43 undef = x43
  generalize tm.getD 44 undef = x44
  generalize tm.getD 45 undef = x45
  generalize tm.getD 46 undef = x46
  generalize tm.getD 47 undef = x47
  generalize tm.getD 48 undef = x48
  generalize tm.getD 49 undef = x49
  generalize tm.getD 50 undef = x50
  generalize tm.getD 51 undef = x51
  generalize tm.getD 52 undef = x52
  generalize tm.getD 53 undef = x53
  generalize tm.getD 54 undef = x54
  generalize tm.getD 55 undef = x55
  generalize tm.getD 56 undef = x56
  generalize tm.getD 57 undef = x57
  generalize tm.getD 58 undef = x58
  generalize tm.getD 59 undef = x59
  generalize tm.getD 60 undef = x60
  generalize tm.getD 61 undef = x61
  generalize tm.getD 62 undef = x62
  generalize tm.getD 63 undef = x63
  generalize tm.getD 64 undef = x64
  generalize tm.getD 65 undef = x65
  generalize tm.getD 66 undef = x66
  generalize tm.getD 67 undef = x67
  generalize tm.getD 68 undef = x68
  generalize tm.getD 69 undef = x69
  generalize tm.getD 70 undef = x70
  generalize tm.getD 71 undef = x71
  generalize tm.getD 72 undef = x72
  generalize tm.getD 73 undef = x73
  generalize tm.getD 74 undef = x74
  generalize tm.getD 75 undef = x75
  generalize tm.getD 76 undef = x76
  generalize tm.getD 77 undef = x77
  generalize tm.getD 78 undef = x78
  generalize tm.getD 79 undef = x79
  generalize tm.getD 80 undef = x80
  generalize tm.getD 81 undef = x81
  generalize tm.getD 82 undef = x82
  generalize tm.getD 83 undef = x83
  generalize tm.getD 84 undef = x84
  generalize tm.getD 85 undef = x85
  generalize tm.getD 86 undef = x86
  generalize tm.getD 87 undef = x87
  generalize tm.getD 88 undef = x88
  generalize tm.getD 89 undef = x89
  generalize tm.getD 90 undef = x90
  generalize tm.getD 91 undef = x91
  generalize tm.getD 92 undef = x92
  generalize tm.getD 93 undef = x93
  generalize tm.getD 94 undef = x94
  generalize tm.getD 95 undef = x95
  generalize tm.getD 96 undef = x96
  generalize tm.getD 97 undef = x97
  generalize tm.getD 98 undef = x98
  generalize tm.getD 99 undef = x99
  generalize tm.getD 100 undef = x100
  generalize tm.getD 101 undef = x101
  generalize tm.getD 102 undef = x102
  generalize tm.getD 103 undef = x103
  generalize tm.getD 104 undef = x104
  generalize tm.getD 105 undef = x105 at k105 ⊢
  generalize tm.getD 106 undef = x106
  generalize tm.getD 107 undef = x107
  generalize tm.getD 108 undef = x108
  generalize tm.getD 109 undef = x109
  generalize tm.getD 110 undef = x110
  generalize tm.getD 111 undef = x111
  generalize tm.getD 112 undef = x112
  generalize tm.getD 113 undef = x113
  generalize tm.getD 114 undef = x114
  generalize tm.getD 115 undef = x115
  generalize tm.getD 116 undef = x116
  generalize tm.getD 117 undef = x117
  generalize tm.getD 118 undef = x118
  generalize tm.getD 119 undef = x119
  generalize tm.getD 120 undef = x120
  generalize tm.getD 121 undef = x121
  generalize tm.getD 122 undef = x122
  generalize tm.getD 123 undef = x123
  generalize tm.getD 124 undef = x124
  generalize tm.getD 125 undef = x125
  generalize tm.getD 126 undef = x126
  generalize tm.getD 127 undef = x127
  generalize tm.getD 128 undef = x128
  generalize tm.getD 129 undef = x129
  generalize tm.getD 130 undef = x130
  generalize tm.getD 131 undef = x131
  generalize tm.getD 132 undef = x132
  generalize tm.getD 133 undef = x133
  generalize tm.getD 134 undef = x134
  generalize tm.getD 135 undef = x135
  generalize tm.getD 136 undef = x136
  generalize tm.getD 137 undef = x137
  generalize tm.getD 138 undef = x138
  generalize tm.getD 139 undef = x139
  generalize tm.getD 140 undef = x140
  generalize tm.getD 141 undef = x141
  generalize tm.getD 142 undef = x142
  generalize tm.getD 143 undef = x143
  generalize tm.getD 144 undef = x144
  generalize tm.getD 145 undef = x145
  generalize tm.getD 146 undef = x146
  generalize tm.getD 147 undef = x147 at k147 ⊢
  generalize tm.getD 148 undef = x148 at k148 ⊢
  generalize tm.getD 149 undef = x149 at k149 ⊢
  generalize tm.getD 150 undef = x150
  generalize tm.getD 151 undef = x151
  generalize tm.getD 152 undef = x152
  generalize tm.getD 153 undef = x153
  generalize tm.getD 154 undef = x154 at k154 ⊢
  generalize tm.getD 155 undef = x155 at k155 ⊢
  generalize tm.getD 156 undef = x156 at k156 ⊢
  generalize tm.getD 157 undef = x157
  generalize tm.getD 158 undef = x158
  generalize tm.getD 159 undef = x159
  generalize tm.getD 160 undef = x160
  generalize tm.getD 161 undef = x161
  generalize tm.getD 162 undef = x162
  generalize tm.getD 163 undef = x163
  generalize tm.getD 164 undef = x164
  generalize tm.getD 165 undef = x165
  generalize tm.getD 166 undef = x166
  generalize tm.getD 167 undef = x167
  generalize tm.getD 168 undef = x168
  generalize tm.getD 169 undef = x169
  generalize tm.getD 170 undef = x170
  generalize tm.getD 171 undef = x171
  generalize tm.getD 172 undef = x172
  generalize tm.getD 173 undef = x173
  generalize tm.getD 174 undef = x174
  generalize tm.getD 175 undef = x175
  generalize tm.getD 176 undef = x176
  generalize tm.getD 177 undef = x177
  generalize tm.getD 180 undef = x180
  generalize tm.getD 181 undef = x181
  generalize tm.getD 182 undef = x182
  generalize tm.getD 183 undef = x183
  generalize tm.getD 184 undef = x184
  generalize tm.getD 185 undef = x185
  generalize tm.getD 186 undef = x186
  generalize tm.getD 187 undef = x187
  generalize tm.getD 188 undef = x188
  generalize tm.getD 189 undef = x189
  generalize tm.getD 190 undef = x190
  generalize tm.getD 191 undef = x191
  generalize tm.getD 192 undef = x192
  generalize tm.getD 193 undef = x193
  generalize tm.getD 194 undef = x194
  generalize tm.getD 195 undef = x195
  generalize tm.getD 196 undef = x196
  generalize tm.getD 197 undef = x197
  generalize tm.getD 198 undef = x198
  generalize tm.getD 199 undef = x199
  generalize tm.getD 200 undef = x200
  generalize tm.getD 201 undef = x201
  generalize tm.getD 202 undef = x202
  generalize tm.getD 203 undef = x203
  generalize tm.getD 204 undef = x204
  generalize tm.getD 205 undef = x205
  generalize tm.getD 206 undef = x206
  generalize tm.getD 207 undef = x207
  generalize tm.getD 208 undef = x208
  generalize tm.getD 209 undef = x209
  generalize tm.getD 210 undef = x210
  generalize tm.getD 211 undef = x211
  generalize tm.getD 212 undef = x212
  generalize tm.getD 213 undef = x213
  generalize tm.getD 214 undef = x214
  generalize tm.getD 215 undef = x215
  generalize tm.getD 216 undef = x216
  generalize tm.getD 217 undef = x217
  generalize tm.getD 218 undef = x218
  generalize tm.getD 219 undef = x219
  generalize tm.getD 220 undef = x220
  generalize tm.getD 221 undef = x221
  generalize tm.getD 222 undef = x222
  generalize tm.getD 223 undef = x223
  generalize tm.getD 224 undef = x224
  generalize tm.getD 225 undef = x225
  generalize tm.getD 226 undef = x226
  generalize tm.getD 227 undef = x227
  generalize tm.getD 228 undef = x228
  generalize tm.getD 229 undef = x229
  generalize tm.getD 230 undef = x230
  generalize tm.getD 231 undef = x231
  generalize tm.getD 232 undef = x232
  generalize tm.getD 233 undef = x233
  generalize tm.getD 234 undef = x234
  generalize tm.getD 235 undef = x235
  generalize tm.getD 236 undef = x236
  generalize tm.getD 237 undef = x237
  generalize tm.getD 238 undef = x238
  generalize tm.getD 239 undef = x239
  generalize tm.getD 240 undef = x240
  generalize tm.getD 241 undef = x241
  generalize tm.getD 242 undef = x242
  generalize tm.getD 243 undef = x243
  generalize tm.getD 244 undef = x244
  generalize tm.getD 245 undef = x245
  generalize tm.getD 246 undef = x246
  generalize tm.getD 247 undef = x247
  generalize tm.getD 248 undef = x248
  generalize tm.getD 249 undef = x249
  generalize tm.getD 250 undef = x250
  generalize tm.getD 251 undef = x251
  generalize tm.getD 252 undef = x252
  generalize tm.getD 253 undef = x253
  have HKK : Hid (x1 = a0.tmps.getD 1 undef ∧ x2 = a0.tmps.getD 2 undef ∧ x14 = a0.tmps.getD 14 undef ∧ x15 = a0.tmps.getD 15 undef ∧ x17 = a0.tmps.getD 17 undef ∧ x18 = a0.tmps.getD 18 undef ∧ x24 = a0.tmps.getD 24 undef ∧ x105 = a0.tmps.getD 105 undef ∧ x147 = a0.tmps.getD 147 undef ∧ x148 = a0.tmps.getD 148 undef ∧ x149 = a0.tmps.getD 149 undef ∧ x154 = a0.tmps.getD 154 undef ∧ x155 = a0.tmps.getD 155 undef ∧ x156 = a0.tmps.getD 156 undef ∧ True) := Lib.hid ⟨k1, k2, k14, k15, k17, k18, k24, k105, k147, k148, k149, k154, k155, k156, trivial⟩
  clear k1 k2 k14 k15 k17 k18 k24 k105 k147 k148 k149 k154 k155 k156
  clear h178 h179
  unfold lawBody
  conv => arg 2; whnf
  by_cases hlt : r < R
  · have hsub : ∀ S' ∈ X0 ++ List.replicate r S, S' ∈ X0 ++ List.replicate R S := fun S' h => by
      rcases List.mem_append.1 h with h | h
      · exact List.mem_append_left _ h
      · exact List.mem_append_right _ (List.mem_replicate.2 ⟨by omega, (List.mem_replicate.1 h).2⟩)
    have hSz : S.size ≤ 140737488355328 := by
      have := (HLETS.out S (List.mem_append_right _ (List.mem_replicate.2 ⟨by omega, rfl⟩))).size
      omega
    have hstep := Lib.hid (takeAll_rep (a2, []) X0 S r i)
    obtain ⟨t1, -⟩ := back_some HTWO.out (fun S' h => HLETS.out S' (hsub S' h))
    have hp := t1.ea.p
    have HP := Lib.hid hp
    clear hsub t1 hp
    have htw := HT.out
    clear HT HTWO HLETS
    generalize hst : (takeAll (a2, []) (X0 ++ List.replicate r S) i) = st at *
    have htk := Lib.hid (show (takeAll (a2, []) (X0 ++ List.replicate (r + 1) S) i) = ((took st.1 S i).1, st.2 ++ (took st.1 S i).2) from hstep.out)
    clear hst
    have HTW := Lib.hid htw
    clear htw
    go_wp2_with fail
    refine (tw_take (j := 0) HTW.out (by decide) HP.out S hSz i).mono ?_
    rintro e w2 ⟨dv, cc, rfl, hrow, hT2, htx2⟩
    rw [sOf_put0] at hT2
    have HT2 : Hid (TW W w2 g mo me lg gg lv gv (sOf (took st.1 S i).1 b2) L G) := Lib.hid hT2
    have HTX2 := Lib.hid (HTX.out.trans htx2)
    clear hT2 htx2 hrow HTW HTX HP hstep
    go_wp2_with fail
    refine ⟨⟨(by first | rfl | trivial), (by first | rfl | trivial), (by obtain ⟨k1, k2, k14, k15, k17, k18, k24, k105, k147, k148, k149, k154, k155, k156, _⟩ := HKK.out; exact ⟨k1, k2, h7.symm, h8.symm, h9.symm, h11.symm, k14, k15, h16.symm, k17, k18, h23.symm, k24, h26.symm, k105, k147, k148, k149, k154, k155, k156, trivial⟩), (by first | rfl | trivial), r + 1, gv, by go_num, hlt, by rw [htk.out]; exact HT2.out, HTX2.out⟩, ?_⟩
    simp [intOf]; omega
  · obtain rfl : r = R := by omega
    go_wp2_with fail
    exact HE.out _ _ gv rfl rfl (by obtain ⟨k1, k2, k14, k15, k17, k18, k24, k105, k147, k148, k149, k154, k155, k156, _⟩ := HKK.out; exact ⟨k1, k2, h7.symm, h8.symm, h9.symm, h11.symm, k14, k15, h16.symm, k17, k18, h23.symm, k24, h26.symm, k105, k147, k148, k149, k154, k155, k156, trivial⟩) HT.out HTX.out

end Go.Proofs.Yteifehienpeaiaa
