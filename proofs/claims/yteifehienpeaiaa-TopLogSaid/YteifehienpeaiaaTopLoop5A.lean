/-
  TopLog's loop over the letters that go there.
  Conditions: numbers are of the kind int.
-/
import Derived.Test.YteifehienpeaiaaTopLoop6A
set_option linter.unusedVariables false
set_option linter.unusedSimpArgs false
set_option maxRecDepth 100000
namespace Go.Proofs.Yteifehienpeaiaa
open Go.RowKit

def K5a : List Nat := [1, 2, 7, 8, 9, 11, 14, 16, 17, 18, 23, 24, 105, 147, 148, 149]
set_option maxHeartbeats 8000000 in
theorem loop5a {Q : Exit → Act → World → Prop} (a0 : Act) (W w0 : World) (g mo me : Nat → Nat) (lg gg : Nat) (lv gv0 : Value) (L : List EV) (a2 b1 : CS) (C1 : List (List EV)) (given : Nat) (T0 : List ByteArray) (M : List ByteArray) (B : Nat) (mv : Value) (m0 i : Nat) (fl : Nat → Int) (n2 : Nat) (fa : Option Addr) (fcap : Nat)
    (hsz : a0.tmps.size = 254) (hdf : a0.defers = []) (h2 : a0.tmps.getD 2 undef = .slice fa n2 fcap) (h7 : a0.tmps.getD 7 undef = .pointer (some ⟨lg, 0, none⟩)) (h8 : a0.tmps.getD 8 undef = .pointer (some ⟨gg, 0, none⟩)) (h9 : a0.tmps.getD 9 undef = .pointer (some ⟨g 0, 0, none⟩)) (h11 : a0.tmps.getD 11 undef = .pointer (some ⟨g 1, 0, none⟩)) (h15 : a0.tmps.getD 15 undef = .int .i64 m0) (h16 : a0.tmps.getD 16 undef = .int .i64 i) (h23 : a0.tmps.getD 23 undef = .int .i64 0) (h154 : a0.tmps.getD 154 undef = mv) (h155 : a0.tmps.getD 155 undef = .int .i64 M.length) (h156 : a0.tmps.getD 156 undef = .int .i64 0)
    (hL : L.length ≤ 30) (hm : m0 + M.length ≤ 1000000000) (hn2 : n2 ≤ 140737488355328) (hfc : n2 ≤ fcap) (hfl : ∀ k, k < n2 → ∃ b off, fa = some ⟨b, off, none⟩ ∧ W.cell? ⟨b, off + k, none⟩ = some (.int .i64 (fl k)) ∧ (Lit.int .i64 (fl k)).wf = true) (htwo : Two a2 b1 (C1.map encAll) [] [] T0 i 3 2 1) (hM : ∀ S ∈ M, LetIn (C1.map encAll) a2.taken 1 S) (hch : Chunks L C1 given) (hok : LogOk L)
    (hrow : w0.ownsRow B 9 1 mv M.length (M.map Value.string)) (hT : TW W w0 g mo me lg gg lv gv0 (sOf a2 (takeAll (b1, T0) [] i).1) L (C1.take (takeAll (b1, T0) [] i).2.length).flatten)
    (hexit : ∀ a' w' gv, a'.tmps.size = 254 → a'.defers = [] → AllEq K5a a0 a' → a'.tmps.getD 15 undef = .int .i64 ((m0 + M.length : Nat) : Int) → TW W w' g mo me lg gg lv gv (sOf a2 (takeAll (b1, T0) (expd (repOf fl n2) m0 M) i).1) L (C1.take (takeAll (b1, T0) (expd (repOf fl n2) m0 M) i).2.length).flatten → Texts w0 w' → Q (.exit 8) a' w') :
    (Code.loop (lawBody 4)).wp Try.prog Q a0 w0 := by
  refine wp_loop (fun a w => a.tmps.size = 254 ∧ a.defers = [] ∧ AllEq K5a a0 a ∧ a.tmps.getD 154 undef = mv ∧ a.tmps.getD 155 undef = .int .i64 M.length ∧ ∃ (j : Nat) (gv : Value), a.tmps.getD 156 undef = .int .i64 j ∧ a.tmps.getD 15 undef = .int .i64 ((m0 + j : Nat) : Int) ∧ j ≤ M.length ∧ TW W w g mo me lg gg lv gv (sOf a2 (takeAll (b1, T0) (expd (repOf fl n2) m0 (M.take j)) i).1) L (C1.take (takeAll (b1, T0) (expd (repOf fl n2) m0 (M.take j)) i).2.length).flatten ∧ Texts w0 w) (fun a _ => M.length - (intOf (a.tmps.getD 156 undef)).toNat) ⟨hsz, hdf, .refl _ _, h154, h155, 0, gv0, h156, h15, Nat.zero_le _, hT, .refl _⟩ ?_
  rintro ⟨tm, df⟩ wr ⟨hsz, hdf', hK, q154, q155, j, gv, q156, q15, hjM, hTr, htx⟩
  replace hdf' : df = [] := hdf'
  subst hdf'
  have HTW := Lib.hid hTr
  have HTX := Lib.hid htx
  have HE := Lib.hid hexit
  have HTWO := Lib.hid htwo
  have HM := Lib.hid hM
  have HROW := Lib.hid hrow
  have HFL := Lib.hid hfl
  have HCH := Lib.hid hch
  have HOK := Lib.hid hok
  clear hT hTr htx hexit htwo hM hrow hfl hch hok hdf
  simp only at hsz q154 q155 q156 q15
  obtain ⟨k, hk⟩ : ∃ k, k = m0 + j := ⟨_, rfl⟩
  rw [← hk] at q15
  have HK := Lib.hid hk
  have hk9 : k ≤ 1000000000 := by omega
  clear hk
  have k1 : tm.getD 1 undef = a0.tmps.getD 1 undef := AllEq.get hK 1 (by decide)
  have k14 : tm.getD 14 undef = a0.tmps.getD 14 undef := AllEq.get hK 14 (by decide)
  have k17 : tm.getD 17 undef = a0.tmps.getD 17 undef := AllEq.get hK 17 (by decide)
  have k18 : tm.getD 18 undef = a0.tmps.getD 18 undef := AllEq.get hK 18 (by decide)
  have k24 : tm.getD 24 undef = a0.tmps.getD 24 undef := AllEq.get hK 24 (by decide)
  have k105 : tm.getD 105 undef = a0.tmps.getD 105 undef := AllEq.get hK 105 (by decide)
  have k147 : tm.getD 147 undef = a0.tmps.getD 147 undef := AllEq.get hK 147 (by decide)
  have k148 : tm.getD 148 undef = a0.tmps.getD 148 undef := AllEq.get hK 148 (by decide)
  have k149 : tm.getD 149 undef = a0.tmps.getD 149 undef := AllEq.get hK 149 (by decide)
  have q2 : tm.getD 2 undef = .slice fa n2 fcap := (AllEq.get hK 2 (by decide)).trans h2
  have q7 : tm.getD 7 undef = .pointer (some ⟨lg, 0, none⟩) := (AllEq.get hK 7 (by decide)).trans h7
  have q8 : tm.getD 8 undef = .pointer (some ⟨gg, 0, none⟩) := (AllEq.get hK 8 (by decide)).trans h8
  have q9 : tm.getD 9 undef = .pointer (some ⟨g 0, 0, none⟩) := (AllEq.get hK 9 (by decide)).trans h9
  have q11 : tm.getD 11 undef = .pointer (some ⟨g 1, 0, none⟩) := (AllEq.get hK 11 (by decide)).trans h11
  have q16 : tm.getD 16 undef = .int .i64 i := (AllEq.get hK 16 (by decide)).trans h16
  have q23 : tm.getD 23 undef = .int .i64 0 := (AllEq.get hK 23 (by decide)).trans h23
  have he : tm = #[tm.getD 0 undef, tm.getD 1 undef, tm.getD 2 undef, tm.getD 3 undef, tm.getD 4 undef, tm.getD 5 undef, tm.getD 6 undef, tm.getD 7 undef, tm.getD 8 undef, tm.getD 9 undef, tm.getD 10 undef, tm.getD 11 undef, tm.getD 12 undef, tm.getD 13 undef, tm.getD 14 undef, tm.getD 15 undef, tm.getD 16 undef, tm.getD 17 undef, tm.getD 18 undef, tm.getD 19 undef, tm.getD 20 undef, tm.getD 21 undef, tm.getD 22 undef, tm.getD 23 undef, tm.getD 24 undef, tm.getD 25 undef, tm.getD 26 undef, tm.getD 27 undef, tm.getD 28 undef, tm.getD 29 undef, tm.getD 30 undef, tm.getD 31 undef, tm.getD 32 undef, tm.getD 33 undef, tm.getD 34 undef, tm.getD 35 undef, tm.getD 36 undef, tm.getD 37 undef, tm.getD 38 undef, tm.getD 39 undef, tm.getD 40 undef, tm.getD 41 undef, tm.getD 42 undef, tm.getD 43 undef, tm.getD 44 undef, tm.getD 45 undef, tm.getD 46 undef, tm.getD 47 undef, tm.getD 48 undef, tm.getD 49 undef, tm.getD 50 undef, tm.getD 51 undef, tm.getD 52 undef, tm.getD 53 undef, tm.getD 54 undef, tm.getD 55 undef, tm.getD 56 undef, tm.getD 57 undef, tm.getD 58 undef, tm.getD 59 undef, tm.getD 60 undef, tm.getD 61 undef, tm.getD 62 undef, tm.getD 63 undef, tm.getD 64 undef, tm.getD 65 undef, tm.getD 66 undef, tm.getD 67 undef, tm.getD 68 undef, tm.getD 69 undef, tm.getD 70 undef, tm.getD 71 undef, tm.getD 72 undef, tm.getD 73 undef, tm.getD 74 undef, tm.getD 75 undef, tm.getD 76 undef, tm.getD 77 undef, tm.getD 78 undef, tm.getD 79 undef, tm.getD 80 undef, tm.getD 81 undef, tm.getD 82 undef, tm.getD 83 undef, tm.getD 84 undef, tm.getD 85 undef, tm.getD 86 undef, tm.getD 87 undef, tm.getD 88 undef, tm.getD 89 undef, tm.getD 90 undef, tm.getD 91 undef, tm.getD 92 undef, tm.getD 93 undef, tm.getD 94 undef, tm.getD 95 undef, tm.getD 96 undef, tm.getD 97 undef, tm.getD 98 undef, tm.getD 99 undef, tm.getD 100 undef, tm.getD 101 undef, tm.getD 102 undef, tm.getD 103 undef, tm.getD 104 undef, tm.getD 105 undef, tm.getD 106 undef, tm.getD 107 undef, tm.getD 108 undef, tm.getD 109 undef, tm.getD 110 undef, tm.getD 111 undef, tm.getD 112 undef, tm.getD 113 undef, tm.getD 114 undef, tm.getD 115 undef, tm.getD 116 undef, tm.getD 117 undef, tm.getD 118 undef, tm.getD 119 undef, tm.getD 120 undef, tm.getD 121 undef, tm.getD 122 undef, tm.getD 123 undef, tm.getD 124 undef, tm.getD 125 undef, tm.getD 126 undef, tm.getD 127 undef, tm.getD 128 undef, tm.getD 129 undef, tm.getD 130 undef, tm.getD 131 undef, tm.getD 132 undef, tm.getD 133 undef, tm.getD 134 undef, tm.getD 135 undef, tm.getD 136 undef, tm.getD 137 undef, tm.getD 138 undef, tm.getD 139 undef, tm.getD 140 undef, tm.getD 141 undef, tm.getD 142 undef, tm.getD 143 undef, tm.getD 144 undef, tm.getD 145 undef, tm.getD 146 undef, tm.getD 147 undef, tm.getD 148 undef, tm.getD 149 undef, tm.getD 150 undef, tm.getD 151 undef, tm.getD 152 undef, tm.getD 153 undef, tm.getD 154 undef, tm.getD 155 undef, tm.getD 156 undef, tm.getD 157 undef, tm.getD 158 undef, tm.getD 159 undef, tm.getD 160 undef, tm.getD 161 undef, tm.getD 162 undef, tm.getD 163 undef, tm.getD 164 undef, tm.getD 165 undef, tm.getD 166 undef, tm.getD 167 undef, tm.getD 168 undef, tm.getD 169 undef, tm.getD 170 undef, tm.getD 171 undef, tm.getD 172 undef, tm.getD 173 undef, tm.getD 174 undef, tm.getD 175 undef, tm.getD 176 undef, tm.getD 177 undef, tm.getD 178 undef, tm.getD 179 undef, tm.getD 180 undef, tm.getD 181 undef, tm.getD 182 undef, tm.getD 183 undef, tm.getD 184 undef, tm.getD 185 undef, tm.getD 186 undef, tm.getD 187 undef, tm.getD 188 undef, tm.getD 189 undef, tm.getD 190 undef, tm.getD 191 undef, tm.getD 192 undef, tm.getD 193 undef, tm.getD 194 undef, tm.getD 195 undef, tm.getD 196 undef, tm.getD 197 undef, tm.getD 198 undef, tm.getD 199 undef, tm.getD 200 undef, tm.getD 201 undef, tm.getD 202 undef, tm.getD 203 undef, tm.getD 204 undef, tm.getD 205 undef, tm.getD 206 undef, tm.getD 207 undef, tm.getD 208 undef, tm.getD 209 undef, tm.getD 210 undef, tm.getD 211 undef, tm.getD 212 undef, tm.getD 213 undef, tm.getD 214 undef, tm.getD 215 undef, tm.getD 216 undef, tm.getD 217 undef, tm.getD 218 undef, tm.getD 219 undef, tm.getD 220 undef, tm.getD 221 undef, tm.getD 222 undef, tm.getD 223 undef, tm.getD 224 undef, tm.getD 225 undef, tm.getD 226 undef, tm.getD 227 undef, tm.getD 228 undef, tm.getD 229 undef, tm.getD 230 undef, tm.getD 231 undef, tm.getD 232 undef, tm.getD 233 undef, tm.getD 234 undef, tm.getD 235 undef, tm.getD 236 undef, tm.getD 237 undef, tm.getD 238 undef, tm.getD 239 undef, tm.getD 240 undef, tm.getD 241 undef, tm.getD 242 undef, tm.getD 243 undef, tm.getD 244 undef, tm.getD 245 undef, tm.getD 246 undef, tm.getD 247 undef, tm.getD 248 undef, tm.getD 249 undef, tm.getD 250 undef, tm.getD 251 undef, tm.getD 252 undef, tm.getD 253 undef] := arr_eta (n := 254) hsz
  rw [he, q2, q7, q8, q9, q11, q15, q16, q23, q154, q155, q156]
  clear he hK hsz q2 q7 q8 q9 q11 q15 q16 q23 q154 q155 q156
  generalize tm.getD 0 undef = x0
  generalize tm.getD 1 undef = x1 at k1 ⊢
  generalize tm.getD 3 undef = x3
  generalize tm.getD 4 undef = x4
  generalize tm.getD 5 undef = x5
  generalize tm.getD 6 undef = x6
  generalize tm.getD 10 undef = x10
  generalize tm.getD 12 undef = x12
  generalize tm.getD 13 undef = x13
  generalize tm.getD 14 undef = x14 at k14 ⊢
  generalize tm.getD 17 undef = x17 at k17 ⊢
  generalize tm.getD 18 undef = x18 at k18 ⊢
  generalize tm.getD 19 undef = x19
  generalize tm.getD 20 undef = x20
  generalize tm.getD 21 undef = x21
  generalize tm.getD 22 undef = x22
  generalize tm.getD 24 undef = x24 at k24 ⊢
  generalize tm.getD 25 undef = x25
  generalize tm.getD 26 undef = x26
  generalize tm.getD 27 undef = x27
  generalize tm.getD 28 undef = x28
  generalize tm.getD 29 undef = x29
  generalize tm.getD 30 undef = x30
  generalize tm.getD 31 undef = x31
  generalize tm.getD 32 undef = x32
  generalize tm.getD 33 undef = x33
  generalize tm.getD 34 undef = x34
  generalize tm.getD 35 undef = x35
  generalize tm.getD 36 undef = x36
  generalize tm.getD 37 undef = x37
  generalize tm.getD 38 undef = x38
  generalize tm.getD 39 undef = x39
  generalize tm.getD 40 undef = x40
  generalize tm.getD 41 undef = x41
  generalize tm.getD 42 undef = x42
  generalize tm.getD 43 undef = x43
  generalize tm.getD 44 undef = x44
  generalize tm.getD 45 undef = x45
  generalize tm.getD 46 undef = x46
  generalize tm.getD 47 undef = x47
  generalize tm.getD 48 undef = x48
  generalize tm.getD 49 undef = x49
  generalize tm.getD 50 undef = x50
  generalize tm.getD 51 undef = x51
  generalize tm.getD 52 undef = x52
  generalize tm.getD 53 undef = x53
  generalize tm.getD 54 undef = x54
  generalize tm.getD 55 undef = x55
  generalize tm.getD 56 undef = x56
  generalize tm.getD 57 undef = x57
  generalize tm.getD 58 undef = x58
  generalize tm.getD 59 undef = x59
  generalize tm.getD 60 undef = x60
  generalize tm.getD 61 undef = x61
  generalize tm.getD 62 undef = x62
  generalize tm.getD 63 undef = x63
  generalize tm.getD 64 undef = x64
  generalize tm.getD 65 undef = x65
  generalize tm.getD 66 undef = x66
  generalize tm.getD 67 undef = x67
  generalize tm.getD 68 undef = x68
  generalize tm.getD 69 undef = x69
  generalize tm.getD 70 undef = x70
  generalize tm.getD 71 undef = x71
  generalize tm.getD 72 undef = x72
  generalize tm.getD 73 undef = x73
  generalize tm.getD 74 undef = x74
  generalize tm.getD 75 undef = x75
  generalize tm.getD 76 undef = x76
  generalize tm.getD 77 undef = x77
  generalize tm.getD 78 undef = x78
  generalize tm.getD 79 undef = x79
  generalize tm.getD 80 undef = x80
  generalize tm.getD 81 undef = x81
  generalize tm.getD 82 undef = x82
  generalize tm.getD 83 undef = x83
  generalize tm.getD 84 undef = x84
  generalize tm.getD 85 undef = x85
  generalize tm.getD 86 undef = x86
  generalize tm.getD 87 undef = x87
  generalize tm.getD 88 undef = x88
  generalize tm.getD 89 undef = x89
  generalize tm.getD 90 undef = x90
  generalize tm.getD 91 undef = x91
  generalize tm.getD 92 undef = x92
  generalize tm.getD 93 undef = x93
  generalize tm.getD 94 undef = x94
  generalize tm.getD 95 undef = x95
  generalize tm.getD 96 undef = x96
  generalize tm.getD 97 undef = x97
  generalize tm.getD 98 undef = x98
  generalize tm.getD 99 undef = x99
  generalize tm.getD 100 undef = x100
  generalize tm.getD 101 undef = x101
  generalize tm.getD 102 undef = x102
  generalize tm.getD 103 undef = x103
  generalize tm.getD 104 undef = x104
  generalize tm.getD 105 undef = x105 at k105 ⊢
  generalize tm.getD 106 undef = x106
  generalize tm.getD 107 undef = x107
  generalize tm.getD 108 undef = x108
  generalize tm.getD 109 undef = x109
  generalize tm.getD 110 undef = x110
  generalize tm.getD 111 undef = x111
  generalize tm.getD 112 undef = x112
  generalize tm.getD 113 undef = x113
  generalize tm.getD 114 undef = x114
  generalize tm.getD 115 undef = x115
  generalize tm.getD 116 undef = x116
  generalize tm.getD 117 undef = x117
  generalize tm.getD 118 undef = x118
  generalize tm.getD 119 undef = x119
  generalize tm.getD 120 undef = x120
  generalize tm.getD 121 undef = x121
  generalize tm.getD 122 undef = x122
  generalize tm.getD 123 undef = x123
  generalize tm.getD 124 undef = x124
  generalize tm.getD 125 undef = x125
  generalize tm.getD 126 undef = x126
  generalize tm.getD 127 undef = x127
  generalize tm.getD 128 undef = x128
  generalize tm.getD 129 undef = x129
  generalize tm.getD 130 undef = x130
  generalize tm.getD 131 undef = x131
  generalize tm.getD 132 undef = x132
  generalize tm.getD 133 undef = x133
  generalize tm.getD 134 undef = x134
  generalize tm.getD 135 undef = x135
  generalize tm.getD 136 undef = x136
  generalize tm.getD 137 undef = x137
  generalize tm.getD 138 undef = x138
  generalize tm.getD 139 undef = x139
  generalize tm.getD 140 undef = x140
  generalize tm.getD 141 undef = x141
  generalize tm.getD 142 undef = x142
  generalize tm.getD 143 undef = x143
  generalize tm.getD 144 undef = x144
  generalize tm.getD 145 undef = x145
  generalize tm.getD 146 undef = x146
  generalize tm.getD 147 undef = x147 at k147 ⊢
  generalize tm.getD 148 undef = x148 at k148 ⊢
  generalize tm.getD 149 undef = x149 at k149 ⊢
  generalize tm.getD 150 undef = x150
  generalize tm.getD 151 undef = x151
  generalize tm.getD 152 undef = x152
  generalize tm.getD 153 undef = x153
  generalize tm.getD 157 undef = x157
  generalize tm.getD 158 undef = x158
  generalize tm.getD 159 undef = x159
  generalize tm.getD 160 undef = x160
  generalize tm.getD 161 undef = x161
  generalize tm.getD 162 undef = x162
  generalize tm.getD 163 undef = x163
  generalize tm.getD 164 undef = x164
  generalize tm.getD 165 undef = x165
  generalize tm.getD 166 undef = x166
  generalize tm.getD 167 undef = x167
  generalize tm.getD 168 undef = x168
  generalize tm.getD 169 undef = x169
  generalize tm.getD 170 undef = x170
  generalize tm.getD 171 undef = x171
  generalize tm.getD 172 undef = x172
  generalize tm.getD 173 undef = x173
  generalize tm.getD 174 undef = x174
  generalize tm.getD 175 undef = x175
  generalize tm.getD 176 undef = x176
  generalize tm.getD 177 undef = x177
  generalize tm.getD 178 undef = x178
  generalize tm.getD 179 undef = x179
  generalize tm.getD 180 undef = x180
  generalize tm.getD 181 undef = x181
  generalize tm.getD 182 undef = x182
  generalize tm.getD 183 undef = x183
  generalize tm.getD 184 undef = x184
  generalize tm.getD 185 undef = x185
  generalize tm.getD 186 undef = x186
  generalize tm.getD 187 undef = x187
  generalize tm.getD 188 undef = x188
  generalize tm.getD 189 undef = x189
  generalize tm.getD 190 undef = x190
  generalize tm.getD 191 undef = x191
  generalize tm.getD 192 undef = x192
  generalize tm.getD 193 undef = x193
  generalize tm.getD 194 undef = x194
  generalize tm.getD 195 undef = x195
  generalize tm.getD 196 undef = x196
  generalize tm.getD 197 undef = x197
  generalize tm.getD 198 undef = x198
  generalize tm.getD 199 undef = x199
  generalize tm.getD 200 undef = x200
  generalize tm.getD 201 undef = x201
  generalize tm.getD 202 undef = x202
  generalize tm.getD 203 undef = x203
  generalize tm.getD 204 undef = x204
  generalize tm.getD 205 undef = x205
  generalize tm.getD 206 undef = x206
  generalize tm.getD 207 undef = x207
  generalize tm.getD 208 undef = x208
  generalize tm.getD 209 undef = x209
  generalize tm.getD 210 undef = x210
  generalize tm.getD 211 undef = x211
  generalize tm.getD 212 undef = x212
  generalize tm.getD 213 undef = x213
  generalize tm.getD 214 undef = x214
  generalize tm.getD 215 undef = x215
  generalize tm.getD 216 undef = x216
  generalize tm.getD 217 undef = x217
  generalize tm.getD 218 undef = x218
  generalize tm.getD 219 undef = x219
  generalize tm.getD 220 undef = x220
  generalize tm.getD 221 undef = x221
  generalize tm.getD 222 undef = x222
  generalize tm.getD 223 undef = x223
  generalize tm.getD 224 undef = x224
  generalize tm.getD 225 undef = x225
  generalize tm.getD 226 undef = x226
  generalize tm.getD 227 undef = x227
  generalize tm.getD 228 undef = x228
  generalize tm.getD 229 undef = x229
  generalize tm.getD 230 undef = x230
  generalize tm.getD 231 undef = x231
  generalize tm.getD 232 undef = x232
  generalize tm.getD 233 undef = x233
  generalize tm.getD 234 undef = x234
  generalize tm.getD 235 undef = x235
  generalize tm.getD 236 undef = x236
  generalize tm.getD 237 undef = x237
  generalize tm.getD 238 undef = x238
  generalize tm.getD 239 undef = x239
  generalize tm.getD 240 undef = x240
  generalize tm.getD 241 undef = x241
  generalize tm.getD 242 undef = x242
  generalize tm.getD 243 undef = x243
  generalize tm.getD 244 undef = x244
  generalize tm.getD 245 undef = x245
  generalize tm.getD 246 undef = x246
  generalize tm.getD 247 undef = x247
  generalize tm.getD 248 undef = x248
  generalize tm.getD 249 undef = x249
  generalize tm.getD 250 undef = x250
  generalize tm.getD 251 undef = x251
  generalize tm.getD 252 undef = x252
  generalize tm.getD 253 undef = x253
  have HKK : Hid (x1 = a0.tmps.getD 1 undef ∧ x14 = a0.tmps.getD 14 undef ∧ x17 = a0.tmps.getD 17 undef ∧ x18 = a0.tmps.getD 18 undef ∧ x24 = a0.tmps.getD 24 undef ∧ x105 = a0.tmps.getD 105 undef ∧ x147 = a0.tmps.getD 147 undef ∧ x148 = a0.tmps.getD 148 undef ∧ x149 = a0.tmps.getD 149 undef ∧ True) := Lib.hid ⟨k1, k14, k17, k18, k24, k105, k147, k148, k149, trivial⟩
  clear k1 k14 k17 k18 k24 k105 k147 k148 k149
  clear h154 h155 h156 h15
  unfold lawBody
  conv => arg 2; whnf
  obtain ⟨mva, mcap, hmv, hcap, hform⟩ := srow_form (Texts.row HROW.out HTX.out)
  by_cases hlt : j < M.length
  · obtain ⟨S, hS⟩ : ∃ S, M[j]? = some S := ⟨_, List.getElem?_eq_getElem hlt⟩
    obtain ⟨gb, rfl, z0⟩ := hform j _ hS
    have HXN : Hid (∀ R, repOf fl n2 k = R → (expd (repOf fl n2) m0 (M.take (j + 1))) = (expd (repOf fl n2) m0 (M.take j)) ++ List.replicate R S) := Lib.hid (by
      intro R hR
      rw [List.take_add_one, hS, Option.toList_some, expd_snoc, List.length_take, Nat.min_eq_left (by omega), ← HK.out, hR])
    have HLE : Hid (∀ R, R ≤ 2 → ∀ S' ∈ (expd (repOf fl n2) m0 (M.take j)) ++ List.replicate R S, S' ∈ M) := Lib.hid (by
      intro R _ S' h
      rcases List.mem_append.1 h with h | h
      · exact List.mem_of_mem_take (expd_sub _ _ _ _ h)
      · rw [(List.mem_replicate.1 h).2]
        exact List.mem_of_getElem? hS)
    replace HLE : Hid (∀ R, R ≤ 2 → ∀ S' ∈ (expd (repOf fl n2) m0 (M.take j)) ++ List.replicate R S, LetIn (C1.map encAll) a2.taken 1 S') := Lib.hid (fun R hR S' h => HM.out S' (HLE.out R hR S' h))
    clear hform hS
    subst hmv
    by_cases hin : k < n2 ∧ k < 60
    · obtain ⟨hin, h60⟩ := hin
      obtain ⟨fb, foff, rfl, hfc0, hwf⟩ := HFL.out k hin
      have zf := cell_only HTW.out.only (fun h => h) hfc0
      have d1 : decide ((k : Int) < n2) = true := decide_eq_true (by omega)
      have d2 : decide ((k : Int) < 60) = true := decide_eq_true (by omega)
      have hrep := Lib.hid (show repOf fl n2 k = (if fl k % 3 = 0 then 1 else if fl k % 3 = 1 then 0 else 2) from if_pos ⟨hin, h60⟩)
      clear hfc0
      go_wp2_with fail
      refine (among_any (fl k) 3 _ hwf (by decide) (by decide)).mono ?_
      rintro e _ ⟨rfl, rfl⟩
      have h3 : fl k % 3 = 0 ∨ fl k % 3 = 1 ∨ fl k % 3 = 2 := by omega
      generalize fl k % 3 = φ at h3 hrep ⊢
      rcases h3 with rfl | rfl | rfl
      · have HR : Hid (repOf fl n2 k = 1) := Lib.hid (by rw [hrep.out]; rfl)
        clear hrep
        have hkb := (Only.refl (fun _ => False) wr).alloc (.cells #[.int .i64 1, .int .i64 0, .int .i64 2] 3)
        have hXX : (takeAll (b1, T0) ((expd (repOf fl n2) m0 (M.take j)) ++ List.replicate 0 S) i) = (takeAll (b1, T0) (expd (repOf fl n2) m0 (M.take j)) i) := by rw [List.replicate_zero, List.append_nil]
        rw [← hXX] at HTW
        clear hXX
        go_wp2_with fail
        refine loop6a _ W _ g mo me lg gg lv gv L a2 b1 C1 given T0 (expd (repOf fl n2) m0 (M.take j)) S 1 i rfl rfl rfl rfl rfl rfl rfl rfl rfl rfl rfl (by omega) hL HTWO.out (HLE.out 1 (by omega)) HCH.out HOK.out (HTW.out.keep hkb) ?_
        rintro ⟨tm, df⟩ w3 gv3 hsz' hdf' hK' hT3 htx3
        rw [← HXN.out 1 HR.out] at hT3
        have HT3 := Lib.hid hT3
        have HTX3 := Lib.hid ((HTX.out.trans (.of hkb)).trans htx3)
        clear hT3 htx3 HTX hkb
        simp only at hsz'
        replace hdf' : df = [] := hdf'
        subst hdf'
        have q1 : tm.getD 1 undef = x1 := AllEq.get hK' 1 (by decide)
        have q2 : tm.getD 2 undef = .slice (some ⟨fb, foff, none⟩) n2 fcap := AllEq.get hK' 2 (by decide)
        have q7 : tm.getD 7 undef = .pointer (some ⟨lg, 0, none⟩) := AllEq.get hK' 7 (by decide)
        have q8 : tm.getD 8 undef = .pointer (some ⟨gg, 0, none⟩) := AllEq.get hK' 8 (by decide)
        have q9 : tm.getD 9 undef = .pointer (some ⟨g 0, 0, none⟩) := AllEq.get hK' 9 (by decide)
        have q11 : tm.getD 11 undef = .pointer (some ⟨g 1, 0, none⟩) := AllEq.get hK' 11 (by decide)
        have q14 : tm.getD 14 undef = x14 := AllEq.get hK' 14 (by decide)
        have q16 : tm.getD 16 undef = .int .i64 i := AllEq.get hK' 16 (by decide)
        have q17 : tm.getD 17 undef = x17 := AllEq.get hK' 17 (by decide)
        have q18 : tm.getD 18 undef = x18 := AllEq.get hK' 18 (by decide)
        have q23 : tm.getD 23 undef = .int .i64 0 := AllEq.get hK' 23 (by decide)
        have q24 : tm.getD 24 undef = x24 := AllEq.get hK' 24 (by decide)
        have q105 : tm.getD 105 undef = x105 := AllEq.get hK' 105 (by decide)
        have q147 : tm.getD 147 undef = x147 := AllEq.get hK' 147 (by decide)
        have q148 : tm.getD 148 undef = x148 := AllEq.get hK' 148 (by decide)
        have q149 : tm.getD 149 undef = x149 := AllEq.get hK' 149 (by decide)
        have q15 : tm.getD 15 undef = .int .i64 ((k : Int) + 1) := AllEq.get hK' 15 (by decide)
        have q154 : tm.getD 154 undef = .slice (some ⟨gb, 0, none⟩) M.length mcap := AllEq.get hK' 154 (by decide)
        have q155 : tm.getD 155 undef = .int .i64 M.length := AllEq.get hK' 155 (by decide)
        have q156 : tm.getD 156 undef = .int .i64 j := AllEq.get hK' 156 (by decide)
        have he : tm = #[tm.getD 0 undef, tm.getD 1 undef, tm.getD 2 undef, tm.getD 3 undef, tm.getD 4 undef, tm.getD 5 undef, tm.getD 6 undef, tm.getD 7 undef, tm.getD 8 undef, tm.getD 9 undef, tm.getD 10 undef, tm.getD 11 undef, tm.getD 12 undef, tm.getD 13 undef, tm.getD 14 undef, tm.getD 15 undef, tm.getD 16 undef, tm.getD 17 undef, tm.getD 18 undef, tm.getD 19 undef, tm.getD 20 undef, tm.getD 21 undef, tm.getD 22 undef, tm.getD 23 undef, tm.getD 24 undef, tm.getD 25 undef, tm.getD 26 undef, tm.getD 27 undef, tm.getD 28 undef, tm.getD 29 undef, tm.getD 30 undef, tm.getD 31 undef, tm.getD 32 undef, tm.getD 33 undef, tm.getD 34 undef, tm.getD 35 undef, tm.getD 36 undef, tm.getD 37 undef, tm.getD 38 undef, tm.getD 39 undef, tm.getD 40 undef, tm.getD 41 undef, tm.getD 42 undef, tm.getD 43 undef, tm.getD 44 undef, tm.getD 45 undef, tm.getD 46 undef, tm.getD 47 undef, tm.getD 48 undef, tm.getD 49 undef, tm.getD 50 undef, tm.getD 51 undef, tm.getD 52 undef, tm.getD 53 undef, tm.getD 54 undef, tm.getD 55 undef, tm.getD 56 undef, tm.getD 57 undef, tm.getD 58 undef, tm.getD 59 undef, tm.getD 60 undef, tm.getD 61 undef, tm.getD 62 undef, tm.getD 63 undef, tm.getD 64 undef, tm.getD 65 undef, tm.getD 66 undef, tm.getD 67 undef, tm.getD 68 undef, tm.getD 69 undef, tm.getD 70 undef, tm.getD 71 undef, tm.getD 72 undef, tm.getD 73 undef, tm.getD 74 undef, tm.getD 75 undef, tm.getD 76 undef, tm.getD 77 undef, tm.getD 78 undef, tm.getD 79 undef, tm.getD 80 undef, tm.getD 81 undef, tm.getD 82 undef, tm.getD 83 undef, tm.getD 84 undef, tm.getD 85 undef, tm.getD 86 undef, tm.getD 87 undef, tm.getD 88 undef, tm.getD 89 undef, tm.getD 90 undef, tm.getD 91 undef, tm.getD 92 undef, tm.getD 93 undef, tm.getD 94 undef, tm.getD 95 undef, tm.getD 96 undef, tm.getD 97 undef, tm.getD 98 undef, tm.getD 99 undef, tm.getD 100 undef, tm.getD 101 undef, tm.getD 102 undef, tm.getD 103 undef, tm.getD 104 undef, tm.getD 105 undef, tm.getD 106 undef, tm.getD 107 undef, tm.getD 108 undef, tm.getD 109 undef, tm.getD 110 undef, tm.getD 111 undef, tm.getD 112 undef, tm.getD 113 undef, tm.getD 114 undef, tm.getD 115 undef, tm.getD 116 undef, tm.getD 117 undef, tm.getD 118 undef, tm.getD 119 undef, tm.getD 120 undef, tm.getD 121 undef, tm.getD 122 undef, tm.getD 123 undef, tm.getD 124 undef, tm.getD 125 undef, tm.getD 126 undef, tm.getD 127 undef, tm.getD 128 undef, tm.getD 129 undef, tm.getD 130 undef, tm.getD 131 undef, tm.getD 132 undef, tm.getD 133 undef, tm.getD 134 undef, tm.getD 135 undef, tm.getD 136 undef, tm.getD 137 undef, tm.getD 138 undef, tm.getD 139 undef, tm.getD 140 undef, tm.getD 141 undef, tm.getD 142 undef, tm.getD 143 undef, tm.getD 144 undef, tm.getD 145 undef, tm.getD 146 undef, tm.getD 147 undef, tm.getD 148 undef, tm.getD 149 undef, tm.getD 150 undef, tm.getD 151 undef, tm.getD 152 undef, tm.getD 153 undef, tm.getD 154 undef, tm.getD 155 undef, tm.getD 156 undef, tm.getD 157 undef, tm.getD 158 undef, tm.getD 159 undef, tm.getD 160 undef, tm.getD 161 undef, tm.getD 162 undef, tm.getD 163 undef, tm.getD 164 undef, tm.getD 165 undef, tm.getD 166 undef, tm.getD 167 undef, tm.getD 168 undef, tm.getD 169 undef, tm.getD 170 undef, tm.getD 171 undef, tm.getD 172 undef, tm.getD 173 undef, tm.getD 174 undef, tm.getD 175 undef, tm.getD 176 undef, tm.getD 177 undef, tm.getD 178 undef, tm.getD 179 undef, tm.getD 180 undef, tm.getD 181 undef, tm.getD 182 undef, tm.getD 183 undef, tm.getD 184 undef, tm.getD 185 undef, tm.getD 186 undef, tm.getD 187 undef, tm.getD 188 undef, tm.getD 189 undef, tm.getD 190 undef, tm.getD 191 undef, tm.getD 192 undef, tm.getD 193 undef, tm.getD 194 undef, tm.getD 195 undef, tm.getD 196 undef, tm.getD 197 undef, tm.getD 198 undef, tm.getD 199 undef, tm.getD 200 undef, tm.getD 201 undef, tm.getD 202 undef, tm.getD 203 undef, tm.getD 204 undef, tm.getD 205 undef, tm.getD 206 undef, tm.getD 207 undef, tm.getD 208 undef, tm.getD 209 undef, tm.getD 210 undef, tm.getD 211 undef, tm.getD 212 undef, tm.getD 213 undef, tm.getD 214 undef, tm.getD 215 undef, tm.getD 216 undef, tm.getD 217 undef, tm.getD 218 undef, tm.getD 219 undef, tm.getD 220 undef, tm.getD 221 undef, tm.getD 222 undef, tm.getD 223 undef, tm.getD 224 undef, tm.getD 225 undef, tm.getD 226 undef, tm.getD 227 undef, tm.getD 228 undef, tm.getD 229 undef, tm.getD 230 undef, tm.getD 231 undef, tm.getD 232 undef, tm.getD 233 undef, tm.getD 234 undef, tm.getD 235 undef, tm.getD 236 undef, tm.getD 237 undef, tm.getD 238 undef, tm.getD 239 undef, tm.getD 240 undef, tm.getD 241 undef, tm.getD 242 undef, tm.getD 243 undef, tm.getD 244 undef, tm.getD 245 undef, tm.getD 246 undef, tm.getD 247 undef, tm.getD 248 undef, tm.getD 249 undef, tm.getD 250 undef, tm.getD 251 undef, tm.getD 252 undef, tm.getD 253 undef] := arr_eta (n := 254) hsz'
        rw [he, q1, q2, q7, q8, q9, q11, q14, q16, q17, q18, q23, q24, q105, q147, q148, q149, q15, q154, q155, q156]
        clear he hK' hsz' q1 q2 q7 q8 q9 q11 q14 q16 q17 q18 q23 q24 q105 q147 q148 q149 q15 q154 q155 q156
        generalize tm.getD 0 undef = y0
        generalize tm.getD 3 undef = y3
        generalize tm.getD 4 undef = y4
        generalize tm.getD 5 undef = y5
        generalize tm.getD 6 undef = y6
        generalize tm.getD 10 undef = y10
        generalize tm.getD 12 undef = y12
        generalize tm.getD 13 undef = y13
        generalize tm.getD 19 undef = y19
        generalize tm.getD 20 undef = y20
        generalize tm.getD 21 undef = y21
        generalize tm.getD 22 undef = y22
        generalize tm.getD 25 undef = y25
        generalize tm.getD 26 undef = y26
        generalize tm.getD 27 undef = y27
        generalize tm.getD 28 undef = y28
        generalize tm.getD 29 undef = y29
        generalize tm.getD 30 undef = y30
        generalize tm.getD 31 undef = y31
        generalize tm.getD 32 undef = y32
        generalize tm.getD 33 undef = y33
        generalize tm.getD 34 undef = y34
        generalize tm.getD 35 undef = y35
        generalize tm.getD 36 undef = y36
        generalize tm.getD 37 undef = y37
        generalize tm.getD 38 undef = y38
        generalize tm.getD 39 undef = y39
        generalize tm.getD 40 undef = y40
        generalize tm.getD 41 undef = y41
        generalize tm.getD 42 undef = y42
        generalize tm.getD 43 undef = y43
        generalize tm.getD 44 undef = y44
        generalize tm.getD 45 undef = y45
        generalize tm.getD 46 undef = y46
        generalize tm.getD 47 undef = y47
        generalize tm.getD 48 undef = y48
        generalize tm.getD 49 undef = y49
        generalize tm.getD 50 undef = y50
        generalize tm.getD 51 undef = y51
        generalize tm.getD 52 undef = y52
        generalize tm.getD 53 undef = y53
        generalize tm.getD 54 undef = y54
        generalize tm.getD 55 undef = y55
        generalize tm.getD 56 undef = y56
        generalize tm.getD 57 undef = y57
        generalize tm.getD 58 undef = y58
        generalize tm.getD 59 undef = y59
        generalize tm.getD 60 undef = y60
        generalize tm.getD 61 undef = y61
        generalize tm.getD 62 undef = y62
        generalize tm.getD 63 undef = y63
        generalize tm.getD 64 undef = y64
        generalize tm.getD 65 undef = y65
        generalize tm.getD 66 undef = y66
        generalize tm.getD 67 undef = y67
        generalize tm.getD 68 undef = y68
        generalize tm.getD 69 undef = y69
        generalize tm.getD 70 undef = y70
        generalize tm.getD 71 undef = y71
        generalize tm.getD 72 undef = y72
        generalize tm.getD 73 undef = y73
        generalize tm.getD 74 undef = y74
        generalize tm.getD 75 undef = y75
        generalize tm.getD 76 undef = y76
        generalize tm.getD 77 undef = y77
        generalize tm.getD 78 undef = y78
        generalize tm.getD 79 undef = y79
        generalize tm.getD 80 undef = y80
        generalize tm.getD 81 undef = y81
        generalize tm.getD 82 undef = y82
        generalize tm.getD 83 undef = y83
        generalize tm.getD 84 undef = y84
        generalize tm.getD 85 undef = y85
        generalize tm.getD 86 undef = y86
        generalize tm.getD 87 undef = y87
        generalize tm.getD 88 undef = y88
        generalize tm.getD 89 undef = y89
        generalize tm.getD 90 undef = y90
        generalize tm.getD 91 undef = y91
        generalize tm.getD 92 undef = y92
        generalize tm.getD 93 undef = y93
        generalize tm.getD 94 undef = y94
        generalize tm.getD 95 undef = y95
        generalize tm.getD 96 undef = y96
        generalize tm.getD 97 undef = y97
        generalize tm.getD 98 undef = y98
        generalize tm.getD 99 undef = y99
        generalize tm.getD 100 undef = y100
        generalize tm.getD 101 undef = y101
        generalize tm.getD 102 undef = y102
        generalize tm.getD 103 undef = y103
        generalize tm.getD 104 undef = y104
        generalize tm.getD 106 undef = y106
        generalize tm.getD 107 undef = y107
        generalize tm.getD 108 undef = y108
        generalize tm.getD 109 undef = y109
        generalize tm.getD 110 undef = y110
        generalize tm.getD 111 undef = y111
        generalize tm.getD 112 undef = y112
        generalize tm.getD 113 undef = y113
        generalize tm.getD 114 undef = y114
        generalize tm.getD 115 undef = y115
        generalize tm.getD 116 undef = y116
        generalize tm.getD 117 undef = y117
        generalize tm.getD 118 undef = y118
        generalize tm.getD 119 undef = y119
        generalize tm.getD 120 undef = y120
        generalize tm.getD 121 undef = y121
        generalize tm.getD 122 undef = y122
        generalize tm.getD 123 undef = y123
        generalize tm.getD 124 undef = y124
        generalize tm.getD 125 undef = y125
        generalize tm.getD 126 undef = y126
        generalize tm.getD 127 undef = y127
        generalize tm.getD 128 undef = y128
        generalize tm.getD 129 undef = y129
        generalize tm.getD 130 undef = y130
        generalize tm.getD 131 undef = y131
        generalize tm.getD 132 undef = y132
        generalize tm.getD 133 undef = y133
        generalize tm.getD 134 undef = y134
        generalize tm.getD 135 undef = y135
        generalize tm.getD 136 undef = y136
        generalize tm.getD 137 undef = y137
        generalize tm.getD 138 undef = y138
        generalize tm.getD 139 undef = y139
        generalize tm.getD 140 undef = y140
        generalize tm.getD 141 undef = y141
        generalize tm.getD 142 undef = y142
        generalize tm.getD 143 undef = y143
        generalize tm.getD 144 undef = y144
        generalize tm.getD 145 undef = y145
        generalize tm.getD 146 undef = y146
        generalize tm.getD 150 undef = y150
        generalize tm.getD 151 undef = y151
        generalize tm.getD 152 undef = y152
        generalize tm.getD 153 undef = y153
        generalize tm.getD 157 undef = y157
        generalize tm.getD 158 undef = y158
        generalize tm.getD 159 undef = y159
        generalize tm.getD 160 undef = y160
        generalize tm.getD 161 undef = y161
        generalize tm.getD 162 undef = y162
        generalize tm.getD 163 undef = y163
        generalize tm.getD 164 undef = y164
        generalize tm.getD 165 undef = y165
        generalize tm.getD 166 undef = y166
        generalize tm.getD 167 undef = y167
        generalize tm.getD 168 undef = y168
        generalize tm.getD 169 undef = y169
        generalize tm.getD 170 undef = y170
        generalize tm.getD 171 undef = y171
        generalize tm.getD 172 undef = y172
        generalize tm.getD 173 undef = y173
        generalize tm.getD 174 undef = y174
        generalize tm.getD 175 undef = y175
        generalize tm.getD 176 undef = y176
        generalize tm.getD 177 undef = y177
        generalize tm.getD 178 undef = y178
        generalize tm.getD 179 undef = y179
        generalize tm.getD 180 undef = y180
        generalize tm.getD 181 undef = y181
        generalize tm.getD 182 undef = y182
        generalize tm.getD 183 undef = y183
        generalize tm.getD 184 undef = y184
        generalize tm.getD 185 undef = y185
        generalize tm.getD 186 undef = y186
        generalize tm.getD 187 undef = y187
        generalize tm.getD 188 undef = y188
        generalize tm.getD 189 undef = y189
        generalize tm.getD 190 undef = y190
        generalize tm.getD 191 undef = y191
        generalize tm.getD 192 undef = y192
        generalize tm.getD 193 undef = y193
        generalize tm.getD 194 undef = y194
        generalize tm.getD 195 undef = y195
        generalize tm.getD 196 undef = y196
        generalize tm.getD 197 undef = y197
        generalize tm.getD 198 undef = y198
        generalize tm.getD 199 undef = y199
        generalize tm.getD 200 undef = y200
        generalize tm.getD 201 undef = y201
        generalize tm.getD 202 undef = y202
        generalize tm.getD 203 undef = y203
        generalize tm.getD 204 undef = y204
        generalize tm.getD 205 undef = y205
        generalize tm.getD 206 undef = y206
        generalize tm.getD 207 undef = y207
        generalize tm.getD 208 undef = y208
        generalize tm.getD 209 undef = y209
        generalize tm.getD 210 undef = y210
        generalize tm.getD 211 undef = y211
        generalize tm.getD 212 undef = y212
        generalize tm.getD 213 undef = y213
        generalize tm.getD 214 undef = y214
        generalize tm.getD 215 undef = y215
        generalize tm.getD 216 undef = y216
        generalize tm.getD 217 undef = y217
        generalize tm.getD 218 undef = y218
        generalize tm.getD 219 undef = y219
        generalize tm.getD 220 undef = y220
        generalize tm.getD 221 undef = y221
        generalize tm.getD 222 undef = y222
        generalize tm.getD 223 undef = y223
        generalize tm.getD 224 undef = y224
        generalize tm.getD 225 undef = y225
        generalize tm.getD 226 undef = y226
        generalize tm.getD 227 undef = y227
        generalize tm.getD 228 undef = y228
        generalize tm.getD 229 undef = y229
        generalize tm.getD 230 undef = y230
        generalize tm.getD 231 undef = y231
        generalize tm.getD 232 undef = y232
        generalize tm.getD 233 undef = y233
        generalize tm.getD 234 undef = y234
        generalize tm.getD 235 undef = y235
        generalize tm.getD 236 undef = y236
        generalize tm.getD 237 undef = y237
        generalize tm.getD 238 undef = y238
        generalize tm.getD 239 undef = y239
        generalize tm.getD 240 undef = y240
        generalize tm.getD 241 undef = y241
        generalize tm.getD 242 undef = y242
        generalize tm.getD 243 undef = y243
        generalize tm.getD 244 undef = y244
        generalize tm.getD 245 undef = y245
        generalize tm.getD 246 undef = y246
        generalize tm.getD 247 undef = y247
        generalize tm.getD 248 undef = y248
        generalize tm.getD 249 undef = y249
        generalize tm.getD 250 undef = y250
        generalize tm.getD 251 undef = y251
        generalize tm.getD 252 undef = y252
        generalize tm.getD 253 undef = y253
        go_wp2_with fail
        refine ⟨⟨(by first | rfl | trivial), (by first | rfl | trivial), (by obtain ⟨k1, k14, k17, k18, k24, k105, k147, k148, k149, _⟩ := HKK.out; exact ⟨k1, h2.symm, h7.symm, h8.symm, h9.symm, h11.symm, k14, h16.symm, k17, k18, h23.symm, k24, k105, k147, k148, k149, trivial⟩), (by first | rfl | trivial), (by first | rfl | trivial), j + 1, gv3, by go_num, by have := HK.out; push_cast; go_num, hlt, HT3.out, HTX3.out⟩, ?_⟩
        simp [intOf]; omega
      · have HR : Hid (repOf fl n2 k = 0) := Lib.hid (by rw [hrep.out]; rfl)
        clear hrep
        have hkb := (Only.refl (fun _ => False) wr).alloc (.cells #[.int .i64 1, .int .i64 0, .int .i64 2] 3)
        have hXX : (takeAll (b1, T0) ((expd (repOf fl n2) m0 (M.take j)) ++ List.replicate 0 S) i) = (takeAll (b1, T0) (expd (repOf fl n2) m0 (M.take j)) i) := by rw [List.replicate_zero, List.append_nil]
        rw [← hXX] at HTW
        clear hXX
        go_wp2_with fail
        refine loop6a _ W _ g mo me lg gg lv gv L a2 b1 C1 given T0 (expd (repOf fl n2) m0 (M.take j)) S 0 i rfl rfl rfl rfl rfl rfl rfl rfl rfl rfl rfl (by omega) hL HTWO.out (HLE.out 0 (by omega)) HCH.out HOK.out (HTW.out.keep hkb) ?_
        rintro ⟨tm, df⟩ w3 gv3 hsz' hdf' hK' hT3 htx3
        rw [← HXN.out 0 HR.out] at hT3
        have HT3 := Lib.hid hT3
        have HTX3 := Lib.hid ((HTX.out.trans (.of hkb)).trans htx3)
        clear hT3 htx3 HTX hkb
        simp only at hsz'
        replace hdf' : df = [] := hdf'
        subst hdf'
        have q1 : tm.getD 1 undef = x1 := AllEq.get hK' 1 (by decide)
        have q2 : tm.getD 2 undef = .slice (some ⟨fb, foff, none⟩) n2 fcap := AllEq.get hK' 2 (by decide)
        have q7 : tm.getD 7 undef = .pointer (some ⟨lg, 0, none⟩) := AllEq.get hK' 7 (by decide)
        have q8 : tm.getD 8 undef = .pointer (some ⟨gg, 0, none⟩) := AllEq.get hK' 8 (by decide)
        have q9 : tm.getD 9 undef = .pointer (some ⟨g 0, 0, none⟩) := AllEq.get hK' 9 (by decide)
        have q11 : tm.getD 11 undef = .pointer (some ⟨g 1, 0, none⟩) := AllEq.get hK' 11 (by decide)
        have q14 : tm.getD 14 undef = x14 := AllEq.get hK' 14 (by decide)
        have q16 : tm.getD 16 undef = .int .i64 i := AllEq.get hK' 16 (by decide)
        have q17 : tm.getD 17 undef = x17 := AllEq.get hK' 17 (by decide)
        have q18 : tm.getD 18 undef = x18 := AllEq.get hK' 18 (by decide)
        have q23 : tm.getD 23 undef = .int .i64 0 := AllEq.get hK' 23 (by decide)
        have q24 : tm.getD 24 undef = x24 := AllEq.get hK' 24 (by decide)
        have q105 : tm.getD 105 undef = x105 := AllEq.get hK' 105 (by decide)
        have q147 : tm.getD 147 undef = x147 := AllEq.get hK' 147 (by decide)
        have q148 : tm.getD 148 undef = x148 := AllEq.get hK' 148 (by decide)
        have q149 : tm.getD 149 undef = x149 := AllEq.get hK' 149 (by decide)
        have q15 : tm.getD 15 undef = .int .i64 ((k : Int) + 1) := AllEq.get hK' 15 (by decide)
        have q154 : tm.getD 154 undef = .slice (some ⟨gb, 0, none⟩) M.length mcap := AllEq.get hK' 154 (by decide)
        have q155 : tm.getD 155 undef = .int .i64 M.length := AllEq.get hK' 155 (by decide)
        have q156 : tm.getD 156 undef = .int .i64 j := AllEq.get hK' 156 (by decide)
        have he : tm = #[tm.getD 0 undef, tm.getD 1 undef, tm.getD 2 undef, tm.getD 3 undef, tm.getD 4 undef, tm.getD 5 undef, tm.getD 6 undef, tm.getD 7 undef, tm.getD 8 undef, tm.getD 9 undef, tm.getD 10 undef, tm.getD 11 undef, tm.getD 12 undef, tm.getD 13 undef, tm.getD 14 undef, tm.getD 15 undef, tm.getD 16 undef, tm.getD 17 undef, tm.getD 18 undef, tm.getD 19 undef, tm.getD 20 undef, tm.getD 21 undef, tm.getD 22 undef, tm.getD 23 undef, tm.getD 24 undef, tm.getD 25 undef, tm.getD 26 undef, tm.getD 27 undef, tm.getD 28 undef, tm.getD 29 undef, tm.getD 30 undef, tm.getD 31 undef, tm.getD 32 undef, tm.getD 33 undef, tm.getD 34 undef, tm.getD 35 undef, tm.getD 36 undef, tm.getD 37 undef, tm.getD 38 undef, tm.getD 39 undef, tm.getD 40 undef, tm.getD 41 undef, tm.getD 42 undef, tm.getD 43 undef, tm.getD 44 undef, tm.getD 45 undef, tm.getD 46 undef, tm.getD 47 undef, tm.getD 48 undef, tm.getD 49 undef, tm.getD 50 undef, tm.getD 51 undef, tm.getD 52 undef, tm.getD 53 undef, tm.getD 54 undef, tm.getD 55 undef, tm.getD 56 undef, tm.getD 57 undef, tm.getD 58 undef, tm.getD 59 undef, tm.getD 60 undef, tm.getD 61 undef, tm.getD 62 undef, tm.getD 63 undef, tm.getD 64 undef, tm.getD 65 undef, tm.getD 66 undef, tm.getD 67 undef, tm.getD 68 undef, tm.getD 69 undef, tm.getD 70 undef, tm.getD 71 undef, tm.getD 72 undef, tm.getD 73 undef, tm.getD 74 undef, tm.getD 75 undef, tm.getD 76 undef, tm.getD 77 undef, tm.getD 78 undef, tm.getD 79 undef, tm.getD 80 undef, tm.getD 81 undef, tm.getD 82 undef, tm.getD 83 undef, tm.getD 84 undef, tm.getD 85 undef, tm.getD 86 undef, tm.getD 87 undef, tm.getD 88 undef, tm.getD 89 undef, tm.getD 90 undef, tm.getD 91 undef, tm.getD 92 undef, tm.getD 93 undef, tm.getD 94 undef, tm.getD 95 undef, tm.getD 96 undef, tm.getD 97 undef, tm.getD 98 undef, tm.getD 99 undef, tm.getD 100 undef, tm.getD 101 undef, tm.getD 102 undef, tm.getD 103 undef, tm.getD 104 undef, tm.getD 105 undef, tm.getD 106 undef, tm.getD 107 undef, tm.getD 108 undef, tm.getD 109 undef, tm.getD 110 undef, tm.getD 111 undef, tm.getD 112 undef, tm.getD 113 undef, tm.getD 114 undef, tm.getD 115 undef, tm.getD 116 undef, tm.getD 117 undef, tm.getD 118 undef, tm.getD 119 undef, tm.getD 120 undef, tm.getD 121 undef, tm.getD 122 undef, tm.getD 123 undef, tm.getD 124 undef, tm.getD 125 undef, tm.getD 126 undef, tm.getD 127 undef, tm.getD 128 undef, tm.getD 129 undef, tm.getD 130 undef, tm.getD 131 undef, tm.getD 132 undef, tm.getD 133 undef, tm.getD 134 undef, tm.getD 135 undef, tm.getD 136 undef, tm.getD 137 undef, tm.getD 138 undef, tm.getD 139 undef, tm.getD 140 undef, tm.getD 141 undef, tm.getD 142 undef, tm.getD 143 undef, tm.getD 144 undef, tm.getD 145 undef, tm.getD 146 undef, tm.getD 147 undef, tm.getD 148 undef, tm.getD 149 undef, tm.getD 150 undef, tm.getD 151 undef, tm.getD 152 undef, tm.getD 153 undef, tm.getD 154 undef, tm.getD 155 undef, tm.getD 156 undef, tm.getD 157 undef, tm.getD 158 undef, tm.getD 159 undef, tm.getD 160 undef, tm.getD 161 undef, tm.getD 162 undef, tm.getD 163 undef, tm.getD 164 undef, tm.getD 165 undef, tm.getD 166 undef, tm.getD 167 undef, tm.getD 168 undef, tm.getD 169 undef, tm.getD 170 undef, tm.getD 171 undef, tm.getD 172 undef, tm.getD 173 undef, tm.getD 174 undef, tm.getD 175 undef, tm.getD 176 undef, tm.getD 177 undef, tm.getD 178 undef, tm.getD 179 undef, tm.getD 180 undef, tm.getD 181 undef, tm.getD 182 undef, tm.getD 183 undef, tm.getD 184 undef, tm.getD 185 undef, tm.getD 186 undef, tm.getD 187 undef, tm.getD 188 undef, tm.getD 189 undef, tm.getD 190 undef, tm.getD 191 undef, tm.getD 192 undef, tm.getD 193 undef, tm.getD 194 undef, tm.getD 195 undef, tm.getD 196 undef, tm.getD 197 undef, tm.getD 198 undef, tm.getD 199 undef, tm.getD 200 undef, tm.getD 201 undef, tm.getD 202 undef, tm.getD 203 undef, tm.getD 204 undef, tm.getD 205 undef, tm.getD 206 undef, tm.getD 207 undef, tm.getD 208 undef, tm.getD 209 undef, tm.getD 210 undef, tm.getD 211 undef, tm.getD 212 undef, tm.getD 213 undef, tm.getD 214 undef, tm.getD 215 undef, tm.getD 216 undef, tm.getD 217 undef, tm.getD 218 undef, tm.getD 219 undef, tm.getD 220 undef, tm.getD 221 undef, tm.getD 222 undef, tm.getD 223 undef, tm.getD 224 undef, tm.getD 225 undef, tm.getD 226 undef, tm.getD 227 undef, tm.getD 228 undef, tm.getD 229 undef, tm.getD 230 undef, tm.getD 231 undef, tm.getD 232 undef, tm.getD 233 undef, tm.getD 234 undef, tm.getD 235 undef, tm.getD 236 undef, tm.getD 237 undef, tm.getD 238 undef, tm.getD 239 undef, tm.getD 240 undef, tm.getD 241 undef, tm.getD 242 undef, tm.getD 243 undef, tm.getD 244 undef, tm.getD 245 undef, tm.getD 246 undef, tm.getD 247 undef, tm.getD 248 undef, tm.getD 249 undef, tm.getD 250 undef, tm.getD 251 undef, tm.getD 252 undef, tm.getD 253 undef] := arr_eta (n := 254) hsz'
        rw [he, q1, q2, q7, q8, q9, q11, q14, q16, q17, q18, q23, q24, q105, q147, q148, q149, q15, q154, q155, q156]
        clear he hK' hsz' q1 q2 q7 q8 q9 q11 q14 q16 q17 q18 q23 q24 q105 q147 q148 q149 q15 q154 q155 q156
        generalize tm.getD 0 undef = y0
        generalize tm.getD 3 undef = y3
        generalize tm.getD 4 undef = y4
        generalize tm.getD 5 undef = y5
        generalize tm.getD 6 undef = y6
        generalize tm.getD 10 undef = y10
        generalize tm.getD 12 undef = y12
        generalize tm.getD 13 undef = y13
        generalize tm.getD 19 undef = y19
        generalize tm.getD 20 undef = y20
        generalize tm.getD 21 undef = y21
        generalize tm.getD 22 undef = y22
        generalize tm.getD 25 undef = y25
        generalize tm.getD 26 undef = y26
        generalize tm.getD 27 undef = y27
        generalize tm.getD 28 undef = y28
        generalize tm.getD 29 undef = y29
        generalize tm.getD 30 undef = y30
        generalize tm.getD 31 undef = y31
        generalize tm.getD 32 undef = y32
        generalize tm.getD 33 undef = y33
        generalize tm.getD 34 undef = y34
        generalize tm.getD 35 undef = y35
        generalize tm.getD 36 undef = y36
        generalize tm.getD 37 undef = y37
        generalize tm.getD 38 undef = y38
        generalize tm.getD 39 undef = y39
        generalize tm.getD 40 undef = y40
        generalize tm.getD 41 undef = y41
        generalize tm.getD 42 undef = y42
        generalize tm.getD 43 undef = y43
        generalize tm.getD 44 undef = y44
        generalize tm.getD 45 undef = y45
        generalize tm.getD 46 undef = y46
        generalize tm.getD 47 undef = y47
        generalize tm.getD 48 undef = y48
        generalize tm.getD 49 undef = y49
        generalize tm.getD 50 undef = y50
        generalize tm.getD 51 undef = y51
        generalize tm.getD 52 undef = y52
        generalize tm.getD 53 undef = y53
        generalize tm.getD 54 undef = y54
        generalize tm.getD 55 undef = y55
        generalize tm.getD 56 undef = y56
        generalize tm.getD 57 undef = y57
        generalize tm.getD 58 undef = y58
        generalize tm.getD 59 undef = y59
        generalize tm.getD 60 undef = y60
        generalize tm.getD 61 undef = y61
        generalize tm.getD 62 undef = y62
        generalize tm.getD 63 undef = y63
        generalize tm.getD 64 undef = y64
        generalize tm.getD 65 undef = y65
        generalize tm.getD 66 undef = y66
        generalize tm.getD 67 undef = y67
        generalize tm.getD 68 undef = y68
        generalize tm.getD 69 undef = y69
        generalize tm.getD 70 undef = y70
        generalize tm.getD 71 undef = y71
        generalize tm.getD 72 undef = y72
        generalize tm.getD 73 undef = y73
        generalize tm.getD 74 undef = y74
        generalize tm.getD 75 undef = y75
        generalize tm.getD 76 undef = y76
        generalize tm.getD 77 undef = y77
        generalize tm.getD 78 undef = y78
        generalize tm.getD 79 undef = y79
        generalize tm.getD 80 undef = y80
        generalize tm.getD 81 undef = y81
        generalize tm.getD 82 undef = y82
        generalize tm.getD 83 undef = y83
        generalize tm.getD 84 undef = y84
        generalize tm.getD 85 undef = y85
        generalize tm.getD 86 undef = y86
        generalize tm.getD 87 undef = y87
        generalize tm.getD 88 undef = y88
        generalize tm.getD 89 undef = y89
        generalize tm.getD 90 undef = y90
        generalize tm.getD 91 undef = y91
        generalize tm.getD 92 undef = y92
        generalize tm.getD 93 undef = y93
        generalize tm.getD 94 undef = y94
        generalize tm.getD 95 undef = y95
        generalize tm.getD 96 undef = y96
        generalize tm.getD 97 undef = y97
        generalize tm.getD 98 undef = y98
        generalize tm.getD 99 undef = y99
        generalize tm.getD 100 undef = y100
        generalize tm.getD 101 undef = y101
        generalize tm.getD 102 undef = y102
        generalize tm.getD 103 undef = y103
        generalize tm.getD 104 undef = y104
        generalize tm.getD 106 undef = y106
        generalize tm.getD 107 undef = y107
        generalize tm.getD 108 undef = y108
        generalize tm.getD 109 undef = y109
        generalize tm.getD 110 undef = y110
        generalize tm.getD 111 undef = y111
        generalize tm.getD 112 undef = y112
        generalize tm.getD 113 undef = y113
        generalize tm.getD 114 undef = y114
        generalize tm.getD 115 undef = y115
        generalize tm.getD 116 undef = y116
        generalize tm.getD 117 undef = y117
        generalize tm.getD 118 undef = y118
        generalize tm.getD 119 undef = y119
        generalize tm.getD 120 undef = y120
        generalize tm.getD 121 undef = y121
        generalize tm.getD 122 undef = y122
        generalize tm.getD 123 undef = y123
        generalize tm.getD 124 undef = y124
        generalize tm.getD 125 undef = y125
        generalize tm.getD 126 undef = y126
        generalize tm.getD 127 undef = y127
        generalize tm.getD 128 undef = y128
        generalize tm.getD 129 undef = y129
        generalize tm.getD 130 undef = y130
        generalize tm.getD 131 undef = y131
        generalize tm.getD 132 undef = y132
        generalize tm.getD 133 undef = y133
        generalize tm.getD 134 undef = y134
        generalize tm.getD 135 undef = y135
        generalize tm.getD 136 undef = y136
        generalize tm.getD 137 undef = y137
        generalize tm.getD 138 undef = y138
        generalize tm.getD 139 undef = y139
        generalize tm.getD 140 undef = y140
        generalize tm.getD 141 undef = y141
        generalize tm.getD 142 undef = y142
        generalize tm.getD 143 undef = y143
        generalize tm.getD 144 undef = y144
        generalize tm.getD 145 undef = y145
        generalize tm.getD 146 undef = y146
        generalize tm.getD 150 undef = y150
        generalize tm.getD 151 undef = y151
        generalize tm.getD 152 undef = y152
        generalize tm.getD 153 undef = y153
        generalize tm.getD 157 undef = y157
        generalize tm.getD 158 undef = y158
        generalize tm.getD 159 undef = y159
        generalize tm.getD 160 undef = y160
        generalize tm.getD 161 undef = y161
        generalize tm.getD 162 undef = y162
        generalize tm.getD 163 undef = y163
        generalize tm.getD 164 undef = y164
        generalize tm.getD 165 undef = y165
        generalize tm.getD 166 undef = y166
        generalize tm.getD 167 undef = y167
        generalize tm.getD 168 undef = y168
        generalize tm.getD 169 undef = y169
        generalize tm.getD 170 undef = y170
        generalize tm.getD 171 undef = y171
        generalize tm.getD 172 undef = y172
        generalize tm.getD 173 undef = y173
        generalize tm.getD 174 undef = y174
        generalize tm.getD 175 undef = y175
        generalize tm.getD 176 undef = y176
        generalize tm.getD 177 undef = y177
        generalize tm.getD 178 undef = y178
        generalize tm.getD 179 undef = y179
        generalize tm.getD 180 undef = y180
        generalize tm.getD 181 undef = y181
        generalize tm.getD 182 undef = y182
        generalize tm.getD 183 undef = y183
        generalize tm.getD 184 undef = y184
        generalize tm.getD 185 undef = y185
        generalize tm.getD 186 undef = y186
        generalize tm.getD 187 undef = y187
        generalize tm.getD 188 undef = y188
        generalize tm.getD 189 undef = y189
        generalize tm.getD 190 undef = y190
        generalize tm.getD 191 undef = y191
        generalize tm.getD 192 undef = y192
        generalize tm.getD 193 undef = y193
        generalize tm.getD 194 undef = y194
        generalize tm.getD 195 undef = y195
        generalize tm.getD 196 undef = y196
        generalize tm.getD 197 undef = y197
        generalize tm.getD 198 undef = y198
        generalize tm.getD 199 undef = y199
        generalize tm.getD 200 undef = y200
        generalize tm.getD 201 undef = y201
        generalize tm.getD 202 undef = y202
        generalize tm.getD 203 undef = y203
        generalize tm.getD 204 undef = y204
        generalize tm.getD 205 undef = y205
        generalize tm.getD 206 undef = y206
        generalize tm.getD 207 undef = y207
        generalize tm.getD 208 undef = y208
        generalize tm.getD 209 undef = y209
        generalize tm.getD 210 undef = y210
        generalize tm.getD 211 undef = y211
        generalize tm.getD 212 undef = y212
        generalize tm.getD 213 undef = y213
        generalize tm.getD 214 undef = y214
        generalize tm.getD 215 undef = y215
        generalize tm.getD 216 undef = y216
        generalize tm.getD 217 undef = y217
        generalize tm.getD 218 undef = y218
        generalize tm.getD 219 undef = y219
        generalize tm.getD 220 undef = y220
        generalize tm.getD 221 undef = y221
        generalize tm.getD 222 undef = y222
        generalize tm.getD 223 undef = y223
        generalize tm.getD 224 undef = y224
        generalize tm.getD 225 undef = y225
        generalize tm.getD 226 undef = y226
        generalize tm.getD 227 undef = y227
        generalize tm.getD 228 undef = y228
        generalize tm.getD 229 undef = y229
        generalize tm.getD 230 undef = y230
        generalize tm.getD 231 undef = y231
        generalize tm.getD 232 undef = y232
        generalize tm.getD 233 undef = y233
        generalize tm.getD 234 undef = y234
        generalize tm.getD 235 undef = y235
        generalize tm.getD 236 undef = y236
        generalize tm.getD 237 undef = y237
        generalize tm.getD 238 undef = y238
        generalize tm.getD 239 undef = y239
        generalize tm.getD 240 undef = y240
        generalize tm.getD 241 undef = y241
        generalize tm.getD 242 undef = y242
        generalize tm.getD 243 undef = y243
        generalize tm.getD 244 undef = y244
        generalize tm.getD 245 undef = y245
        generalize tm.getD 246 undef = y246
        generalize tm.getD 247 undef = y247
        generalize tm.getD 248 undef = y248
        generalize tm.getD 249 undef = y249
        generalize tm.getD 250 undef = y250
        generalize tm.getD 251 undef = y251
        generalize tm.getD 252 undef = y252
        generalize tm.getD 253 undef = y253
        go_wp2_with fail
        refine ⟨⟨(by first | rfl | trivial), (by first | rfl | trivial), (by obtain ⟨k1, k14, k17, k18, k24, k105, k147, k148, k149, _⟩ := HKK.out; exact ⟨k1, h2.symm, h7.symm, h8.symm, h9.symm, h11.symm, k14, h16.symm, k17, k18, h23.symm, k24, k105, k147, k148, k149, trivial⟩), (by first | rfl | trivial), (by first | rfl | trivial), j + 1, gv3, by go_num, by have := HK.out; push_cast; go_num, hlt, HT3.out, HTX3.out⟩, ?_⟩
        simp [intOf]; omega
      · have HR : Hid (repOf fl n2 k = 2) := Lib.hid (by rw [hrep.out]; rfl)
        clear hrep
        have hkb := (Only.refl (fun _ => False) wr).alloc (.cells #[.int .i64 1, .int .i64 0, .int .i64 2] 3)
        have hXX : (takeAll (b1, T0) ((expd (repOf fl n2) m0 (M.take j)) ++ List.replicate 0 S) i) = (takeAll (b1, T0) (expd (repOf fl n2) m0 (M.take j)) i) := by rw [List.replicate_zero, List.append_nil]
        rw [← hXX] at HTW
        clear hXX
        go_wp2_with fail
        refine loop6a _ W _ g mo me lg gg lv gv L a2 b1 C1 given T0 (expd (repOf fl n2) m0 (M.take j)) S 2 i rfl rfl rfl rfl rfl rfl rfl rfl rfl rfl rfl (by omega) hL HTWO.out (HLE.out 2 (by omega)) HCH.out HOK.out (HTW.out.keep hkb) ?_
        rintro ⟨tm, df⟩ w3 gv3 hsz' hdf' hK' hT3 htx3
        rw [← HXN.out 2 HR.out] at hT3
        have HT3 := Lib.hid hT3
        have HTX3 := Lib.hid ((HTX.out.trans (.of hkb)).trans htx3)
        clear hT3 htx3 HTX hkb
        simp only at hsz'
        replace hdf' : df = [] := hdf'
        subst hdf'
        have q1 : tm.getD 1 undef = x1 := AllEq.get hK' 1 (by decide)
        have q2 : tm.getD 2 undef = .slice (some ⟨fb, foff, none⟩) n2 fcap := AllEq.get hK' 2 (by decide)
        have q7 : tm.getD 7 undef = .pointer (some ⟨lg, 0, none⟩) := AllEq.get hK' 7 (by decide)
        have q8 : tm.getD 8 undef = .pointer (some ⟨gg, 0, none⟩) := AllEq.get hK' 8 (by decide)
        have q9 : tm.getD 9 undef = .pointer (some ⟨g 0, 0, none⟩) := AllEq.get hK' 9 (by decide)
        have q11 : tm.getD 11 undef = .pointer (some ⟨g 1, 0, none⟩) := AllEq.get hK' 11 (by decide)
        have q14 : tm.getD 14 undef = x14 := AllEq.get hK' 14 (by decide)
        have q16 : tm.getD 16 undef = .int .i64 i := AllEq.get hK' 16 (by decide)
        have q17 : tm.getD 17 undef = x17 := AllEq.get hK' 17 (by decide)
        have q18 : tm.getD 18 undef = x18 := AllEq.get hK' 18 (by decide)
        have q23 : tm.getD 23 undef = .int .i64 0 := AllEq.get hK' 23 (by decide)
        have q24 : tm.getD 24 undef = x24 := AllEq.get hK' 24 (by decide)
        have q105 : tm.getD 105 undef = x105 := AllEq.get hK' 105 (by decide)
        have q147 : tm.getD 147 undef = x147 := AllEq.get hK' 147 (by decide)
        have q148 : tm.getD 148 undef = x148 := AllEq.get hK' 148 (by decide)
        have q149 : tm.getD 149 undef = x149 := AllEq.get hK' 149 (by decide)
        have q15 : tm.getD 15 undef = .int .i64 ((k : Int) + 1) := AllEq.get hK' 15 (by decide)
        have q154 : tm.getD 154 undef = .slice (some ⟨gb, 0, none⟩) M.length mcap := AllEq.get hK' 154 (by decide)
        have q155 : tm.getD 155 undef = .int .i64 M.length := AllEq.get hK' 155 (by decide)
        have q156 : tm.getD 156 undef = .int .i64 j := AllEq.get hK' 156 (by decide)
        have he : tm = #[tm.getD 0 undef, tm.getD 1 undef, tm.getD 2 undef, tm.getD 3 undef, tm.getD 4 undef, tm.getD 5 undef, tm.getD 6 undef, tm.getD 7 undef, tm.getD 8 undef, tm.getD 9 undef, tm.getD 10 undef, tm.getD 11 undef, tm.getD 12 undef, tm.getD 13 undef, tm.getD 14 undef, tm.getD 15 undef, tm.getD 16 undef, tm.getD 17 undef, tm.getD 18 undef, tm.getD 19 undef, tm.getD 20 undef, tm.getD 21 undef, tm.getD 22 undef, tm.getD 23 undef, tm.getD 24 undef, tm.getD 25 undef, tm.getD 26 undef, tm.getD 27 undef, tm.getD 28 undef, tm.getD 29 undef, tm.getD 30 undef, tm.getD 31 undef, tm.getD 32 undef, tm.getD 33 undef, tm.getD 34 undef, tm.getD 35 undef, tm.getD 36 undef, tm.getD 37 undef, tm.getD 38 undef, tm.getD 39 undef, tm.getD 40 undef, tm.getD 41 undef, tm.getD 42 undef, tm.getD 43 undef, tm.getD 44 undef, tm.getD 45 undef, tm.getD 46 undef, tm.getD 47 undef, tm.getD 48 undef, tm.getD 49 undef, tm.getD 50 undef, tm.getD 51 undef, tm.getD 52 undef, tm.getD 53 undef, tm.getD 54 undef, tm.getD 55 undef, tm.getD 56 undef, tm.getD 57 undef, tm.getD 58 undef, tm.getD 59 undef, tm.getD 60 undef, tm.getD 61 undef, tm.getD 62 undef, tm.getD 63 undef, tm.getD 64 undef, tm.getD 65 undef, tm.getD 66 undef, tm.getD 67 undef, tm.getD 68 undef, tm.getD 69 undef, tm.getD 70 undef, tm.getD 71 undef, tm.getD 72 undef, tm.getD 73 undef, tm.getD 74 undef, tm.getD 75 undef, tm.getD 76 undef, tm.getD 77 undef, tm.getD 78 undef, tm.getD 79 undef, tm.getD 80 undef, tm.getD 81 undef, tm.getD 82 undef, tm.getD 83 undef, tm.getD 84 undef, tm.getD 85 undef, tm.getD 86 undef, tm.getD 87 undef, tm.getD 88 undef, tm.getD 89 undef, tm.getD 90 undef, tm.getD 91 undef, tm.getD 92 undef, tm.getD 93 undef, tm.getD 94 undef, tm.getD 95 undef, tm.getD 96 undef, tm.getD 97 undef, tm.getD 98 undef, tm.getD 99 undef, tm.getD 100 undef, tm.getD 101 undef, tm.getD 102 undef, tm.getD 103 undef, tm.getD 104 undef, tm.getD 105 undef, tm.getD 106 undef, tm.getD 107 undef, tm.getD 108 undef, tm.getD 109 undef, tm.getD 110 undef, tm.getD 111 undef, tm.getD 112 undef, tm.getD 113 undef, tm.getD 114 undef, tm.getD 115 undef, tm.getD 116 undef, tm.getD 117 undef, tm.getD 118 undef, tm.getD 119 undef, tm.getD 120 undef, tm.getD 121 undef, tm.getD 122 undef, tm.getD 123 undef, tm.getD 124 undef, tm.getD 125 undef, tm.getD 126 undef, tm.getD 127 undef, tm.getD 128 undef, tm.getD 129 undef, tm.getD 130 undef, tm.getD 131 undef, tm.getD 132 undef, tm.getD 133 undef, tm.getD 134 undef, tm.getD 135 undef, tm.getD 136 undef, tm.getD 137 undef, tm.getD 138 undef, tm.getD 139 undef, tm.getD 140 undef, tm.getD 141 undef, tm.getD 142 undef, tm.getD 143 undef, tm.getD 144 undef, tm.getD 145 undef, tm.getD 146 undef, tm.getD 147 undef, tm.getD 148 undef, tm.getD 149 undef, tm.getD 150 undef, tm.getD 151 undef, tm.getD 152 undef, tm.getD 153 undef, tm.getD 154 undef, tm.getD 155 undef, tm.getD 156 undef, tm.getD 157 undef, tm.getD 158 undef, tm.getD 159 undef, tm.getD 160 undef, tm.getD 161 undef, tm.getD 162 undef, tm.getD 163 undef, tm.getD 164 undef, tm.getD 165 undef, tm.getD 166 undef, tm.getD 167 undef, tm.getD 168 undef, tm.getD 169 undef, tm.getD 170 undef, tm.getD 171 undef, tm.getD 172 undef, tm.getD 173 undef, tm.getD 174 undef, tm.getD 175 undef, tm.getD 176 undef, tm.getD 177 undef, tm.getD 178 undef, tm.getD 179 undef, tm.getD 180 undef, tm.getD 181 undef, tm.getD 182 undef, tm.getD 183 undef, tm.getD 184 undef, tm.getD 185 undef, tm.getD 186 undef, tm.getD 187 undef, tm.getD 188 undef, tm.getD 189 undef, tm.getD 190 undef, tm.getD 191 undef, tm.getD 192 undef, tm.getD 193 undef, tm.getD 194 undef, tm.getD 195 undef, tm.getD 196 undef, tm.getD 197 undef, tm.getD 198 undef, tm.getD 199 undef, tm.getD 200 undef, tm.getD 201 undef, tm.getD 202 undef, tm.getD 203 undef, tm.getD 204 undef, tm.getD 205 undef, tm.getD 206 undef, tm.getD 207 undef, tm.getD 208 undef, tm.getD 209 undef, tm.getD 210 undef, tm.getD 211 undef, tm.getD 212 undef, tm.getD 213 undef, tm.getD 214 undef, tm.getD 215 undef, tm.getD 216 undef, tm.getD 217 undef, tm.getD 218 undef, tm.getD 219 undef, tm.getD 220 undef, tm.getD 221 undef, tm.getD 222 undef, tm.getD 223 undef, tm.getD 224 undef, tm.getD 225 undef, tm.getD 226 undef, tm.getD 227 undef, tm.getD 228 undef, tm.getD 229 undef, tm.getD 230 undef, tm.getD 231 undef, tm.getD 232 undef, tm.getD 233 undef, tm.getD 234 undef, tm.getD 235 undef, tm.getD 236 undef, tm.getD 237 undef, tm.getD 238 undef, tm.getD 239 undef, tm.getD 240 undef, tm.getD 241 undef, tm.getD 242 undef, tm.getD 243 undef, tm.getD 244 undef, tm.getD 245 undef, tm.getD 246 undef, tm.getD 247 undef, tm.getD 248 undef, tm.getD 249 undef, tm.getD 250 undef, tm.getD 251 undef, tm.getD 252 undef, tm.getD 253 undef] := arr_eta (n := 254) hsz'
        rw [he, q1, q2, q7, q8, q9, q11, q14, q16, q17, q18, q23, q24, q105, q147, q148, q149, q15, q154, q155, q156]
        clear he hK' hsz' q1 q2 q7 q8 q9 q11 q14 q16 q17 q18 q23 q24 q105 q147 q148 q149 q15 q154 q155 q156
        generalize tm.getD 0 undef = y0
        generalize tm.getD 3 undef = y3
        generalize tm.getD 4 undef = y4
        generalize tm.getD 5 undef = y5
        generalize tm.getD 6 undef = y6
        generalize tm.getD 10 undef = y10
        generalize tm.getD 12 undef = y12
        generalize tm.getD 13 undef = y13
        generalize tm.getD 19 undef = y19
        generalize tm.getD 20 undef = y20
        generalize tm.getD 21 undef = y21
        generalize tm.getD 22 undef = y22
        generalize tm.getD 25 undef = y25
        generalize tm.getD 26 undef = y26
        generalize tm.getD 27 undef = y27
        generalize tm.getD 28 undef = y28
        generalize tm.getD 29 undef = y29
        generalize tm.getD 30 undef = y30
        generalize tm.getD 31 undef = y31
        generalize tm.getD 32 undef = y32
        generalize tm.getD 33 undef = y33
        generalize tm.getD 34 undef = y34
        generalize tm.getD 35 undef = y35
        generalize tm.getD 36 undef = y36
        generalize tm.getD 37 undef = y37
        generalize tm.getD 38 undef = y38
        generalize tm.getD 39 undef = y39
        generalize tm.getD 40 undef = y40
        generalize tm.getD 41 undef = y41
        generalize tm.getD 42 undef = y42
        generalize tm.getD 43 undef = y43
        generalize tm.getD 44 undef = y44
        generalize tm.getD 45 undef = y45
        generalize tm.getD 46 undef = y46
        generalize tm.getD 47 undef = y47
        generalize tm.getD 48 undef = y48
        generalize tm.getD 49 undef = y49
        generalize tm.getD 50 undef = y50
        generalize tm.getD 51 undef = y51
        generalize tm.getD 52 undef = y52
        generalize tm.getD 53 undef = y53
        generalize tm.getD 54 undef = y54
        generalize tm.getD 55 undef = y55
        generalize tm.getD 56 undef = y56
        generalize tm.getD 57 undef = y57
        generalize tm.getD 58 undef = y58
        generalize tm.getD 59 undef = y59
        generalize tm.getD 60 undef = y60
        generalize tm.getD 61 undef = y61
        generalize tm.getD 62 undef = y62
        generalize tm.getD 63 undef = y63
        generalize tm.getD 64 undef = y64
        generalize tm.getD 65 undef = y65
        generalize tm.getD 66 undef = y66
        generalize tm.getD 67 undef = y67
        generalize tm.getD 68 undef = y68
        generalize tm.getD 69 undef = y69
        generalize tm.getD 70 undef = y70
        generalize tm.getD 71 undef = y71
        generalize tm.getD 72 undef = y72
        generalize tm.getD 73 undef = y73
        generalize tm.getD 74 undef = y74
        generalize tm.getD 75 undef = y75
        generalize tm.getD 76 undef = y76
        generalize tm.getD 77 undef = y77
        generalize tm.getD 78 undef = y78
        generalize tm.getD 79 undef = y79
        generalize tm.getD 80 undef = y80
        generalize tm.getD 81 undef = y81
        generalize tm.getD 82 undef = y82
        generalize tm.getD 83 undef = y83
        generalize tm.getD 84 undef = y84
        generalize tm.getD 85 undef = y85
        generalize tm.getD 86 undef = y86
        generalize tm.getD 87 undef = y87
        generalize tm.getD 88 undef = y88
        generalize tm.getD 89 undef = y89
        generalize tm.getD 90 undef = y90
        generalize tm.getD 91 undef = y91
        generalize tm.getD 92 undef = y92
        generalize tm.getD 93 undef = y93
        generalize tm.getD 94 undef = y94
        generalize tm.getD 95 undef = y95
        generalize tm.getD 96 undef = y96
        generalize tm.getD 97 undef = y97
        generalize tm.getD 98 undef = y98
        generalize tm.getD 99 undef = y99
        generalize tm.getD 100 undef = y100
        generalize tm.getD 101 undef = y101
        generalize tm.getD 102 undef = y102
        generalize tm.getD 103 undef = y103
        generalize tm.getD 104 undef = y104
        generalize tm.getD 106 undef = y106
        generalize tm.getD 107 undef = y107
        generalize tm.getD 108 undef = y108
        generalize tm.getD 109 undef = y109
        generalize tm.getD 110 undef = y110
        generalize tm.getD 111 undef = y111
        generalize tm.getD 112 undef = y112
        generalize tm.getD 113 undef = y113
        generalize tm.getD 114 undef = y114
        generalize tm.getD 115 undef = y115
        generalize tm.getD 116 undef = y116
        generalize tm.getD 117 undef = y117
        generalize tm.getD 118 undef = y118
        generalize tm.getD 119 undef = y119
        generalize tm.getD 120 undef = y120
        generalize tm.getD 121 undef = y121
        generalize tm.getD 122 undef = y122
        generalize tm.getD 123 undef = y123
        generalize tm.getD 124 undef = y124
        generalize tm.getD 125 undef = y125
        generalize tm.getD 126 undef = y126
        generalize tm.getD 127 undef = y127
        generalize tm.getD 128 undef = y128
        generalize tm.getD 129 undef = y129
        generalize tm.getD 130 undef = y130
        generalize tm.getD 131 undef = y131
        generalize tm.getD 132 undef = y132
        generalize tm.getD 133 undef = y133
        generalize tm.getD 134 undef = y134
        generalize tm.getD 135 undef = y135
        generalize tm.getD 136 undef = y136
        generalize tm.getD 137 undef = y137
        generalize tm.getD 138 undef = y138
        generalize tm.getD 139 undef = y139
        generalize tm.getD 140 undef = y140
        generalize tm.getD 141 undef = y141
        generalize tm.getD 142 undef = y142
        generalize tm.getD 143 undef = y143
        generalize tm.getD 144 undef = y144
        generalize tm.getD 145 undef = y145
        generalize tm.getD 146 undef = y146
        generalize tm.getD 150 undef = y150
        generalize tm.getD 151 undef = y151
        generalize tm.getD 152 undef = y152
        generalize tm.getD 153 undef = y153
        generalize tm.getD 157 undef = y157
        generalize tm.getD 158 undef = y158
        generalize tm.getD 159 undef = y159
        generalize tm.getD 160 undef = y160
        generalize tm.getD 161 undef = y161
        generalize tm.getD 162 undef = y162
        generalize tm.getD 163 undef = y163
        generalize tm.getD 164 undef = y164
        generalize tm.getD 165 undef = y165
        generalize tm.getD 166 undef = y166
        generalize tm.getD 167 undef = y167
        generalize tm.getD 168 undef = y168
        generalize tm.getD 169 undef = y169
        generalize tm.getD 170 undef = y170
        generalize tm.getD 171 undef = y171
        generalize tm.getD 172 undef = y172
        generalize tm.getD 173 undef = y173
        generalize tm.getD 174 undef = y174
        generalize tm.getD 175 undef = y175
        generalize tm.getD 176 undef = y176
        generalize tm.getD 177 undef = y177
        generalize tm.getD 178 undef = y178
        generalize tm.getD 179 undef = y179
        generalize tm.getD 180 undef = y180
        generalize tm.getD 181 undef = y181
        generalize tm.getD 182 undef = y182
        generalize tm.getD 183 undef = y183
        generalize tm.getD 184 undef = y184
        generalize tm.getD 185 undef = y185
        generalize tm.getD 186 undef = y186
        generalize tm.getD 187 undef = y187
        generalize tm.getD 188 undef = y188
        generalize tm.getD 189 undef = y189
        generalize tm.getD 190 undef = y190
        generalize tm.getD 191 undef = y191
        generalize tm.getD 192 undef = y192
        generalize tm.getD 193 undef = y193
        generalize tm.getD 194 undef = y194
        generalize tm.getD 195 undef = y195
        generalize tm.getD 196 undef = y196
        generalize tm.getD 197 undef = y197
        generalize tm.getD 198 undef = y198
        generalize tm.getD 199 undef = y199
        generalize tm.getD 200 undef = y200
        generalize tm.getD 201 undef = y201
        generalize tm.getD 202 undef = y202
        generalize tm.getD 203 undef = y203
        generalize tm.getD 204 undef = y204
        generalize tm.getD 205 undef = y205
        generalize tm.getD 206 undef = y206
        generalize tm.getD 207 undef = y207
        generalize tm.getD 208 undef = y208
        generalize tm.getD 209 undef = y209
        generalize tm.getD 210 undef = y210
        generalize tm.getD 211 undef = y211
        generalize tm.getD 212 undef = y212
        generalize tm.getD 213 undef = y213
        generalize tm.getD 214 undef = y214
        generalize tm.getD 215 undef = y215
        generalize tm.getD 216 undef = y216
        generalize tm.getD 217 undef = y217
        generalize tm.getD 218 undef = y218
        generalize tm.getD 219 undef = y219
        generalize tm.getD 220 undef = y220
        generalize tm.getD 221 undef = y221
        generalize tm.getD 222 undef = y222
        generalize tm.getD 223 undef = y223
        generalize tm.getD 224 undef = y224
        generalize tm.getD 225 undef = y225
        generalize tm.getD 226 undef = y226
        generalize tm.getD 227 undef = y227
        generalize tm.getD 228 undef = y228
        generalize tm.getD 229 undef = y229
        generalize tm.getD 230 undef = y230
        generalize tm.getD 231 undef = y231
        generalize tm.getD 232 undef = y232
        generalize tm.getD 233 undef = y233
        generalize tm.getD 234 undef = y234
        generalize tm.getD 235 undef = y235
        generalize tm.getD 236 undef = y236
        generalize tm.getD 237 undef = y237
        generalize tm.getD 238 undef = y238
        generalize tm.getD 239 undef = y239
        generalize tm.getD 240 undef = y240
        generalize tm.getD 241 undef = y241
        generalize tm.getD 242 undef = y242
        generalize tm.getD 243 undef = y243
        generalize tm.getD 244 undef = y244
        generalize tm.getD 245 undef = y245
        generalize tm.getD 246 undef = y246
        generalize tm.getD 247 undef = y247
        generalize tm.getD 248 undef = y248
        generalize tm.getD 249 undef = y249
        generalize tm.getD 250 undef = y250
        generalize tm.getD 251 undef = y251
        generalize tm.getD 252 undef = y252
        generalize tm.getD 253 undef = y253
        go_wp2_with fail
        refine ⟨⟨(by first | rfl | trivial), (by first | rfl | trivial), (by obtain ⟨k1, k14, k17, k18, k24, k105, k147, k148, k149, _⟩ := HKK.out; exact ⟨k1, h2.symm, h7.symm, h8.symm, h9.symm, h11.symm, k14, h16.symm, k17, k18, h23.symm, k24, k105, k147, k148, k149, trivial⟩), (by first | rfl | trivial), (by first | rfl | trivial), j + 1, gv3, by go_num, by have := HK.out; push_cast; go_num, hlt, HT3.out, HTX3.out⟩, ?_⟩
        simp [intOf]; omega
    · have HR : Hid (repOf fl n2 k = 1) := Lib.hid (if_neg hin)
      by_cases h1 : k < n2
      · have h6 : ¬ (k : Int) < 60 := by omega
        clear hin
        have hkb := (Only.refl (fun _ => False) wr).alloc (.cells #[.int .i64 1, .int .i64 0, .int .i64 2] 3)
        have hXX : (takeAll (b1, T0) ((expd (repOf fl n2) m0 (M.take j)) ++ List.replicate 0 S) i) = (takeAll (b1, T0) (expd (repOf fl n2) m0 (M.take j)) i) := by rw [List.replicate_zero, List.append_nil]
        rw [← hXX] at HTW
        clear hXX
        go_wp2_with fail
        refine loop6a _ W _ g mo me lg gg lv gv L a2 b1 C1 given T0 (expd (repOf fl n2) m0 (M.take j)) S 1 i rfl rfl rfl rfl rfl rfl rfl rfl rfl rfl rfl (by omega) hL HTWO.out (HLE.out 1 (by omega)) HCH.out HOK.out (HTW.out.keep hkb) ?_
        rintro ⟨tm, df⟩ w3 gv3 hsz' hdf' hK' hT3 htx3
        rw [← HXN.out 1 HR.out] at hT3
        have HT3 := Lib.hid hT3
        have HTX3 := Lib.hid ((HTX.out.trans (.of hkb)).trans htx3)
        clear hT3 htx3 HTX hkb
        simp only at hsz'
        replace hdf' : df = [] := hdf'
        subst hdf'
        have q1 : tm.getD 1 undef = x1 := AllEq.get hK' 1 (by decide)
        have q2 : tm.getD 2 undef = .slice fa n2 fcap := AllEq.get hK' 2 (by decide)
        have q7 : tm.getD 7 undef = .pointer (some ⟨lg, 0, none⟩) := AllEq.get hK' 7 (by decide)
        have q8 : tm.getD 8 undef = .pointer (some ⟨gg, 0, none⟩) := AllEq.get hK' 8 (by decide)
        have q9 : tm.getD 9 undef = .pointer (some ⟨g 0, 0, none⟩) := AllEq.get hK' 9 (by decide)
        have q11 : tm.getD 11 undef = .pointer (some ⟨g 1, 0, none⟩) := AllEq.get hK' 11 (by decide)
        have q14 : tm.getD 14 undef = x14 := AllEq.get hK' 14 (by decide)
        have q16 : tm.getD 16 undef = .int .i64 i := AllEq.get hK' 16 (by decide)
        have q17 : tm.getD 17 undef = x17 := AllEq.get hK' 17 (by decide)
        have q18 : tm.getD 18 undef = x18 := AllEq.get hK' 18 (by decide)
        have q23 : tm.getD 23 undef = .int .i64 0 := AllEq.get hK' 23 (by decide)
        have q24 : tm.getD 24 undef = x24 := AllEq.get hK' 24 (by decide)
        have q105 : tm.getD 105 undef = x105 := AllEq.get hK' 105 (by decide)
        have q147 : tm.getD 147 undef = x147 := AllEq.get hK' 147 (by decide)
        have q148 : tm.getD 148 undef = x148 := AllEq.get hK' 148 (by decide)
        have q149 : tm.getD 149 undef = x149 := AllEq.get hK' 149 (by decide)
        have q15 : tm.getD 15 undef = .int .i64 ((k : Int) + 1) := AllEq.get hK' 15 (by decide)
        have q154 : tm.getD 154 undef = .slice (some ⟨gb, 0, none⟩) M.length mcap := AllEq.get hK' 154 (by decide)
        have q155 : tm.getD 155 undef = .int .i64 M.length := AllEq.get hK' 155 (by decide)
        have q156 : tm.getD 156 undef = .int .i64 j := AllEq.get hK' 156 (by decide)
        have he : tm = #[tm.getD 0 undef, tm.getD 1 undef, tm.getD 2 undef, tm.getD 3 undef, tm.getD 4 undef, tm.getD 5 undef, tm.getD 6 undef, tm.getD 7 undef, tm.getD 8 undef, tm.getD 9 undef, tm.getD 10 undef, tm.getD 11 undef, tm.getD 12 undef, tm.getD 13 undef, tm.getD 14 undef, tm.getD 15 undef, tm.getD 16 undef, tm.getD 17 undef, tm.getD 18 undef, tm.getD 19 undef, tm.getD 20 undef, tm.getD 21 undef, tm.getD 22 undef, tm.getD 23 undef, tm.getD 24 undef, tm.getD 25 undef, tm.getD 26 undef, tm.getD 27 undef, tm.getD 28 undef, tm.getD 29 undef, tm.getD 30 undef, tm.getD 31 undef, tm.getD 32 undef, tm.getD 33 undef, tm.getD 34 undef, tm.getD 35 undef, tm.getD 36 undef, tm.getD 37 undef, tm.getD 38 undef, tm.getD 39 undef, tm.getD 40 undef, tm.getD 41 undef, tm.getD 42 undef, tm.getD 43 undef, tm.getD 44 undef, tm.getD 45 undef, tm.getD 46 undef, tm.getD 47 undef, tm.getD 48 undef, tm.getD 49 undef, tm.getD 50 undef, tm.getD 51 undef, tm.getD 52 undef, tm.getD 53 undef, tm.getD 54 undef, tm.getD 55 undef, tm.getD 56 undef, tm.getD 57 undef, tm.getD 58 undef, tm.getD 59 undef, tm.getD 60 undef, tm.getD 61 undef, tm.getD 62 undef, tm.getD 63 undef, tm.getD 64 undef, tm.getD 65 undef, tm.getD 66 undef, tm.getD 67 undef, tm.getD 68 undef, tm.getD 69 undef, tm.getD 70 undef, tm.getD 71 undef, tm.getD 72 undef, tm.getD 73 undef, tm.getD 74 undef, tm.getD 75 undef, tm.getD 76 undef, tm.getD 77 undef, tm.getD 78 undef, tm.getD 79 undef, tm.getD 80 undef, tm.getD 81 undef, tm.getD 82 undef, tm.getD 83 undef, tm.getD 84 undef, tm.getD 85 undef, tm.getD 86 undef, tm.getD 87 undef, tm.getD 88 undef, tm.getD 89 undef, tm.getD 90 undef, tm.getD 91 undef, tm.getD 92 undef, tm.getD 93 undef, tm.getD 94 undef, tm.getD 95 undef, tm.getD 96 undef, tm.getD 97 undef, tm.getD 98 undef, tm.getD 99 undef, tm.getD 100 undef, tm.getD 101 undef, tm.getD 102 undef, tm.getD 103 undef, tm.getD 104 undef, tm.getD 105 undef, tm.getD 106 undef, tm.getD 107 undef, tm.getD 108 undef, tm.getD 109 undef, tm.getD 110 undef, tm.getD 111 undef, tm.getD 112 undef, tm.getD 113 undef, tm.getD 114 undef, tm.getD 115 undef, tm.getD 116 undef, tm.getD 117 undef, tm.getD 118 undef, tm.getD 119 undef, tm.getD 120 undef, tm.getD 121 undef, tm.getD 122 undef, tm.getD 123 undef, tm.getD 124 undef, tm.getD 125 undef, tm.getD 126 undef, tm.getD 127 undef, tm.getD 128 undef, tm.getD 129 undef, tm.getD 130 undef, tm.getD 131 undef, tm.getD 132 undef, tm.getD 133 undef, tm.getD 134 undef, tm.getD 135 undef, tm.getD 136 undef, tm.getD 137 undef, tm.getD 138 undef, tm.getD 139 undef, tm.getD 140 undef, tm.getD 141 undef, tm.getD 142 undef, tm.getD 143 undef, tm.getD 144 undef, tm.getD 145 undef, tm.getD 146 undef, tm.getD 147 undef, tm.getD 148 undef, tm.getD 149 undef, tm.getD 150 undef, tm.getD 151 undef, tm.getD 152 undef, tm.getD 153 undef, tm.getD 154 undef, tm.getD 155 undef, tm.getD 156 undef, tm.getD 157 undef, tm.getD 158 undef, tm.getD 159 undef, tm.getD 160 undef, tm.getD 161 undef, tm.getD 162 undef, tm.getD 163 undef, tm.getD 164 undef, tm.getD 165 undef, tm.getD 166 undef, tm.getD 167 undef, tm.getD 168 undef, tm.getD 169 undef, tm.getD 170 undef, tm.getD 171 undef, tm.getD 172 undef, tm.getD 173 undef, tm.getD 174 undef, tm.getD 175 undef, tm.getD 176 undef, tm.getD 177 undef, tm.getD 178 undef, tm.getD 179 undef, tm.getD 180 undef, tm.getD 181 undef, tm.getD 182 undef, tm.getD 183 undef, tm.getD 184 undef, tm.getD 185 undef, tm.getD 186 undef, tm.getD 187 undef, tm.getD 188 undef, tm.getD 189 undef, tm.getD 190 undef, tm.getD 191 undef, tm.getD 192 undef, tm.getD 193 undef, tm.getD 194 undef, tm.getD 195 undef, tm.getD 196 undef, tm.getD 197 undef, tm.getD 198 undef, tm.getD 199 undef, tm.getD 200 undef, tm.getD 201 undef, tm.getD 202 undef, tm.getD 203 undef, tm.getD 204 undef, tm.getD 205 undef, tm.getD 206 undef, tm.getD 207 undef, tm.getD 208 undef, tm.getD 209 undef, tm.getD 210 undef, tm.getD 211 undef, tm.getD 212 undef, tm.getD 213 undef, tm.getD 214 undef, tm.getD 215 undef, tm.getD 216 undef, tm.getD 217 undef, tm.getD 218 undef, tm.getD 219 undef, tm.getD 220 undef, tm.getD 221 undef, tm.getD 222 undef, tm.getD 223 undef, tm.getD 224 undef, tm.getD 225 undef, tm.getD 226 undef, tm.getD 227 undef, tm.getD 228 undef, tm.getD 229 undef, tm.getD 230 undef, tm.getD 231 undef, tm.getD 232 undef, tm.getD 233 undef, tm.getD 234 undef, tm.getD 235 undef, tm.getD 236 undef, tm.getD 237 undef, tm.getD 238 undef, tm.getD 239 undef, tm.getD 240 undef, tm.getD 241 undef, tm.getD 242 undef, tm.getD 243 undef, tm.getD 244 undef, tm.getD 245 undef, tm.getD 246 undef, tm.getD 247 undef, tm.getD 248 undef, tm.getD 249 undef, tm.getD 250 undef, tm.getD 251 undef, tm.getD 252 undef, tm.getD 253 undef] := arr_eta (n := 254) hsz'
        rw [he, q1, q2, q7, q8, q9, q11, q14, q16, q17, q18, q23, q24, q105, q147, q148, q149, q15, q154, q155, q156]
        clear he hK' hsz' q1 q2 q7 q8 q9 q11 q14 q16 q17 q18 q23 q24 q105 q147 q148 q149 q15 q154 q155 q156
        generalize tm.getD 0 undef = y0
        generalize tm.getD 3 undef = y3
        generalize tm.getD 4 undef = y4
        generalize tm.getD 5 undef = y5
        generalize tm.getD 6 undef = y6
        generalize tm.getD 10 undef = y10
        generalize tm.getD 12 undef = y12
        generalize tm.getD 13 undef = y13
        generalize tm.getD 19 undef = y19
        generalize tm.getD 20 undef = y20
        generalize tm.getD 21 undef = y21
        generalize tm.getD 22 undef = y22
        generalize tm.getD 25 undef = y25
        generalize tm.getD 26 undef = y26
        generalize tm.getD 27 undef = y27
        generalize tm.getD 28 undef = y28
        generalize tm.getD 29 undef = y29
        generalize tm.getD 30 undef = y30
        generalize tm.getD 31 undef = y31
        generalize tm.getD 32 undef = y32
        generalize tm.getD 33 undef = y33
        generalize tm.getD 34 undef = y34
        generalize tm.getD 35 undef = y35
        generalize tm.getD 36 undef = y36
        generalize tm.getD 37 undef = y37
        generalize tm.getD 38 undef = y38
        generalize tm.getD 39 undef = y39
        generalize tm.getD 40 undef = y40
        generalize tm.getD 41 undef = y41
        generalize tm.getD 42 undef = y42
        generalize tm.getD 43 undef = y43
        generalize tm.getD 44 undef = y44
        generalize tm.getD 45 undef = y45
        generalize tm.getD 46 undef = y46
        generalize tm.getD 47 undef = y47
        generalize tm.getD 48 undef = y48
        generalize tm.getD 49 undef = y49
        generalize tm.getD 50 undef = y50
        generalize tm.getD 51 undef = y51
        generalize tm.getD 52 undef = y52
        generalize tm.getD 53 undef = y53
        generalize tm.getD 54 undef = y54
        generalize tm.getD 55 undef = y55
        generalize tm.getD 56 undef = y56
        generalize tm.getD 57 undef = y57
        generalize tm.getD 58 undef = y58
        generalize tm.getD 59 undef = y59
        generalize tm.getD 60 undef = y60
        generalize tm.getD 61 undef = y61
        generalize tm.getD 62 undef = y62
        generalize tm.getD 63 undef = y63
        generalize tm.getD 64 undef = y64
        generalize tm.getD 65 undef = y65
        generalize tm.getD 66 undef = y66
        generalize tm.getD 67 undef = y67
        generalize tm.getD 68 undef = y68
        generalize tm.getD 69 undef = y69
        generalize tm.getD 70 undef = y70
        generalize tm.getD 71 undef = y71
        generalize tm.getD 72 undef = y72
        generalize tm.getD 73 undef = y73
        generalize tm.getD 74 undef = y74
        generalize tm.getD 75 undef = y75
        generalize tm.getD 76 undef = y76
        generalize tm.getD 77 undef = y77
        generalize tm.getD 78 undef = y78
        generalize tm.getD 79 undef = y79
        generalize tm.getD 80 undef = y80
        generalize tm.getD 81 undef = y81
        generalize tm.getD 82 undef = y82
        generalize tm.getD 83 undef = y83
        generalize tm.getD 84 undef = y84
        generalize tm.getD 85 undef = y85
        generalize tm.getD 86 undef = y86
        generalize tm.getD 87 undef = y87
        generalize tm.getD 88 undef = y88
        generalize tm.getD 89 undef = y89
        generalize tm.getD 90 undef = y90
        generalize tm.getD 91 undef = y91
        generalize tm.getD 92 undef = y92
        generalize tm.getD 93 undef = y93
        generalize tm.getD 94 undef = y94
        generalize tm.getD 95 undef = y95
        generalize tm.getD 96 undef = y96
        generalize tm.getD 97 undef = y97
        generalize tm.getD 98 undef = y98
        generalize tm.getD 99 undef = y99
        generalize tm.getD 100 undef = y100
        generalize tm.getD 101 undef = y101
        generalize tm.getD 102 undef = y102
        generalize tm.getD 103 undef = y103
        generalize tm.getD 104 undef = y104
        generalize tm.getD 106 undef = y106
        generalize tm.getD 107 undef = y107
        generalize tm.getD 108 undef = y108
        generalize tm.getD 109 undef = y109
        generalize tm.getD 110 undef = y110
        generalize tm.getD 111 undef = y111
        generalize tm.getD 112 undef = y112
        generalize tm.getD 113 undef = y113
        generalize tm.getD 114 undef = y114
        generalize tm.getD 115 undef = y115
        generalize tm.getD 116 undef = y116
        generalize tm.getD 117 undef = y117
        generalize tm.getD 118 undef = y118
        generalize tm.getD 119 undef = y119
        generalize tm.getD 120 undef = y120
        generalize tm.getD 121 undef = y121
        generalize tm.getD 122 undef = y122
        generalize tm.getD 123 undef = y123
        generalize tm.getD 124 undef = y124
        generalize tm.getD 125 undef = y125
        generalize tm.getD 126 undef = y126
        generalize tm.getD 127 undef = y127
        generalize tm.getD 128 undef = y128
        generalize tm.getD 129 undef = y129
        generalize tm.getD 130 undef = y130
        generalize tm.getD 131 undef = y131
        generalize tm.getD 132 undef = y132
        generalize tm.getD 133 undef = y133
        generalize tm.getD 134 undef = y134
        generalize tm.getD 135 undef = y135
        generalize tm.getD 136 undef = y136
        generalize tm.getD 137 undef = y137
        generalize tm.getD 138 undef = y138
        generalize tm.getD 139 undef = y139
        generalize tm.getD 140 undef = y140
        generalize tm.getD 141 undef = y141
        generalize tm.getD 142 undef = y142
        generalize tm.getD 143 undef = y143
        generalize tm.getD 144 undef = y144
        generalize tm.getD 145 undef = y145
        generalize tm.getD 146 undef = y146
        generalize tm.getD 150 undef = y150
        generalize tm.getD 151 undef = y151
        generalize tm.getD 152 undef = y152
        generalize tm.getD 153 undef = y153
        generalize tm.getD 157 undef = y157
        generalize tm.getD 158 undef = y158
        generalize tm.getD 159 undef = y159
        generalize tm.getD 160 undef = y160
        generalize tm.getD 161 undef = y161
        generalize tm.getD 162 undef = y162
        generalize tm.getD 163 undef = y163
        generalize tm.getD 164 undef = y164
        generalize tm.getD 165 undef = y165
        generalize tm.getD 166 undef = y166
        generalize tm.getD 167 undef = y167
        generalize tm.getD 168 undef = y168
        generalize tm.getD 169 undef = y169
        generalize tm.getD 170 undef = y170
        generalize tm.getD 171 undef = y171
        generalize tm.getD 172 undef = y172
        generalize tm.getD 173 undef = y173
        generalize tm.getD 174 undef = y174
        generalize tm.getD 175 undef = y175
        generalize tm.getD 176 undef = y176
        generalize tm.getD 177 undef = y177
        generalize tm.getD 178 undef = y178
        generalize tm.getD 179 undef = y179
        generalize tm.getD 180 undef = y180
        generalize tm.getD 181 undef = y181
        generalize tm.getD 182 undef = y182
        generalize tm.getD 183 undef = y183
        generalize tm.getD 184 undef = y184
        generalize tm.getD 185 undef = y185
        generalize tm.getD 186 undef = y186
        generalize tm.getD 187 undef = y187
        generalize tm.getD 188 undef = y188
        generalize tm.getD 189 undef = y189
        generalize tm.getD 190 undef = y190
        generalize tm.getD 191 undef = y191
        generalize tm.getD 192 undef = y192
        generalize tm.getD 193 undef = y193
        generalize tm.getD 194 undef = y194
        generalize tm.getD 195 undef = y195
        generalize tm.getD 196 undef = y196
        generalize tm.getD 197 undef = y197
        generalize tm.getD 198 undef = y198
        generalize tm.getD 199 undef = y199
        generalize tm.getD 200 undef = y200
        generalize tm.getD 201 undef = y201
        generalize tm.getD 202 undef = y202
        generalize tm.getD 203 undef = y203
        generalize tm.getD 204 undef = y204
        generalize tm.getD 205 undef = y205
        generalize tm.getD 206 undef = y206
        generalize tm.getD 207 undef = y207
        generalize tm.getD 208 undef = y208
        generalize tm.getD 209 undef = y209
        generalize tm.getD 210 undef = y210
        generalize tm.getD 211 undef = y211
        generalize tm.getD 212 undef = y212
        generalize tm.getD 213 undef = y213
        generalize tm.getD 214 undef = y214
        generalize tm.getD 215 undef = y215
        generalize tm.getD 216 undef = y216
        generalize tm.getD 217 undef = y217
        generalize tm.getD 218 undef = y218
        generalize tm.getD 219 undef = y219
        generalize tm.getD 220 undef = y220
        generalize tm.getD 221 undef = y221
        generalize tm.getD 222 undef = y222
        generalize tm.getD 223 undef = y223
        generalize tm.getD 224 undef = y224
        generalize tm.getD 225 undef = y225
        generalize tm.getD 226 undef = y226
        generalize tm.getD 227 undef = y227
        generalize tm.getD 228 undef = y228
        generalize tm.getD 229 undef = y229
        generalize tm.getD 230 undef = y230
        generalize tm.getD 231 undef = y231
        generalize tm.getD 232 undef = y232
        generalize tm.getD 233 undef = y233
        generalize tm.getD 234 undef = y234
        generalize tm.getD 235 undef = y235
        generalize tm.getD 236 undef = y236
        generalize tm.getD 237 undef = y237
        generalize tm.getD 238 undef = y238
        generalize tm.getD 239 undef = y239
        generalize tm.getD 240 undef = y240
        generalize tm.getD 241 undef = y241
        generalize tm.getD 242 undef = y242
        generalize tm.getD 243 undef = y243
        generalize tm.getD 244 undef = y244
        generalize tm.getD 245 undef = y245
        generalize tm.getD 246 undef = y246
        generalize tm.getD 247 undef = y247
        generalize tm.getD 248 undef = y248
        generalize tm.getD 249 undef = y249
        generalize tm.getD 250 undef = y250
        generalize tm.getD 251 undef = y251
        generalize tm.getD 252 undef = y252
        generalize tm.getD 253 undef = y253
        go_wp2_with fail
        refine ⟨⟨(by first | rfl | trivial), (by first | rfl | trivial), (by obtain ⟨k1, k14, k17, k18, k24, k105, k147, k148, k149, _⟩ := HKK.out; exact ⟨k1, h2.symm, h7.symm, h8.symm, h9.symm, h11.symm, k14, h16.symm, k17, k18, h23.symm, k24, k105, k147, k148, k149, trivial⟩), (by first | rfl | trivial), (by first | rfl | trivial), j + 1, gv3, by go_num, by have := HK.out; push_cast; go_num, hlt, HT3.out, HTX3.out⟩, ?_⟩
        simp [intOf]; omega
      · clear hin
        have hkb := (Only.refl (fun _ => False) wr).alloc (.cells #[.int .i64 1, .int .i64 0, .int .i64 2] 3)
        have hXX : (takeAll (b1, T0) ((expd (repOf fl n2) m0 (M.take j)) ++ List.replicate 0 S) i) = (takeAll (b1, T0) (expd (repOf fl n2) m0 (M.take j)) i) := by rw [List.replicate_zero, List.append_nil]
        rw [← hXX] at HTW
        clear hXX
        go_wp2_with fail
        refine loop6a _ W _ g mo me lg gg lv gv L a2 b1 C1 given T0 (expd (repOf fl n2) m0 (M.take j)) S 1 i rfl rfl rfl rfl rfl rfl rfl rfl rfl rfl rfl (by omega) hL HTWO.out (HLE.out 1 (by omega)) HCH.out HOK.out (HTW.out.keep hkb) ?_
        rintro ⟨tm, df⟩ w3 gv3 hsz' hdf' hK' hT3 htx3
        rw [← HXN.out 1 HR.out] at hT3
        have HT3 := Lib.hid hT3
        have HTX3 := Lib.hid ((HTX.out.trans (.of hkb)).trans htx3)
        clear hT3 htx3 HTX hkb
        simp only at hsz'
        replace hdf' : df = [] := hdf'
        subst hdf'
        have q1 : tm.getD 1 undef = x1 := AllEq.get hK' 1 (by decide)
        have q2 : tm.getD 2 undef = .slice fa n2 fcap := AllEq.get hK' 2 (by decide)
        have q7 : tm.getD 7 undef = .pointer (some ⟨lg, 0, none⟩) := AllEq.get hK' 7 (by decide)
        have q8 : tm.getD 8 undef = .pointer (some ⟨gg, 0, none⟩) := AllEq.get hK' 8 (by decide)
        have q9 : tm.getD 9 undef = .pointer (some ⟨g 0, 0, none⟩) := AllEq.get hK' 9 (by decide)
        have q11 : tm.getD 11 undef = .pointer (some ⟨g 1, 0, none⟩) := AllEq.get hK' 11 (by decide)
        have q14 : tm.getD 14 undef = x14 := AllEq.get hK' 14 (by decide)
        have q16 : tm.getD 16 undef = .int .i64 i := AllEq.get hK' 16 (by decide)
        have q17 : tm.getD 17 undef = x17 := AllEq.get hK' 17 (by decide)
        have q18 : tm.getD 18 undef = x18 := AllEq.get hK' 18 (by decide)
        have q23 : tm.getD 23 undef = .int .i64 0 := AllEq.get hK' 23 (by decide)
        have q24 : tm.getD 24 undef = x24 := AllEq.get hK' 24 (by decide)
        have q105 : tm.getD 105 undef = x105 := AllEq.get hK' 105 (by decide)
        have q147 : tm.getD 147 undef = x147 := AllEq.get hK' 147 (by decide)
        have q148 : tm.getD 148 undef = x148 := AllEq.get hK' 148 (by decide)
        have q149 : tm.getD 149 undef = x149 := AllEq.get hK' 149 (by decide)
        have q15 : tm.getD 15 undef = .int .i64 ((k : Int) + 1) := AllEq.get hK' 15 (by decide)
        have q154 : tm.getD 154 undef = .slice (some ⟨gb, 0, none⟩) M.length mcap := AllEq.get hK' 154 (by decide)
        have q155 : tm.getD 155 undef = .int .i64 M.length := AllEq.get hK' 155 (by decide)
        have q156 : tm.getD 156 undef = .int .i64 j := AllEq.get hK' 156 (by decide)
        have he : tm = #[tm.getD 0 undef, tm.getD 1 undef, tm.getD 2 undef, tm.getD 3 undef, tm.getD 4 undef, tm.getD 5 undef, tm.getD 6 undef, tm.getD 7 undef, tm.getD 8 undef, tm.getD 9 undef, tm.getD 10 undef, tm.getD 11 undef, tm.getD 12 undef, tm.getD 13 undef, tm.getD 14 undef, tm.getD 15 undef, tm.getD 16 undef, tm.getD 17 undef, tm.getD 18 undef, tm.getD 19 undef, tm.getD 20 undef, tm.getD 21 undef, tm.getD 22 undef, tm.getD 23 undef, tm.getD 24 undef, tm.getD 25 undef, tm.getD 26 undef, tm.getD 27 undef, tm.getD 28 undef, tm.getD 29 undef, tm.getD 30 undef, tm.getD 31 undef, tm.getD 32 undef, tm.getD 33 undef, tm.getD 34 undef, tm.getD 35 undef, tm.getD 36 undef, tm.getD 37 undef, tm.getD 38 undef, tm.getD 39 undef, tm.getD 40 undef, tm.getD 41 undef, tm.getD 42 undef, tm.getD 43 undef, tm.getD 44 undef, tm.getD 45 undef, tm.getD 46 undef, tm.getD 47 undef, tm.getD 48 undef, tm.getD 49 undef, tm.getD 50 undef, tm.getD 51 undef, tm.getD 52 undef, tm.getD 53 undef, tm.getD 54 undef, tm.getD 55 undef, tm.getD 56 undef, tm.getD 57 undef, tm.getD 58 undef, tm.getD 59 undef, tm.getD 60 undef, tm.getD 61 undef, tm.getD 62 undef, tm.getD 63 undef, tm.getD 64 undef, tm.getD 65 undef, tm.getD 66 undef, tm.getD 67 undef, tm.getD 68 undef, tm.getD 69 undef, tm.getD 70 undef, tm.getD 71 undef, tm.getD 72 undef, tm.getD 73 undef, tm.getD 74 undef, tm.getD 75 undef, tm.getD 76 undef, tm.getD 77 undef, tm.getD 78 undef, tm.getD 79 undef, tm.getD 80 undef, tm.getD 81 undef, tm.getD 82 undef, tm.getD 83 undef, tm.getD 84 undef, tm.getD 85 undef, tm.getD 86 undef, tm.getD 87 undef, tm.getD 88 undef, tm.getD 89 undef, tm.getD 90 undef, tm.getD 91 undef, tm.getD 92 undef, tm.getD 93 undef, tm.getD 94 undef, tm.getD 95 undef, tm.getD 96 undef, tm.getD 97 undef, tm.getD 98 undef, tm.getD 99 undef, tm.getD 100 undef, tm.getD 101 undef, tm.getD 102 undef, tm.getD 103 undef, tm.getD 104 undef, tm.getD 105 undef, tm.getD 106 undef, tm.getD 107 undef, tm.getD 108 undef, tm.getD 109 undef, tm.getD 110 undef, tm.getD 111 undef, tm.getD 112 undef, tm.getD 113 undef, tm.getD 114 undef, tm.getD 115 undef, tm.getD 116 undef, tm.getD 117 undef, tm.getD 118 undef, tm.getD 119 undef, tm.getD 120 undef, tm.getD 121 undef, tm.getD 122 undef, tm.getD 123 undef, tm.getD 124 undef, tm.getD 125 undef, tm.getD 126 undef, tm.getD 127 undef, tm.getD 128 undef, tm.getD 129 undef, tm.getD 130 undef, tm.getD 131 undef, tm.getD 132 undef, tm.getD 133 undef, tm.getD 134 undef, tm.getD 135 undef, tm.getD 136 undef, tm.getD 137 undef, tm.getD 138 undef, tm.getD 139 undef, tm.getD 140 undef, tm.getD 141 undef, tm.getD 142 undef, tm.getD 143 undef, tm.getD 144 undef, tm.getD 145 undef, tm.getD 146 undef, tm.getD 147 undef, tm.getD 148 undef, tm.getD 149 undef, tm.getD 150 undef, tm.getD 151 undef, tm.getD 152 undef, tm.getD 153 undef, tm.getD 154 undef, tm.getD 155 undef, tm.getD 156 undef, tm.getD 157 undef, tm.getD 158 undef, tm.getD 159 undef, tm.getD 160 undef, tm.getD 161 undef, tm.getD 162 undef, tm.getD 163 undef, tm.getD 164 undef, tm.getD 165 undef, tm.getD 166 undef, tm.getD 167 undef, tm.getD 168 undef, tm.getD 169 undef, tm.getD 170 undef, tm.getD 171 undef, tm.getD 172 undef, tm.getD 173 undef, tm.getD 174 undef, tm.getD 175 undef, tm.getD 176 undef, tm.getD 177 undef, tm.getD 178 undef, tm.getD 179 undef, tm.getD 180 undef, tm.getD 181 undef, tm.getD 182 undef, tm.getD 183 undef, tm.getD 184 undef, tm.getD 185 undef, tm.getD 186 undef, tm.getD 187 undef, tm.getD 188 undef, tm.getD 189 undef, tm.getD 190 undef, tm.getD 191 undef, tm.getD 192 undef, tm.getD 193 undef, tm.getD 194 undef, tm.getD 195 undef, tm.getD 196 undef, tm.getD 197 undef, tm.getD 198 undef, tm.getD 199 undef, tm.getD 200 undef, tm.getD 201 undef, tm.getD 202 undef, tm.getD 203 undef, tm.getD 204 undef, tm.getD 205 undef, tm.getD 206 undef, tm.getD 207 undef, tm.getD 208 undef, tm.getD 209 undef, tm.getD 210 undef, tm.getD 211 undef, tm.getD 212 undef, tm.getD 213 undef, tm.getD 214 undef, tm.getD 215 undef, tm.getD 216 undef, tm.getD 217 undef, tm.getD 218 undef, tm.getD 219 undef, tm.getD 220 undef, tm.getD 221 undef, tm.getD 222 undef, tm.getD 223 undef, tm.getD 224 undef, tm.getD 225 undef, tm.getD 226 undef, tm.getD 227 undef, tm.getD 228 undef, tm.getD 229 undef, tm.getD 230 undef, tm.getD 231 undef, tm.getD 232 undef, tm.getD 233 undef, tm.getD 234 undef, tm.getD 235 undef, tm.getD 236 undef, tm.getD 237 undef, tm.getD 238 undef, tm.getD 239 undef, tm.getD 240 undef, tm.getD 241 undef, tm.getD 242 undef, tm.getD 243 undef, tm.getD 244 undef, tm.getD 245 undef, tm.getD 246 undef, tm.getD 247 undef, tm.getD 248 undef, tm.getD 249 undef, tm.getD 250 undef, tm.getD 251 undef, tm.getD 252 undef, tm.getD 253 undef] := arr_eta (n := 254) hsz'
        rw [he, q1, q2, q7, q8, q9, q11, q14, q16, q17, q18, q23, q24, q105, q147, q148, q149, q15, q154, q155, q156]
        clear he hK' hsz' q1 q2 q7 q8 q9 q11 q14 q16 q17 q18 q23 q24 q105 q147 q148 q149 q15 q154 q155 q156
        generalize tm.getD 0 undef = y0
        generalize tm.getD 3 undef = y3
        generalize tm.getD 4 undef = y4
        generalize tm.getD 5 undef = y5
        generalize tm.getD 6 undef = y6
        generalize tm.getD 10 undef = y10
        generalize tm.getD 12 undef = y12
        generalize tm.getD 13 undef = y13
        generalize tm.getD 19 undef = y19
        generalize tm.getD 20 undef = y20
        generalize tm.getD 21 undef = y21
        generalize tm.getD 22 undef = y22
        generalize tm.getD 25 undef = y25
        generalize tm.getD 26 undef = y26
        generalize tm.getD 27 undef = y27
        generalize tm.getD 28 undef = y28
        generalize tm.getD 29 undef = y29
        generalize tm.getD 30 undef = y30
        generalize tm.getD 31 undef = y31
        generalize tm.getD 32 undef = y32
        generalize tm.getD 33 undef = y33
        generalize tm.getD 34 undef = y34
        generalize tm.getD 35 undef = y35
        generalize tm.getD 36 undef = y36
        generalize tm.getD 37 undef = y37
        generalize tm.getD 38 undef = y38
        generalize tm.getD 39 undef = y39
        generalize tm.getD 40 undef = y40
        generalize tm.getD 41 undef = y41
        generalize tm.getD 42 undef = y42
        generalize tm.getD 43 undef = y43
        generalize tm.getD 44 undef = y44
        generalize tm.getD 45 undef = y45
        generalize tm.getD 46 undef = y46
        generalize tm.getD 47 undef = y47
        generalize tm.getD 48 undef = y48
        generalize tm.getD 49 undef = y49
        generalize tm.getD 50 undef = y50
        generalize tm.getD 51 undef = y51
        generalize tm.getD 52 undef = y52
        generalize tm.getD 53 undef = y53
        generalize tm.getD 54 undef = y54
        generalize tm.getD 55 undef = y55
        generalize tm.getD 56 undef = y56
        generalize tm.getD 57 undef = y57
        generalize tm.getD 58 undef = y58
        generalize tm.getD 59 undef = y59
        generalize tm.getD 60 undef = y60
        generalize tm.getD 61 undef = y61
        generalize tm.getD 62 undef = y62
        generalize tm.getD 63 undef = y63
        generalize tm.getD 64 undef = y64
        generalize tm.getD 65 undef = y65
        generalize tm.getD 66 undef = y66
        generalize tm.getD 67 undef = y67
        generalize tm.getD 68 undef = y68
        generalize tm.getD 69 undef = y69
        generalize tm.getD 70 undef = y70
        generalize tm.getD 71 undef = y71
        generalize tm.getD 72 undef = y72
        generalize tm.getD 73 undef = y73
        generalize tm.getD 74 undef = y74
        generalize tm.getD 75 undef = y75
        generalize tm.getD 76 undef = y76
        generalize tm.getD 77 undef = y77
        generalize tm.getD 78 undef = y78
        generalize tm.getD 79 undef = y79
        generalize tm.getD 80 undef = y80
        generalize tm.getD 81 undef = y81
        generalize tm.getD 82 undef = y82
        generalize tm.getD 83 undef = y83
        generalize tm.getD 84 undef = y84
        generalize tm.getD 85 undef = y85
        generalize tm.getD 86 undef = y86
        generalize tm.getD 87 undef = y87
        generalize tm.getD 88 undef = y88
        generalize tm.getD 89 undef = y89
        generalize tm.getD 90 undef = y90
        generalize tm.getD 91 undef = y91
        generalize tm.getD 92 undef = y92
        generalize tm.getD 93 undef = y93
        generalize tm.getD 94 undef = y94
        generalize tm.getD 95 undef = y95
        generalize tm.getD 96 undef = y96
        generalize tm.getD 97 undef = y97
        generalize tm.getD 98 undef = y98
        generalize tm.getD 99 undef = y99
        generalize tm.getD 100 undef = y100
        generalize tm.getD 101 undef = y101
        generalize tm.getD 102 undef = y102
        generalize tm.getD 103 undef = y103
        generalize tm.getD 104 undef = y104
        generalize tm.getD 106 undef = y106
        generalize tm.getD 107 undef = y107
        generalize tm.getD 108 undef = y108
        generalize tm.getD 109 undef = y109
        generalize tm.getD 110 undef = y110
        generalize tm.getD 111 undef = y111
        generalize tm.getD 112 undef = y112
        generalize tm.getD 113 undef = y113
        generalize tm.getD 114 undef = y114
        generalize tm.getD 115 undef = y115
        generalize tm.getD 116 undef = y116
        generalize tm.getD 117 undef = y117
        generalize tm.getD 118 undef = y118
        generalize tm.getD 119 undef = y119
        generalize tm.getD 120 undef = y120
        generalize tm.getD 121 undef = y121
        generalize tm.getD 122 undef = y122
        generalize tm.getD 123 undef = y123
        generalize tm.getD 124 undef = y124
        generalize tm.getD 125 undef = y125
        generalize tm.getD 126 undef = y126
        generalize tm.getD 127 undef = y127
        generalize tm.getD 128 undef = y128
        generalize tm.getD 129 undef = y129
        generalize tm.getD 130 undef = y130
        generalize tm.getD 131 undef = y131
        generalize tm.getD 132 undef = y132
        generalize tm.getD 133 undef = y133
        generalize tm.getD 134 undef = y134
        generalize tm.getD 135 undef = y135
        generalize tm.getD 136 undef = y136
        generalize tm.getD 137 undef = y137
        generalize tm.getD 138 undef = y138
        generalize tm.getD 139 undef = y139
        generalize tm.getD 140 undef = y140
        generalize tm.getD 141 undef = y141
        generalize tm.getD 142 undef = y142
        generalize tm.getD 143 undef = y143
        generalize tm.getD 144 undef = y144
        generalize tm.getD 145 undef = y145
        generalize tm.getD 146 undef = y146
        generalize tm.getD 150 undef = y150
        generalize tm.getD 151 undef = y151
        generalize tm.getD 152 undef = y152
        generalize tm.getD 153 undef = y153
        generalize tm.getD 157 undef = y157
        generalize tm.getD 158 undef = y158
        generalize tm.getD 159 undef = y159
        generalize tm.getD 160 undef = y160
        generalize tm.getD 161 undef = y161
        generalize tm.getD 162 undef = y162
        generalize tm.getD 163 undef = y163
        generalize tm.getD 164 undef = y164
        generalize tm.getD 165 undef = y165
        generalize tm.getD 166 undef = y166
        generalize tm.getD 167 undef = y167
        generalize tm.getD 168 undef = y168
        generalize tm.getD 169 undef = y169
        generalize tm.getD 170 undef = y170
        generalize tm.getD 171 undef = y171
        generalize tm.getD 172 undef = y172
        generalize tm.getD 173 undef = y173
        generalize tm.getD 174 undef = y174
        generalize tm.getD 175 undef = y175
        generalize tm.getD 176 undef = y176
        generalize tm.getD 177 undef = y177
        generalize tm.getD 178 undef = y178
        generalize tm.getD 179 undef = y179
        generalize tm.getD 180 undef = y180
        generalize tm.getD 181 undef = y181
        generalize tm.getD 182 undef = y182
        generalize tm.getD 183 undef = y183
        generalize tm.getD 184 undef = y184
        generalize tm.getD 185 undef = y185
        generalize tm.getD 186 undef = y186
        generalize tm.getD 187 undef = y187
        generalize tm.getD 188 undef = y188
        generalize tm.getD 189 undef = y189
        generalize tm.getD 190 undef = y190
        generalize tm.getD 191 undef = y191
        generalize tm.getD 192 undef = y192
        generalize tm.getD 193 undef = y193
        generalize tm.getD 194 undef = y194
        generalize tm.getD 195 undef = y195
        generalize tm.getD 196 undef = y196
        generalize tm.getD 197 undef = y197
        generalize tm.getD 198 undef = y198
        generalize tm.getD 199 undef = y199
        generalize tm.getD 200 undef = y200
        generalize tm.getD 201 undef = y201
        generalize tm.getD 202 undef = y202
        generalize tm.getD 203 undef = y203
        generalize tm.getD 204 undef = y204
        generalize tm.getD 205 undef = y205
        generalize tm.getD 206 undef = y206
        generalize tm.getD 207 undef = y207
        generalize tm.getD 208 undef = y208
        generalize tm.getD 209 undef = y209
        generalize tm.getD 210 undef = y210
        generalize tm.getD 211 undef = y211
        generalize tm.getD 212 undef = y212
        generalize tm.getD 213 undef = y213
        generalize tm.getD 214 undef = y214
        generalize tm.getD 215 undef = y215
        generalize tm.getD 216 undef = y216
        generalize tm.getD 217 undef = y217
        generalize tm.getD 218 undef = y218
        generalize tm.getD 219 undef = y219
        generalize tm.getD 220 undef = y220
        generalize tm.getD 221 undef = y221
        generalize tm.getD 222 undef = y222
        generalize tm.getD 223 undef = y223
        generalize tm.getD 224 undef = y224
        generalize tm.getD 225 undef = y225
        generalize tm.getD 226 undef = y226
        generalize tm.getD 227 undef = y227
        generalize tm.getD 228 undef = y228
        generalize tm.getD 229 undef = y229
        generalize tm.getD 230 undef = y230
        generalize tm.getD 231 undef = y231
        generalize tm.getD 232 undef = y232
        generalize tm.getD 233 undef = y233
        generalize tm.getD 234 undef = y234
        generalize tm.getD 235 undef = y235
        generalize tm.getD 236 undef = y236
        generalize tm.getD 237 undef = y237
        generalize tm.getD 238 undef = y238
        generalize tm.getD 239 undef = y239
        generalize tm.getD 240 undef = y240
        generalize tm.getD 241 undef = y241
        generalize tm.getD 242 undef = y242
        generalize tm.getD 243 undef = y243
        generalize tm.getD 244 undef = y244
        generalize tm.getD 245 undef = y245
        generalize tm.getD 246 undef = y246
        generalize tm.getD 247 undef = y247
        generalize tm.getD 248 undef = y248
        generalize tm.getD 249 undef = y249
        generalize tm.getD 250 undef = y250
        generalize tm.getD 251 undef = y251
        generalize tm.getD 252 undef = y252
        generalize tm.getD 253 undef = y253
        go_wp2_with fail
        refine ⟨⟨(by first | rfl | trivial), (by first | rfl | trivial), (by obtain ⟨k1, k14, k17, k18, k24, k105, k147, k148, k149, _⟩ := HKK.out; exact ⟨k1, h2.symm, h7.symm, h8.symm, h9.symm, h11.symm, k14, h16.symm, k17, k18, h23.symm, k24, k105, k147, k148, k149, trivial⟩), (by first | rfl | trivial), (by first | rfl | trivial), j + 1, gv3, by go_num, by have := HK.out; push_cast; go_num, hlt, HT3.out, HTX3.out⟩, ?_⟩
        simp [intOf]; omega
  · obtain rfl : j = M.length := by omega
    clear hform
    go_wp2_with fail
    rw [List.take_length] at HTW
    exact HE.out _ _ gv rfl rfl (by obtain ⟨k1, k14, k17, k18, k24, k105, k147, k148, k149, _⟩ := HKK.out; exact ⟨k1, h2.symm, h7.symm, h8.symm, h9.symm, h11.symm, k14, h16.symm, k17, k18, h23.symm, k24, k105, k147, k148, k149, trivial⟩) (by rw [← HK.out]; rfl) HTW.out HTX.out

end Go.Proofs.Yteifehienpeaiaa
