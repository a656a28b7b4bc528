/-
  TopLog's loop over the events of what was brought.
  Conditions: numbers are of the kind int.
-/
import Derived.Test.YteifehienpeaiaaTopLoop1
set_option linter.unusedVariables false
set_option linter.unusedSimpArgs false
set_option maxRecDepth 100000
namespace Go.Proofs.Yteifehienpeaiaa
open Go.RowKit

def K8 : List Nat := [1, 2, 7, 8, 9, 11, 14, 15, 16, 17, 18, 23, 24, 26, 105, 147, 148, 149, 154, 155, 156, 178, 179, 194, 195, 196]
/-- What holds ahead of the event p. -/
structure Rel8 (W w0 : World) (g mo me : Nat → Nat) (lg gg : Nat) (lv : Value) (s : Nat → CS) (L G0 c : List EV) (B : Nat) (pv : Value) (p : Nat) (gv : Value) (w : World) : Prop where
  tw : TW W w g mo me lg gg lv gv s L (G0 ++ c.take p)
  row : w.ownsRow B 83 3 pv c.length (cellsOf c)
  sep : ∀ k, pv.ownBlock = some k → gv.ownBlock ≠ some k
  texts : Texts w0 w
theorem erow_keep {Q : Nat → Prop} {w w' : World} {B n : Nat} {v : Value} {xs : List Value} (h : w.ownsRow B 83 3 v n xs) (hk : Only Q w w') (hQ : ∀ k, v.ownBlock = some k → ¬ Q k) : w'.ownsRow B 83 3 v n xs := by
  refine ⟨h.1, ?_⟩
  rcases h.2 with h1 | ⟨g, cap, cur, rfl, hb, hg, rest⟩
  · exact .inl h1
  · exact .inr ⟨g, cap, cur, rfl, hb, hk.at hg (hQ g rfl), rest⟩

set_option maxHeartbeats 2000000 in
theorem loop8 {Q : Exit → Act → World → Prop} (a0 : Act) (W w0 : World) (g mo me : Nat → Nat) (lg gg : Nat) (lv gv0 : Value) (s : Nat → CS) (L G0 c : List EV) (B : Nat) (pv : Value)
    (hsz : a0.tmps.size = 254) (hdf : a0.defers = []) (h7 : a0.tmps.getD 7 undef = .pointer (some ⟨lg, 0, none⟩)) (h8 : a0.tmps.getD 8 undef = .pointer (some ⟨gg, 0, none⟩)) (h207 : a0.tmps.getD 207 undef = pv) (h208 : a0.tmps.getD 208 undef = .int .i64 c.length) (h209 : a0.tmps.getD 209 undef = .int .i64 0)
    (hc : ∀ p x, c[p]? = some x → takesB (G0 ++ c.take p) x = true ∧ L[(G0 ++ c.take p).length]? = some x) (hlen : G0.length + c.length ≤ 1000) (hL : L.length ≤ 1000)
    (hT : TW W w0 g mo me lg gg lv gv0 s L G0) (hrow : w0.ownsRow B 83 3 pv c.length (cellsOf c)) (hsep : ∀ k, pv.ownBlock = some k → gv0.ownBlock ≠ some k)
    (hexit : ∀ a' w' gv, a'.tmps.size = 254 → a'.defers = [] → AllEq K8 a0 a' → TW W w' g mo me lg gg lv gv s L (G0 ++ c) → Texts w0 w' → Q (.exit 14) a' w') :
    (Code.loop (lawBody 7)).wp Try.prog Q a0 w0 := by
  refine wp_loop (fun a w => a.tmps.size = 254 ∧ a.defers = [] ∧ AllEq K8 a0 a ∧ a.tmps.getD 207 undef = pv ∧ a.tmps.getD 208 undef = .int .i64 c.length ∧ ∃ (p : Nat) (gv : Value), a.tmps.getD 209 undef = .int .i64 p ∧ p ≤ c.length ∧ Rel8 W w0 g mo me lg gg lv s L G0 c B pv p gv w) (fun a _ => c.length - (intOf (a.tmps.getD 209 undef)).toNat) ⟨hsz, hdf, .refl _ _, h207, h208, 0, gv0, h209, Nat.zero_le _, ⟨by simpa using hT, hrow, hsep, .refl _⟩⟩ ?_
  rintro ⟨tm, df⟩ wr ⟨hsz, hdf', hK, q207, q208, p, gv, q209, hpc, hR⟩
  replace hdf' : df = [] := hdf'
  subst hdf'
  have HR := Lib.hid hR
  have HC := Lib.hid hc
  have HE := Lib.hid hexit
  clear hR hc hexit hT hrow hsep hdf
  simp only at hsz q207 q208 q209
  have k1 : tm.getD 1 undef = a0.tmps.getD 1 undef := AllEq.get hK 1 (by decide)
  have k2 : tm.getD 2 undef = a0.tmps.getD 2 undef := AllEq.get hK 2 (by decide)
  have k9 : tm.getD 9 undef = a0.tmps.getD 9 undef := AllEq.get hK 9 (by decide)
  have k11 : tm.getD 11 undef = a0.tmps.getD 11 undef := AllEq.get hK 11 (by decide)
  have k14 : tm.getD 14 undef = a0.tmps.getD 14 undef := AllEq.get hK 14 (by decide)
  have k15 : tm.getD 15 undef = a0.tmps.getD 15 undef := AllEq.get hK 15 (by decide)
  have k16 : tm.getD 16 undef = a0.tmps.getD 16 undef := AllEq.get hK 16 (by decide)
  have k17 : tm.getD 17 undef = a0.tmps.getD 17 undef := AllEq.get hK 17 (by decide)
  have k18 : tm.getD 18 undef = a0.tmps.getD 18 undef := AllEq.get hK 18 (by decide)
  have k23 : tm.getD 23 undef = a0.tmps.getD 23 undef := AllEq.get hK 23 (by decide)
  have k24 : tm.getD 24 undef = a0.tmps.getD 24 undef := AllEq.get hK 24 (by decide)
  have k26 : tm.getD 26 undef = a0.tmps.getD 26 undef := AllEq.get hK 26 (by decide)
  have k105 : tm.getD 105 undef = a0.tmps.getD 105 undef := AllEq.get hK 105 (by decide)
  have k147 : tm.getD 147 undef = a0.tmps.getD 147 undef := AllEq.get hK 147 (by decide)
  have k148 : tm.getD 148 undef = a0.tmps.getD 148 undef := AllEq.get hK 148 (by decide)
  have k149 : tm.getD 149 undef = a0.tmps.getD 149 undef := AllEq.get hK 149 (by decide)
  have k154 : tm.getD 154 undef = a0.tmps.getD 154 undef := AllEq.get hK 154 (by decide)
  have k155 : tm.getD 155 undef = a0.tmps.getD 155 undef := AllEq.get hK 155 (by decide)
  have k156 : tm.getD 156 undef = a0.tmps.getD 156 undef := AllEq.get hK 156 (by decide)
  have k178 : tm.getD 178 undef = a0.tmps.getD 178 undef := AllEq.get hK 178 (by decide)
  have k179 : tm.getD 179 undef = a0.tmps.getD 179 undef := AllEq.get hK 179 (by decide)
  have k194 : tm.getD 194 undef = a0.tmps.getD 194 undef := AllEq.get hK 194 (by decide)
  have k195 : tm.getD 195 undef = a0.tmps.getD 195 undef := AllEq.get hK 195 (by decide)
  have k196 : tm.getD 196 undef = a0.tmps.getD 196 undef := AllEq.get hK 196 (by decide)
  have q7 : tm.getD 7 undef = .pointer (some ⟨lg, 0, none⟩) := (AllEq.get hK 7 (by decide)).trans h7
  have q8 : tm.getD 8 undef = .pointer (some ⟨gg, 0, none⟩) := (AllEq.get hK 8 (by decide)).trans h8
  have he : tm = #[tm.getD 0 undef, tm.getD 1 undef, tm.getD 2 undef, tm.getD 3 undef, tm.getD 4 undef, tm.getD 5 undef, tm.getD 6 undef, tm.getD 7 undef, tm.getD 8 undef, tm.getD 9 undef, tm.getD 10 undef, tm.getD 11 undef, tm.getD 12 undef, tm.getD 13 undef, tm.getD 14 undef, tm.getD 15 undef, tm.getD 16 undef, tm.getD 17 undef, tm.getD 18 undef, tm.getD 19 undef, tm.getD 20 undef, tm.getD 21 undef, tm.getD 22 undef, tm.getD 23 undef, tm.getD 24 undef, tm.getD 25 undef, tm.getD 26 undef, tm.getD 27 undef, tm.getD 28 undef, tm.getD 29 undef, tm.getD 30 undef, tm.getD 31 undef, tm.getD 32 undef, tm.getD 33 undef, tm.getD 34 undef, tm.getD 35 undef, tm.getD 36 undef, tm.getD 37 undef, tm.getD 38 undef, tm.getD 39 undef, tm.getD 40 undef, tm.getD 41 undef, tm.getD 42 undef, tm.getD 43 undef, tm.getD 44 undef, tm.getD 45 undef, tm.getD 46 undef, tm.getD 47 undef, tm.getD 48 undef, tm.getD 49 undef, tm.getD 50 undef, tm.getD 51 undef, tm.getD 52 undef, tm.getD 53 undef, tm.getD 54 undef, tm.getD 55 undef, tm.getD 56 undef, tm.getD 57 undef, tm.getD 58 undef, tm.getD 59 undef, tm.getD 60 undef, tm.getD 61 undef, tm.getD 62 undef, tm.getD 63 undef, tm.getD 64 undef, tm.getD 65 undef, tm.getD 66 undef, tm.getD 67 undef, tm.getD 68 undef, tm.getD 69 undef, tm.getD 70 undef, tm.getD 71 undef, tm.getD 72 undef, tm.getD 73 undef, tm.getD 74 undef, tm.getD 75 undef, tm.getD 76 undef, tm.getD 77 undef, tm.getD 78 undef, tm.getD 79 undef, tm.getD 80 undef, tm.getD 81 undef, tm.getD 82 undef, tm.getD 83 undef, tm.getD 84 undef, tm.getD 85 undef, tm.getD 86 undef, tm.getD 87 undef, tm.getD 88 undef, tm.getD 89 undef, tm.getD 90 undef, tm.getD 91 undef, tm.getD 92 undef, tm.getD 93 undef, tm.getD 94 undef, tm.getD 95 undef, tm.getD 96 undef, tm.getD 97 undef, tm.getD 98 undef, tm.getD 99 undef, tm.getD 100 undef, tm.getD 101 undef, tm.getD 102 undef, tm.getD 103 undef, tm.getD 104 undef, tm.getD 105 undef, tm.getD 106 undef, tm.getD 107 undef, tm.getD 108 undef, tm.getD 109 undef, tm.getD 110 undef, tm.getD 111 undef, tm.getD 112 undef, tm.getD 113 undef, tm.getD 114 undef, tm.getD 115 undef, tm.getD 116 undef, tm.getD 117 undef, tm.getD 118 undef, tm.getD 119 undef, tm.getD 120 undef, tm.getD 121 undef, tm.getD 122 undef, tm.getD 123 undef, tm.getD 124 undef, tm.getD 125 undef, tm.getD 126 undef, tm.getD 127 undef, tm.getD 128 undef, tm.getD 129 undef, tm.getD 130 undef, tm.getD 131 undef, tm.getD 132 undef, tm.getD 133 undef, tm.getD 134 undef, tm.getD 135 undef, tm.getD 136 undef, tm.getD 137 undef, tm.getD 138 undef, tm.getD 139 undef, tm.getD 140 undef, tm.getD 141 undef, tm.getD 142 undef, tm.getD 143 undef, tm.getD 144 undef, tm.getD 145 undef, tm.getD 146 undef, tm.getD 147 undef, tm.getD 148 undef, tm.getD 149 undef, tm.getD 150 undef, tm.getD 151 undef, tm.getD 152 undef, tm.getD 153 undef, tm.getD 154 undef, tm.getD 155 undef, tm.getD 156 undef, tm.getD 157 undef, tm.getD 158 undef, tm.getD 159 undef, tm.getD 160 undef, tm.getD 161 undef, tm.getD 162 undef, tm.getD 163 undef, tm.getD 164 undef, tm.getD 165 undef, tm.getD 166 undef, tm.getD 167 undef, tm.getD 168 undef, tm.getD 169 undef, tm.getD 170 undef, tm.getD 171 undef, tm.getD 172 undef, tm.getD 173 undef, tm.getD 174 undef, tm.getD 175 undef, tm.getD 176 undef, tm.getD 177 undef, tm.getD 178 undef, tm.getD 179 undef, tm.getD 180 undef, tm.getD 181 undef, tm.getD 182 undef, tm.getD 183 undef, tm.getD 184 undef, tm.getD 185 undef, tm.getD 186 undef, tm.getD 187 undef, tm.getD 188 undef, tm.getD 189 undef, tm.getD 190 undef, tm.getD 191 undef, tm.getD 192 undef, tm.getD 193 undef, tm.getD 194 undef, tm.getD 195 undef, tm.getD 196 undef, tm.getD 197 undef, tm.getD 198 undef, tm.getD 199 undef, tm.getD 200 undef, tm.getD 201 undef, tm.getD 202 undef, tm.getD 203 undef, tm.getD 204 undef, tm.getD 205 undef, tm.getD 206 undef, tm.getD 207 undef, tm.getD 208 undef, tm.getD 209 undef, tm.getD 210 undef, tm.getD 211 undef, tm.getD 212 undef, tm.getD 213 undef, tm.getD 214 undef, tm.getD 215 undef, tm.getD 216 undef, tm.getD 217 undef, tm.getD 218 undef, tm.getD 219 undef, tm.getD 220 undef, tm.getD 221 undef, tm.getD 222 undef, tm.getD 223 undef, tm.getD 224 undef, tm.getD 225 undef, tm.getD 226 undef, tm.getD 227 undef, tm.getD 228 undef, tm.getD 229 undef, tm.getD 230 undef, tm.getD 231 undef, tm.getD 232 undef, tm.getD 233 undef, tm.getD 234 undef, tm.getD 235 undef, tm.getD 236 undef, tm.getD 237 undef, tm.getD 238 undef, tm.getD 239 undef, tm.getD 240 undef, tm.getD 241 undef, tm.getD 242 undef, tm.getD 243 undef, tm.getD 244 undef, tm.getD 245 undef, tm.getD 246 undef, tm.getD 247 undef, tm.getD 248 undef, tm.getD 249 undef, tm.getD 250 undef, tm.getD 251 undef, tm.getD 252 undef, tm.getD 253 undef] := arr_eta (n := 254) hsz
  rw [he, q7, q8, q207, q208, q209]
  clear he hK hsz q7 q8 q207 q208 q209
  generalize tm.getD 0 undef = x0
  generalize tm.getD 1 undef = x1 at k1 ⊢
  generalize tm.getD 2 undef = x2 at k2 ⊢
  generalize tm.getD 3 undef = x3
  generalize tm.getD 4 undef = x4
  generalize tm.getD 5 undef = x5
  generalize tm.getD 6 undef = x6
  generalize tm.getD 9 undef = x9 at k9 ⊢
  generalize tm.getD 10 undef = x10
  generalize tm.getD 11 undef = x11 at k11 ⊢
  generalize tm.getD 12 undef = x12
  generalize tm.getD 13 undef = x13
  generalize tm.getD 14 undef = x14 at k14 ⊢
  generalize tm.getD 15 undef = x15 at k15 ⊢
  generalize tm.getD 16 undef = x16 at k16 ⊢
  generalize tm.getD 17 undef = x17 at k17 ⊢
  generalize tm.getD 18 undef = x18 at k18 ⊢
  generalize tm.getD 19 undef = x19
  generalize tm.getD 20 undef = x20
  generalize tm.getD 21 undef = x21
  generalize tm.getD 22 undef = x22
  generalize tm.getD 23 undef = x23 at k23 ⊢
  generalize tm.getD 24 undef = x24 at k24 ⊢
  generalize tm.getD 25 undef = x25
  generalize tm.getD 26 undef = x26 at k26 ⊢
  generalize tm.getD 27 undef = x27
  generalize tm.getD 28 undef = x28
  generalize tm.getD 29 undef = x29
  generalize tm.getD 30 undef = x30
  generalize tm.getD 31 undef = x31
  generalize tm.getD 32 undef = x32
  generalize tm.getD 33 undef = x33
  generalize tm.getD 34 undef = x34
  generalize tm.getD 35 undef = x35
  generalize tm.getD 36 undef = x36
  generalize tm.getD 37 undef = x37
  generalize tm.getD 38 undef = x38
  generalize tm.getD 39 undef = x39
  generalize tm.getD 40 undef = x40
  generalize tm.getD 41 undef = x41
  generalize tm.getD 42 undef = x42
  generalize tm.getD 43 undef = x43
  generalize tm.getD 44 undef = x44
  generalize tm.getD 45 undef = x45
  generalize tm.getD 46 undef = x46
  generalize tm.getD 47 undef = x47
  generalize tm.getD 48 undef = x48
  generalize tm.getD 49 undef = x49
  generalize tm.getD 50 undef = x50
  generalize tm.getD 51 undef = x51
  generalize tm.getD 52 undef = x52
  generalize tm.getD 53 undef = x53
  generalize tm.getD 54 undef = x54
  generalize tm.getD 55 undef = x55
  generalize tm.getD 56 undef = x56
  generalize tm.getD 57 undef = x57
  generalize tm.getD 58 undef = x58
  generalize tm.getD 59 undef = x59
  generalize tm.getD 60 undef = x60
  generalize tm.getD 61 undef = x61
  generalize tm.getD 62 undef = x62
  generalize tm.getD 63 undef = x63
  generalize tm.getD 64 undef = x64
  generalize tm.getD 65 undef = x65
  generalize tm.getD 66 undef = x66
  generalize tm.getD 67 undef = x67
  generalize tm.getD 68 undef = x68
  generalize tm.getD 69 undef = x69
  generalize tm.getD 70 undef = x70
  generalize tm.getD 71 undef = x71
  generalize tm.getD 72 undef = x72
  generalize tm.getD 73 undef = x73
  generalize tm.getD 74 undef = x74
  generalize tm.getD 75 undef = x75
  generalize tm.getD 76 undef = x76
  generalize tm.getD 77 undef = x77
  generalize tm.getD 78 undef = x78
  generalize tm.getD 79 undef = x79
  generalize tm.getD 80 undef = x80
  generalize tm.getD 81 undef = x81
  generalize tm.getD 82 undef = x82
  generalize tm.getD 83 undef = x83
  generalize tm.getD 84 undef = x84
  generalize tm.getD 85 undef = x85
  generalize tm.getD 86 undef = x86
  generalize tm.getD 87 undef = x87
  generalize tm.getD 88 undef = x88
  generalize tm.getD 89 undef = x89
  generalize tm.getD 90 undef = x90
  generalize tm.getD 91 undef = x91
  generalize tm.getD 92 undef = x92
  generalize tm.getD 93 undef = x93
  generalize tm.getD 94 undef = x94
  generalize tm.getD 95 undef = x95
  generalize tm.getD 96 undef = x96
  generalize tm.getD 97 undef = x97
  generalize tm.getD 98 undef = x98
  generalize tm.getD 99 undef = x99
  generalize tm.getD 100 undef = x100
  generalize tm.getD 101 undef = x101
  generalize tm.getD 102 undef = x102
  generalize tm.getD 103 undef = x103
  generalize tm.getD 104 undef = x104
  generalize tm.getD 105 undef = x105 at k105 ⊢
  generalize tm.getD 106 undef = x106
  generalize tm.getD 107 undef = x107
  generalize tm.getD 108 undef = x108
  generalize tm.getD 109 undef = x109
  generalize tm.getD 110 undef = x110
  generalize tm.getD 111 undef = x111
  generalize tm.getD 112 undef = x112
  generalize tm.getD 113 undef = x113
  generalize tm.getD 114 undef = x114
  generalize tm.getD 115 undef = x115
  generalize tm.getD 116 undef = x116
  generalize tm.getD 117 undef = x117
  generalize tm.getD 118 undef = x118
  generalize tm.getD 119 undef = x119
  generalize tm.getD 120 undef = x120
  generalize tm.getD 121 undef = x121
  generalize tm.getD 122 undef = x122
  generalize tm.getD 123 undef = x123
  generalize tm.getD 124 undef = x124
  generalize tm.getD 125 undef = x125
  generalize tm.getD 126 undef = x126
  generalize tm.getD 127 undef = x127
  generalize tm.getD 128 undef = x128
  generalize tm.getD 129 undef = x129
  generalize tm.getD 130 undef = x130
  generalize tm.getD 131 undef = x131
  generalize tm.getD 132 undef = x132
  generalize tm.getD 133 undef = x133
  generalize tm.getD 134 undef = x134
  generalize tm.getD 135 undef = x135
  generalize tm.getD 136 undef = x136
  generalize tm.getD 137 undef = x137
  generalize tm.getD 138 undef = x138
  generalize tm.getD 139 undef = x139
  generalize tm.getD 140 undef = x140
  generalize tm.getD 141 undef = x141
  generalize tm.getD 142 undef = x142
  generalize tm.getD 143 undef = x143
  generalize tm.getD 144 undef = x144
  generalize tm.getD 145 undef = x145
  generalize tm.getD 146 undef = x146
  generalize tm.getD 147 undef = x147 at k147 ⊢
  generalize tm.getD 148 undef = x148 at k148 ⊢
  generalize tm.getD 149 undef = x149 at k149 ⊢
  generalize tm.getD 150 undef = x150
  generalize tm.getD 151 undef = x151
  generalize tm.getD 152 undef = x152
  generalize tm.getD 153 undef = x153
  generalize tm.getD 154 undef = x154 at k154 ⊢
  generalize tm.getD 155 undef = x155 at k155 ⊢
  generalize tm.getD 156 undef = x156 at k156 ⊢
  generalize tm.getD 157 undef = x157
  generalize tm.getD 158 undef = x158
  generalize tm.getD 159 undef = x159
  generalize tm.getD 160 undef = x160
  generalize tm.getD 161 undef = x161
  generalize tm.getD 162 undef = x162
  generalize tm.getD 163 undef = x163
  generalize tm.getD 164 undef = x164
  generalize tm.getD 165 undef = x165
  generalize tm.getD 166 undef = x166
  generalize tm.getD 167 undef = x167
  generalize tm.getD 168 undef = x168
  generalize tm.getD 169 undef = x169
  generalize tm.getD 170 undef = x170
  generalize tm.getD 171 undef = x171
  generalize tm.getD 172 undef = x172
  generalize tm.getD 173 undef = x173
  generalize tm.getD 174 undef = x174
  generalize tm.getD 175 undef = x175
  generalize tm.getD 176 undef = x176
  generalize tm.getD 177 undef = x177
  generalize tm.getD 178 undef = x178 at k178 ⊢
  generalize tm.getD 179 undef = x179 at k179 ⊢
  generalize tm.getD 180 undef = x180
  generalize tm.getD 181 undef = x181
  generalize tm.getD 182 undef = x182
  generalize tm.getD 183 undef = x183
  generalize tm.getD 184 undef = x184
  generalize tm.getD 185 undef = x185
  generalize tm.getD 186 undef = x186
  generalize tm.getD 187 undef = x187
  generalize tm.getD 188 undef = x188
  generalize tm.getD 189 undef = x189
  generalize tm.getD 190 undef = x190
  generalize tm.getD 191 undef = x191
  generalize tm.getD 192 undef = x192
  generalize tm.getD 193 undef = x193
  generalize tm.getD 194 undef = x194 at k194 ⊢
  generalize tm.getD 195 undef = x195 at k195 ⊢
  generalize tm.getD 196 undef = x196 at k196 ⊢
  generalize tm.getD 197 undef = x197
  generalize tm.getD 198 undef = x198
  generalize tm.getD 199 undef = x199
  generalize tm.getD 200 undef = x200
  generalize tm.getD 201 undef = x201
  generalize tm.getD 202 undef = x202
  generalize tm.getD 203 undef = x203
  generalize tm.getD 204 undef = x204
  generalize tm.getD 205 undef = x205
  generalize tm.getD 206 undef = x206
  generalize tm.getD 210 undef = x210
  generalize tm.getD 211 undef = x211
  generalize tm.getD 212 undef = x212
  generalize tm.getD 213 undef = x213
  generalize tm.getD 214 undef = x214
  generalize tm.getD 215 undef = x215
  generalize tm.getD 216 undef = x216
  generalize tm.getD 217 undef = x217
  generalize tm.getD 218 undef = x218
  generalize tm.getD 219 undef = x219
  generalize tm.getD 220 undef = x220
  generalize tm.getD 221 undef = x221
  generalize tm.getD 222 undef = x222
  generalize tm.getD 223 undef = x223
  generalize tm.getD 224 undef = x224
  generalize tm.getD 225 undef = x225
  generalize tm.getD 226 undef = x226
  generalize tm.getD 227 undef = x227
  generalize tm.getD 228 undef = x228
  generalize tm.getD 229 undef = x229
  generalize tm.getD 230 undef = x230
  generalize tm.getD 231 undef = x231
  generalize tm.getD 232 undef = x232
  generalize tm.getD 233 undef = x233
  generalize tm.getD 234 undef = x234
  generalize tm.getD 235 undef = x235
  generalize tm.getD 236 undef = x236
  generalize tm.getD 237 undef = x237
  generalize tm.getD 238 undef = x238
  generalize tm.getD 239 undef = x239
  generalize tm.getD 240 undef = x240
  generalize tm.getD 241 undef = x241
  generalize tm.getD 242 undef = x242
  generalize tm.getD 243 undef = x243
  generalize tm.getD 244 undef = x244
  generalize tm.getD 245 undef = x245
  generalize tm.getD 246 undef = x246
  generalize tm.getD 247 undef = x247
  generalize tm.getD 248 undef = x248
  generalize tm.getD 249 undef = x249
  generalize tm.getD 250 undef = x250
  generalize tm.getD 251 undef = x251
  generalize tm.getD 252 undef = x252
  generalize tm.getD 253 undef = x253
  have HKK : Hid (x1 = a0.tmps.getD 1 undef ∧ x2 = a0.tmps.getD 2 undef ∧ x9 = a0.tmps.getD 9 undef ∧ x11 = a0.tmps.getD 11 undef ∧ x14 = a0.tmps.getD 14 undef ∧ x15 = a0.tmps.getD 15 undef ∧ x16 = a0.tmps.getD 16 undef ∧ x17 = a0.tmps.getD 17 undef ∧ x18 = a0.tmps.getD 18 undef ∧ x23 = a0.tmps.getD 23 undef ∧ x24 = a0.tmps.getD 24 undef ∧ x26 = a0.tmps.getD 26 undef ∧ x105 = a0.tmps.getD 105 undef ∧ x147 = a0.tmps.getD 147 undef ∧ x148 = a0.tmps.getD 148 undef ∧ x149 = a0.tmps.getD 149 undef ∧ x154 = a0.tmps.getD 154 undef ∧ x155 = a0.tmps.getD 155 undef ∧ x156 = a0.tmps.getD 156 undef ∧ x178 = a0.tmps.getD 178 undef ∧ x179 = a0.tmps.getD 179 undef ∧ x194 = a0.tmps.getD 194 undef ∧ x195 = a0.tmps.getD 195 undef ∧ x196 = a0.tmps.getD 196 undef ∧ True) := Lib.hid ⟨k1, k2, k9, k11, k14, k15, k16, k17, k18, k23, k24, k26, k105, k147, k148, k149, k154, k155, k156, k178, k179, k194, k195, k196, trivial⟩
  clear k1 k2 k9 k11 k14 k15 k16 k17 k18 k23 k24 k26 k105 k147 k148 k149 k154 k155 k156 k178 k179 k194 k195 k196
  clear h207 h208 h209
  unfold lawBody
  conv => arg 2; whnf
  obtain ⟨aa, cap, hpv, hcap, hform⟩ := erow_form HR.out.row
  by_cases hlt : p < c.length
  · obtain ⟨x, hx⟩ : ∃ x, c[p]? = some x := ⟨_, List.getElem?_eq_getElem hlt⟩
    obtain ⟨pb, rfl, hpB, hpl, z0, z1, z2⟩ := hform p x hx
    obtain ⟨hadd, hsame⟩ := HC.out p x hx
    have hTn : G0 ++ c.take (p + 1) = (G0 ++ c.take p) ++ [x] := by
      rw [List.take_add_one, hx, List.append_assoc]
      rfl
    have HTN := Lib.hid hTn
    have hxd : x.data.size ≤ 140737488355328 := by
      unfold takesB at hadd
      simp only [Bool.and_eq_true] at hadd
      have := ((evB_iff x).1 hadd.1.1).2
      omega
    have HX := Lib.hid hx
    have HADD := Lib.hid hadd
    have HSAME := Lib.hid hsame
    have hGl : (G0 ++ c.take p).length ≤ 1000 := by
      rw [List.length_append, List.length_take]; omega
    clear hTn hx hadd hsame hform
    have htw := HR.out.tw
    generalize G0 ++ c.take p = G at *
    have hal := (Only.refl (fun _ => False) wr).alloc (.cells #[.int .i64 x.kind, .int .i64 x.now, .string x.data] 83)
    have hT1 := htw.keep hal
    have hrow1 := erow_keep HR.out.row hal (fun _ _ h => h)
    have htx1 := HR.out.texts.trans (.of hal)
    have hnew := blk_new wr (.cells #[.int .i64 x.kind, .int .i64 x.now, .string x.data] 83)
    have hgg : ¬ wr.heap.size = gg := by have := heap_lt htw.got.cell; omega
    have hgv : ∀ b, gv.ownBlock = some b → b < wr.heap.size := fun b hb => (htw.got.row.lt b hb).2
    have HT1 := Lib.hid hT1
    have HROW1 := Lib.hid hrow1
    have HTX1 := Lib.hid htx1
    have HSEP := Lib.hid HR.out.sep
    clear hT1 hrow1 htx1 hal htw HR
    subst hpv
    go_wp2_with fail
    generalize wr.alloc (.cells #[.int .i64 x.kind, .int .i64 x.now, .string x.data] 83) = w1 at *
    generalize wr.heap.size = nb at *
    refine (tw_got HT1.out x hGl HADD.out).mono ?_
    rintro e w2 ⟨gv', rfl, hT2, htx2, hk2, hown2⟩
    have hz2 := hk2.at hnew (fun h => h.elim hgg (fun e => by have := hgv _ e; omega))
    have y0 := blk_cell hz2 0
    have y1 := blk_cell hz2 1
    have y2 := blk_cell hz2 2
    simp only [List.getElem?_toArray, List.getElem?_cons_zero, List.getElem?_cons_succ] at y0 y1 y2
    have hpg : ¬ pb = gg := by
      intro e
      obtain ⟨cur, hcur⟩ := erow_block (b := pb) HROW1.out rfl
      exact ty_ne hcur HT1.out.got.cell (by decide) e
    have hrow2 := erow_keep HROW1.out hk2 (fun k hb e => by
      cases hb
      rcases e with e | e
      · exact hpg e
      · exact HSEP.out pb rfl e)
    have hsep2 : ∀ k, (Value.slice (some ⟨pb, 0, none⟩) c.length cap).ownBlock = some k → gv'.ownBlock ≠ some k := by
      intro k hb e
      cases hb
      rcases hown2 pb e with e | e
      · exact HSEP.out pb rfl e
      · have := heap_lt (show w1.heap[pb]? = _ from (erow_block (b := pb) HROW1.out rfl).choose_spec)
        omega
    have HT2 := Lib.hid hT2
    have HTX2 := Lib.hid (HTX1.out.trans htx2)
    have HROW2 := Lib.hid hrow2
    have HSEP2 := Lib.hid hsep2
    clear hT2 htx2 hk2 hown2 hz2 hrow2 hsep2 hnew hgv hgg hpg
    go_wp2_with fail
    refine (same_any w2 W.heap.size lg lv L _ x HT2.out.log HSAME.out hL).mono ?_
    rintro e w3 ⟨rfl, hk3⟩
    have HT3 := Lib.hid (HT2.out.keep hk3)
    have HTX3 := Lib.hid (HTX2.out.trans (.of hk3))
    have HROW3 := Lib.hid (erow_keep HROW2.out hk3 (fun _ _ h => h))
    clear hk3 y0 y1 y2
    go_wp2_with fail
    refine ⟨⟨(by first | rfl | trivial), (by first | rfl | trivial), (by obtain ⟨k1, k2, k9, k11, k14, k15, k16, k17, k18, k23, k24, k26, k105, k147, k148, k149, k154, k155, k156, k178, k179, k194, k195, k196, _⟩ := HKK.out; exact ⟨k1, k2, h7.symm, h8.symm, k9, k11, k14, k15, k16, k17, k18, k23, k24, k26, k105, k147, k148, k149, k154, k155, k156, k178, k179, k194, k195, k196, trivial⟩), (by first | rfl | trivial), (by first | rfl | trivial), p + 1, gv', by go_num, hlt, ⟨by rw [HTN.out]; exact HT3.out, HROW3.out, HSEP2.out, HTX3.out⟩⟩, ?_⟩
    simp [intOf]; omega
  · obtain rfl : p = c.length := by omega
    clear hform
    go_wp2_with fail
    exact HE.out _ _ gv rfl rfl (by obtain ⟨k1, k2, k9, k11, k14, k15, k16, k17, k18, k23, k24, k26, k105, k147, k148, k149, k154, k155, k156, k178, k179, k194, k195, k196, _⟩ := HKK.out; exact ⟨k1, k2, h7.symm, h8.symm, k9, k11, k14, k15, k16, k17, k18, k23, k24, k26, k105, k147, k148, k149, k154, k155, k156, k178, k179, k194, k195, k196, trivial⟩) (by have := HR.out.tw; rw [List.take_length] at this; exact this) HR.out.texts

end Go.Proofs.Yteifehienpeaiaa
