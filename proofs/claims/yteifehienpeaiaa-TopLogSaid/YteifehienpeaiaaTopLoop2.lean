/-
  TopLog's rounds.
  Conditions: numbers are of the kind int.
-/
import Derived.Test.YteifehienpeaiaaTopLoop3
import Derived.Test.YteifehienpeaiaaTopLoop5A
import Derived.Test.YteifehienpeaiaaTopLoop5B
set_option linter.unusedVariables false
set_option linter.unusedSimpArgs false
set_option maxRecDepth 100000
namespace Go.Proofs.Yteifehienpeaiaa
open Go.RowKit

section
variable {P : Program} {ops : Array Oper} {o : Oper} {rest : List Oper} {a : Act} {Q : Exit → Act → World → Prop} {w : World}
theorem wpList_append_ran (hg : o.guard = none) (s x : Operand) (t : TypeId) (ho : o.op = Op.call { callee := Callee.builtin Builtin.append, args := #[s, x], argTypes := #[t, t] }) (v u v' : Value) (w' : World) (hs : a.eval s = v) (hx : a.eval x = u)
    (hr : (Builtin.append_ #[t, t] o.type #[v, u]).run P w = .ok v' w') (h : wpList P ops Q rest (a.put o.dst v') w') : wpList P ops Q (o :: rest) a w := by
  refine wpList_plain hg fun K hK => ?_
  unfold Oper.wp execOp
  simp only [ho, resolve, invoke, builtin, Sem.run_bind, Sem.run_pure, Result.andThen_ok, List.map_toArray, List.map_cons, List.map_nil, hs, hx, hr]
  exact hK _ _ h
end
theorem outs_length (s : CS) (i : Int) : (s.outs i).length ≤ s.O.length + 1 := by
  unfold CS.outs
  rw [List.length_append, List.length_map]
  have := List.length_filter_le (s.ticked i).due s.O
  split <;> simp <;> omega
theorem pre_got {C C1 : List (List EV)} {T : List ByteArray} {t : Nat} (h : ∃ X, C1 = C ++ X) (hT : T = (C.map encAll).take t) : (C.take T.length).flatten = (C1.take T.length).flatten := by
  obtain ⟨X, rfl⟩ := h
  have : T.length ≤ C.length := by rw [hT, List.length_take, List.length_map]; omega
  rw [List.take_append_of_le_length this]

def K2 : List Nat := [1, 2, 7, 8, 9, 11]
/-- What holds at the head of a round. -/
structure Rel2 (W : World) (g mo me : Nat → Nat) (lg gg : Nat) (lv : Value) (i : Nat) (L : List EV) (a b : CS) (C : List (List EV)) (given many : Nat) (T : List ByteArray) (G : List EV) (gv : Value) (w : World) : Prop where
  inv : HInv i L a b C given many T G
  tw : TW W w g mo me lg gg lv gv (sOf a b) L G
  many : many ≤ 200 * i

set_option maxHeartbeats 16000000 in
theorem loop2 {Q : Exit → Act → World → Prop} (a0 : Act) (W w0 : World) (g mo me : Nat → Nat) (lg gg : Nat) (lv gv0 : Value) (L : List EV) (sz : Nat) (fl : Nat → Int) (n2 : Nat) (fa : Option Addr) (fcap : Nat)
    (hsz : a0.tmps.size = 254) (hdf : a0.defers = []) (h1 : a0.tmps.getD 1 undef = .int .i64 sz) (h2 : a0.tmps.getD 2 undef = .slice fa n2 fcap) (h7 : a0.tmps.getD 7 undef = .pointer (some ⟨lg, 0, none⟩)) (h8 : a0.tmps.getD 8 undef = .pointer (some ⟨gg, 0, none⟩)) (h9 : a0.tmps.getD 9 undef = .pointer (some ⟨g 0, 0, none⟩)) (h11 : a0.tmps.getD 11 undef = .pointer (some ⟨g 1, 0, none⟩)) (h14 : a0.tmps.getD 14 undef = .int .i64 0) (h15 : a0.tmps.getD 15 undef = .int .i64 0) (h105 : a0.tmps.getD 105 undef = .int .i64 0)
    (hL : L.length ≤ 30) (hok : LogOk L) (hL3 : ∀ x ∈ L, x.data.size ≤ 300) (hsz1 : sz ≤ 1000) (hn2 : n2 ≤ 140737488355328) (hfc : n2 ≤ fcap) (hfl : ∀ k, k < n2 → ∃ b off, fa = some ⟨b, off, none⟩ ∧ W.cell? ⟨b, off + k, none⟩ = some (.int .i64 (fl k)) ∧ (Lit.int .i64 (fl k)).wf = true)
    (hT : TW W w0 g mo me lg gg lv gv0 (sOf (end0 4) (end0 1)) L [])
    (hret : ∀ a' w', a'.tmps.getD 6 undef = .bool true → a'.defers = [] → Only (fun _ => False) W w' → Q .ret a' w') :
    (Code.loop (lawBody 1)).wp Try.prog Q a0 w0 := by
  refine wp_loop (fun a' w => a'.tmps.size = 254 ∧ a'.defers = [] ∧ AllEq K2 a0 a' ∧ ∃ (i : Nat) (a b : CS) (C : List (List EV)) (given many : Nat) (T : List ByteArray) (G : List EV) (gv : Value), a'.tmps.getD 105 undef = .int .i64 i ∧ a'.tmps.getD 14 undef = .int .i64 given ∧ a'.tmps.getD 15 undef = .int .i64 many ∧ i ≤ 400 ∧ Rel2 W g mo me lg gg lv i L a b C given many T G gv w) (fun a' _ => 400 - (intOf (a'.tmps.getD 105 undef)).toNat) ⟨hsz, hdf, .refl _ _, 0, end0 4, end0 1, [], 0, 0, [], [], gv0, h105, h14, h15, by omega, ⟨HInv.start L, hT, by omega⟩⟩ ?_
  rintro ⟨tm, df⟩ wr ⟨hsz, hdf', hK, i, a, b, C, given, many, T, G, gv, q105, q14, q15, hi, hR⟩
  replace hdf' : df = [] := hdf'
  subst hdf'
  have HR := Lib.hid hR
  have HE := Lib.hid hret
  have HOK := Lib.hid hok
  have HL3 := Lib.hid hL3
  have HFL := Lib.hid hfl
  clear hR hret hok hL3 hfl hT hdf
  simp only at hsz q105 q14 q15
  have q1 : tm.getD 1 undef = .int .i64 sz := (AllEq.get hK 1 (by decide)).trans h1
  have q2 : tm.getD 2 undef = .slice fa n2 fcap := (AllEq.get hK 2 (by decide)).trans h2
  have q7 : tm.getD 7 undef = .pointer (some ⟨lg, 0, none⟩) := (AllEq.get hK 7 (by decide)).trans h7
  have q8 : tm.getD 8 undef = .pointer (some ⟨gg, 0, none⟩) := (AllEq.get hK 8 (by decide)).trans h8
  have q9 : tm.getD 9 undef = .pointer (some ⟨g 0, 0, none⟩) := (AllEq.get hK 9 (by decide)).trans h9
  have q11 : tm.getD 11 undef = .pointer (some ⟨g 1, 0, none⟩) := (AllEq.get hK 11 (by decide)).trans h11
  have he : tm = #[tm.getD 0 undef, tm.getD 1 undef, tm.getD 2 undef, tm.getD 3 undef, tm.getD 4 undef, tm.getD 5 undef, tm.getD 6 undef, tm.getD 7 undef, tm.getD 8 undef, tm.getD 9 undef, tm.getD 10 undef, tm.getD 11 undef, tm.getD 12 undef, tm.getD 13 undef, tm.getD 14 undef, tm.getD 15 undef, tm.getD 16 undef, tm.getD 17 undef, tm.getD 18 undef, tm.getD 19 undef, tm.getD 20 undef, tm.getD 21 undef, tm.getD 22 undef, tm.getD 23 undef, tm.getD 24 undef, tm.getD 25 undef, tm.getD 26 undef, tm.getD 27 undef, tm.getD 28 undef, tm.getD 29 undef, tm.getD 30 undef, tm.getD 31 undef, tm.getD 32 undef, tm.getD 33 undef, tm.getD 34 undef, tm.getD 35 undef, tm.getD 36 undef, tm.getD 37 undef, tm.getD 38 undef, tm.getD 39 undef, tm.getD 40 undef, tm.getD 41 undef, tm.getD 42 undef, tm.getD 43 undef, tm.getD 44 undef, tm.getD 45 undef, tm.getD 46 undef, tm.getD 47 undef, tm.getD 48 undef, tm.getD 49 undef, tm.getD 50 undef, tm.getD 51 undef, tm.getD 52 undef, tm.getD 53 undef, tm.getD 54 undef, tm.getD 55 undef, tm.getD 56 undef, tm.getD 57 undef, tm.getD 58 undef, tm.getD 59 undef, tm.getD 60 undef, tm.getD 61 undef, tm.getD 62 undef, tm.getD 63 undef, tm.getD 64 undef, tm.getD 65 undef, tm.getD 66 undef, tm.getD 67 undef, tm.getD 68 undef, tm.getD 69 undef, tm.getD 70 undef, tm.getD 71 undef, tm.getD 72 undef, tm.getD 73 undef, tm.getD 74 undef, tm.getD 75 undef, tm.getD 76 undef, tm.getD 77 undef, tm.getD 78 undef, tm.getD 79 undef, tm.getD 80 undef, tm.getD 81 undef, tm.getD 82 undef, tm.getD 83 undef, tm.getD 84 undef, tm.getD 85 undef, tm.getD 86 undef, tm.getD 87 undef, tm.getD 88 undef, tm.getD 89 undef, tm.getD 90 undef, tm.getD 91 undef, tm.getD 92 undef, tm.getD 93 undef, tm.getD 94 undef, tm.getD 95 undef, tm.getD 96 undef, tm.getD 97 undef, tm.getD 98 undef, tm.getD 99 undef, tm.getD 100 undef, tm.getD 101 undef, tm.getD 102 undef, tm.getD 103 undef, tm.getD 104 undef, tm.getD 105 undef, tm.getD 106 undef, tm.getD 107 undef, tm.getD 108 undef, tm.getD 109 undef, tm.getD 110 undef, tm.getD 111 undef, tm.getD 112 undef, tm.getD 113 undef, tm.getD 114 undef, tm.getD 115 undef, tm.getD 116 undef, tm.getD 117 undef, tm.getD 118 undef, tm.getD 119 undef, tm.getD 120 undef, tm.getD 121 undef, tm.getD 122 undef, tm.getD 123 undef, tm.getD 124 undef, tm.getD 125 undef, tm.getD 126 undef, tm.getD 127 undef, tm.getD 128 undef, tm.getD 129 undef, tm.getD 130 undef, tm.getD 131 undef, tm.getD 132 undef, tm.getD 133 undef, tm.getD 134 undef, tm.getD 135 undef, tm.getD 136 undef, tm.getD 137 undef, tm.getD 138 undef, tm.getD 139 undef, tm.getD 140 undef, tm.getD 141 undef, tm.getD 142 undef, tm.getD 143 undef, tm.getD 144 undef, tm.getD 145 undef, tm.getD 146 undef, tm.getD 147 undef, tm.getD 148 undef, tm.getD 149 undef, tm.getD 150 undef, tm.getD 151 undef, tm.getD 152 undef, tm.getD 153 undef, tm.getD 154 undef, tm.getD 155 undef, tm.getD 156 undef, tm.getD 157 undef, tm.getD 158 undef, tm.getD 159 undef, tm.getD 160 undef, tm.getD 161 undef, tm.getD 162 undef, tm.getD 163 undef, tm.getD 164 undef, tm.getD 165 undef, tm.getD 166 undef, tm.getD 167 undef, tm.getD 168 undef, tm.getD 169 undef, tm.getD 170 undef, tm.getD 171 undef, tm.getD 172 undef, tm.getD 173 undef, tm.getD 174 undef, tm.getD 175 undef, tm.getD 176 undef, tm.getD 177 undef, tm.getD 178 undef, tm.getD 179 undef, tm.getD 180 undef, tm.getD 181 undef, tm.getD 182 undef, tm.getD 183 undef, tm.getD 184 undef, tm.getD 185 undef, tm.getD 186 undef, tm.getD 187 undef, tm.getD 188 undef, tm.getD 189 undef, tm.getD 190 undef, tm.getD 191 undef, tm.getD 192 undef, tm.getD 193 undef, tm.getD 194 undef, tm.getD 195 undef, tm.getD 196 undef, tm.getD 197 undef, tm.getD 198 undef, tm.getD 199 undef, tm.getD 200 undef, tm.getD 201 undef, tm.getD 202 undef, tm.getD 203 undef, tm.getD 204 undef, tm.getD 205 undef, tm.getD 206 undef, tm.getD 207 undef, tm.getD 208 undef, tm.getD 209 undef, tm.getD 210 undef, tm.getD 211 undef, tm.getD 212 undef, tm.getD 213 undef, tm.getD 214 undef, tm.getD 215 undef, tm.getD 216 undef, tm.getD 217 undef, tm.getD 218 undef, tm.getD 219 undef, tm.getD 220 undef, tm.getD 221 undef, tm.getD 222 undef, tm.getD 223 undef, tm.getD 224 undef, tm.getD 225 undef, tm.getD 226 undef, tm.getD 227 undef, tm.getD 228 undef, tm.getD 229 undef, tm.getD 230 undef, tm.getD 231 undef, tm.getD 232 undef, tm.getD 233 undef, tm.getD 234 undef, tm.getD 235 undef, tm.getD 236 undef, tm.getD 237 undef, tm.getD 238 undef, tm.getD 239 undef, tm.getD 240 undef, tm.getD 241 undef, tm.getD 242 undef, tm.getD 243 undef, tm.getD 244 undef, tm.getD 245 undef, tm.getD 246 undef, tm.getD 247 undef, tm.getD 248 undef, tm.getD 249 undef, tm.getD 250 undef, tm.getD 251 undef, tm.getD 252 undef, tm.getD 253 undef] := arr_eta (n := 254) hsz
  rw [he, q1, q2, q7, q8, q9, q11, q14, q15, q105]
  clear he hK hsz q1 q2 q7 q8 q9 q11 q14 q15 q105
  generalize tm.getD 0 undef = x0
  generalize tm.getD 3 undef = x3
  generalize tm.getD 4 undef = x4
  generalize tm.getD 5 undef = x5
  generalize tm.getD 6 undef = x6
  generalize tm.getD 10 undef = x10
  generalize tm.getD 12 undef = x12
  generalize tm.getD 13 undef = x13
  generalize tm.getD 16 undef = x16
  generalize tm.getD 17 undef = x17
  generalize tm.getD 18 undef = x18
  generalize tm.getD 19 undef = x19
  generalize tm.getD 20 undef = x20
  generalize tm.getD 21 undef = x21
  generalize tm.getD 22 undef = x22
  generalize tm.getD 23 undef = x23
  generalize tm.getD 24 undef = x24
  generalize tm.getD 25 undef = x25
  generalize tm.getD 26 undef = x26
  generalize tm.getD 27 undef = x27
  generalize tm.getD 28 undef = x28
  generalize tm.getD 29 undef = x29
  generalize tm.getD 30 undef = x30
  generalize tm.getD 31 undef = x31
  generalize tm.getD 32 undef = x32
  generalize tm.getD 33 undef = x33
  generalize tm.getD 34 undef = x34
  generalize tm.getD 35 undef = x35
  generalize tm.getD 36 undef = x36
  generalize tm.getD 37 undef = x37
  generalize tm.getD 38 undef = x38
  generalize tm.getD 39 undef = x39
  generalize tm.getD 40 undef = x40
  generalize tm.getD 41 undef = x41
  generalize tm.getD 42 undef = x42
  generalize tm.getD 43 undef = x43
  generalize tm.getD 44 undef = x44
  generalize tm.getD 45 undef = x45
  generalize tm.getD 46 undef = x46
  generalize tm.getD 47 undef = x47
  generalize tm.getD 48 undef = x48
  generalize tm.getD 49 undef = x49
  generalize tm.getD 50 undef = x50
  generalize tm.getD 51 undef = x51
  generalize tm.getD 52 undef = x52
  generalize tm.getD 53 undef = x53
  generalize tm.getD 54 undef = x54
  generalize tm.getD 55 undef = x55
  generalize tm.getD 56 undef = x56
  generalize tm.getD 57 undef = x57
  generalize tm.getD 58 undef = x58
  generalize tm.getD 59 undef = x59
  generalize tm.getD 60 undef = x60
  generalize tm.getD 61 undef = x61
  generalize tm.getD 62 undef = x62
  generalize tm.getD 63 undef = x63
  generalize tm.getD 64 undef = x64
  generalize tm.getD 65 undef = x65
  generalize tm.getD 66 undef = x66
  generalize tm.getD 67 undef = x67
  generalize tm.getD 68 undef = x68
  generalize tm.getD 69 undef = x69
  generalize tm.getD 70 undef = x70
  generalize tm.getD 71 undef = x71
  generalize tm.getD 72 undef = x72
  generalize tm.getD 73 undef = x73
  generalize tm.getD 74 undef = x74
  generalize tm.getD 75 undef = x75
  generalize tm.getD 76 undef = x76
  generalize tm.getD 77 undef = x77
  generalize tm.getD 78 undef = x78
  generalize tm.getD 79 undef = x79
  generalize tm.getD 80 undef = x80
  generalize tm.getD 81 undef = x81
  generalize tm.getD 82 undef = x82
  generalize tm.getD 83 undef = x83
  generalize tm.getD 84 undef = x84
  generalize tm.getD 85 undef = x85
  generalize tm.getD 86 undef = x86
  generalize tm.getD 87 undef = x87
  generalize tm.getD 88 undef = x88
  generalize tm.getD 89 undef = x89
  generalize tm.getD 90 undef = x90
  generalize tm.getD 91 undef = x91
  generalize tm.getD 92 undef = x92
  generalize tm.getD 93 undef = x93
  generalize tm.getD 94 undef = x94
  generalize tm.getD 95 undef = x95
  generalize tm.getD 96 undef = x96
  generalize tm.getD 97 undef = x97
  generalize tm.getD 98 undef = x98
  generalize tm.getD 99 undef = x99
  generalize tm.getD 100 undef = x100
  generalize tm.getD 101 undef = x101
  generalize tm.getD 102 undef = x102
  generalize tm.getD 103 undef = x103
  generalize tm.getD 104 undef = x104
  generalize tm.getD 106 undef = x106
  generalize tm.getD 107 undef = x107
  generalize tm.getD 108 undef = x108
  generalize tm.getD 109 undef = x109
  generalize tm.getD 110 undef = x110
  generalize tm.getD 111 undef = x111
  generalize tm.getD 112 undef = x112
  generalize tm.getD 113 undef = x113
  generalize tm.getD 114 undef = x114
  generalize tm.getD 115 undef = x115
  generalize tm.getD 116 undef = x116
  generalize tm.getD 117 undef = x117
  generalize tm.getD 118 undef = x118
  generalize tm.getD 119 undef = x119
  generalize tm.getD 120 undef = x120
  generalize tm.getD 121 undef = x121
  generalize tm.getD 122 undef = x122
  generalize tm.getD 123 undef = x123
  generalize tm.getD 124 undef = x124
  generalize tm.getD 125 undef = x125
  generalize tm.getD 126 undef = x126
  generalize tm.getD 127 undef = x127
  generalize tm.getD 128 undef = x128
  generalize tm.getD 129 undef = x129
  generalize tm.getD 130 undef = x130
  generalize tm.getD 131 undef = x131
  generalize tm.getD 132 undef = x132
  generalize tm.getD 133 undef = x133
  generalize tm.getD 134 undef = x134
  generalize tm.getD 135 undef = x135
  generalize tm.getD 136 undef = x136
  generalize tm.getD 137 undef = x137
  generalize tm.getD 138 undef = x138
  generalize tm.getD 139 undef = x139
  generalize tm.getD 140 undef = x140
  generalize tm.getD 141 undef = x141
  generalize tm.getD 142 undef = x142
  generalize tm.getD 143 undef = x143
  generalize tm.getD 144 undef = x144
  generalize tm.getD 145 undef = x145
  generalize tm.getD 146 undef = x146
  generalize tm.getD 147 undef = x147
  generalize tm.getD 148 undef = x148
  generalize tm.getD 149 undef = x149
  generalize tm.getD 150 undef = x150
  generalize tm.getD 151 undef = x151
  generalize tm.getD 152 undef = x152
  generalize tm.getD 153 undef = x153
  generalize tm.getD 154 undef = x154
  generalize tm.getD 155 undef = x155
  generalize tm.getD 156 undef = x156
  generalize tm.getD 157 undef = x157
  generalize tm.getD 158 undef = x158
  generalize tm.getD 159 undef = x159
  generalize tm.getD 160 undef = x160
  generalize tm.getD 161 undef = x161
  generalize tm.getD 162 undef = x162
  generalize tm.getD 163 undef = x163
  generalize tm.getD 164 undef = x164
  generalize tm.getD 165 undef = x165
  generalize tm.getD 166 undef = x166
  generalize tm.getD 167 undef = x167
  generalize tm.getD 168 undef = x168
  generalize tm.getD 169 undef = x169
  generalize tm.getD 170 undef = x170
  generalize tm.getD 171 undef = x171
  generalize tm.getD 172 undef = x172
  generalize tm.getD 173 undef = x173
  generalize tm.getD 174 undef = x174
  generalize tm.getD 175 undef = x175
  generalize tm.getD 176 undef = x176
  generalize tm.getD 177 undef = x177
  generalize tm.getD 178 undef = x178
  generalize tm.getD 179 undef = x179
  generalize tm.getD 180 undef = x180
  generalize tm.getD 181 undef = x181
  generalize tm.getD 182 undef = x182
  generalize tm.getD 183 undef = x183
  generalize tm.getD 184 undef = x184
  generalize tm.getD 185 undef = x185
  generalize tm.getD 186 undef = x186
  generalize tm.getD 187 undef = x187
  generalize tm.getD 188 undef = x188
  generalize tm.getD 189 undef = x189
  generalize tm.getD 190 undef = x190
  generalize tm.getD 191 undef = x191
  generalize tm.getD 192 undef = x192
  generalize tm.getD 193 undef = x193
  generalize tm.getD 194 undef = x194
  generalize tm.getD 195 undef = x195
  generalize tm.getD 196 undef = x196
  generalize tm.getD 197 undef = x197
  generalize tm.getD 198 undef = x198
  generalize tm.getD 199 undef = x199
  generalize tm.getD 200 undef = x200
  generalize tm.getD 201 undef = x201
  generalize tm.getD 202 undef = x202
  generalize tm.getD 203 undef = x203
  generalize tm.getD 204 undef = x204
  generalize tm.getD 205 undef = x205
  generalize tm.getD 206 undef = x206
  generalize tm.getD 207 undef = x207
  generalize tm.getD 208 undef = x208
  generalize tm.getD 209 undef = x209
  generalize tm.getD 210 undef = x210
  generalize tm.getD 211 undef = x211
  generalize tm.getD 212 undef = x212
  generalize tm.getD 213 undef = x213
  generalize tm.getD 214 undef = x214
  generalize tm.getD 215 undef = x215
  generalize tm.getD 216 undef = x216
  generalize tm.getD 217 undef = x217
  generalize tm.getD 218 undef = x218
  generalize tm.getD 219 undef = x219
  generalize tm.getD 220 undef = x220
  generalize tm.getD 221 undef = x221
  generalize tm.getD 222 undef = x222
  generalize tm.getD 223 undef = x223
  generalize tm.getD 224 undef = x224
  generalize tm.getD 225 undef = x225
  generalize tm.getD 226 undef = x226
  generalize tm.getD 227 undef = x227
  generalize tm.getD 228 undef = x228
  generalize tm.getD 229 undef = x229
  generalize tm.getD 230 undef = x230
  generalize tm.getD 231 undef = x231
  generalize tm.getD 232 undef = x232
  generalize tm.getD 233 undef = x233
  generalize tm.getD 234 undef = x234
  generalize tm.getD 235 undef = x235
  generalize tm.getD 236 undef = x236
  generalize tm.getD 237 undef = x237
  generalize tm.getD 238 undef = x238
  generalize tm.getD 239 undef = x239
  generalize tm.getD 240 undef = x240
  generalize tm.getD 241 undef = x241
  generalize tm.getD 242 undef = x242
  generalize tm.getD 243 undef = x243
  generalize tm.getD 244 undef = x244
  generalize tm.getD 245 undef = x245
  generalize tm.getD 246 undef = x246
  generalize tm.getD 247 undef = x247
  generalize tm.getD 248 undef = x248
  generalize tm.getD 249 undef = x249
  generalize tm.getD 250 undef = x250
  generalize tm.getD 251 undef = x251
  generalize tm.getD 252 undef = x252
  generalize tm.getD 253 undef = x253
  clear h14 h15 h105
  unfold lawBody
  conv => arg 2; whnf
  have hgle := HR.out.inv.chunks.le
  have hmany := HR.out.many
  by_cases hlt : i < 400
  · have hd : decide ((i : Int) < 400) = true := decide_eq_true (by omega)
    go_wp2_with fail
    refine loop3 _ W wr g mo me lg gg lv gv i L a b C given T G sz rfl rfl rfl rfl rfl rfl rfl rfl rfl hL HOK.out HL3.out hsz1 HR.out.inv.sends HR.out.tw ?_
    rintro ⟨tm, df⟩ w3 a1 C1 given1 M tv hsz' hdf' hK' q14 q17 hR3 hex
    have HR3 := Lib.hid hR3
    have HEX := Lib.hid hex
    have HINV := Lib.hid HR.out.inv
    clear hR3 hex HR
    simp only at hsz' q14 q17
    replace hdf' : df = [] := hdf'
    subst hdf'
    have q1 : tm.getD 1 undef = .int .i64 sz := AllEq.get hK' 1 (by decide)
    have q2 : tm.getD 2 undef = .slice fa n2 fcap := AllEq.get hK' 2 (by decide)
    have q7 : tm.getD 7 undef = .pointer (some ⟨lg, 0, none⟩) := AllEq.get hK' 7 (by decide)
    have q8 : tm.getD 8 undef = .pointer (some ⟨gg, 0, none⟩) := AllEq.get hK' 8 (by decide)
    have q9 : tm.getD 9 undef = .pointer (some ⟨g 0, 0, none⟩) := AllEq.get hK' 9 (by decide)
    have q11 : tm.getD 11 undef = .pointer (some ⟨g 1, 0, none⟩) := AllEq.get hK' 11 (by decide)
    have q15 : tm.getD 15 undef = .int .i64 many := AllEq.get hK' 15 (by decide)
    have q16 : tm.getD 16 undef = .int .i64 i := AllEq.get hK' 16 (by decide)
    have q18 : tm.getD 18 undef = .slice none 0 0 := AllEq.get hK' 18 (by decide)
    have q105 : tm.getD 105 undef = .int .i64 i := AllEq.get hK' 105 (by decide)
    replace q14 : tm.getD 14 undef = .int .i64 given1 := q14
    replace q17 : tm.getD 17 undef = tv := q17
    have he : tm = #[tm.getD 0 undef, tm.getD 1 undef, tm.getD 2 undef, tm.getD 3 undef, tm.getD 4 undef, tm.getD 5 undef, tm.getD 6 undef, tm.getD 7 undef, tm.getD 8 undef, tm.getD 9 undef, tm.getD 10 undef, tm.getD 11 undef, tm.getD 12 undef, tm.getD 13 undef, tm.getD 14 undef, tm.getD 15 undef, tm.getD 16 undef, tm.getD 17 undef, tm.getD 18 undef, tm.getD 19 undef, tm.getD 20 undef, tm.getD 21 undef, tm.getD 22 undef, tm.getD 23 undef, tm.getD 24 undef, tm.getD 25 undef, tm.getD 26 undef, tm.getD 27 undef, tm.getD 28 undef, tm.getD 29 undef, tm.getD 30 undef, tm.getD 31 undef, tm.getD 32 undef, tm.getD 33 undef, tm.getD 34 undef, tm.getD 35 undef, tm.getD 36 undef, tm.getD 37 undef, tm.getD 38 undef, tm.getD 39 undef, tm.getD 40 undef, tm.getD 41 undef, tm.getD 42 undef, tm.getD 43 undef, tm.getD 44 undef, tm.getD 45 undef, tm.getD 46 undef, tm.getD 47 undef, tm.getD 48 undef, tm.getD 49 undef, tm.getD 50 undef, tm.getD 51 undef, tm.getD 52 undef, tm.getD 53 undef, tm.getD 54 undef, tm.getD 55 undef, tm.getD 56 undef, tm.getD 57 undef, tm.getD 58 undef, tm.getD 59 undef, tm.getD 60 undef, tm.getD 61 undef, tm.getD 62 undef, tm.getD 63 undef, tm.getD 64 undef, tm.getD 65 undef, tm.getD 66 undef, tm.getD 67 undef, tm.getD 68 undef, tm.getD 69 undef, tm.getD 70 undef, tm.getD 71 undef, tm.getD 72 undef, tm.getD 73 undef, tm.getD 74 undef, tm.getD 75 undef, tm.getD 76 undef, tm.getD 77 undef, tm.getD 78 undef, tm.getD 79 undef, tm.getD 80 undef, tm.getD 81 undef, tm.getD 82 undef, tm.getD 83 undef, tm.getD 84 undef, tm.getD 85 undef, tm.getD 86 undef, tm.getD 87 undef, tm.getD 88 undef, tm.getD 89 undef, tm.getD 90 undef, tm.getD 91 undef, tm.getD 92 undef, tm.getD 93 undef, tm.getD 94 undef, tm.getD 95 undef, tm.getD 96 undef, tm.getD 97 undef, tm.getD 98 undef, tm.getD 99 undef, tm.getD 100 undef, tm.getD 101 undef, tm.getD 102 undef, tm.getD 103 undef, tm.getD 104 undef, tm.getD 105 undef, tm.getD 106 undef, tm.getD 107 undef, tm.getD 108 undef, tm.getD 109 undef, tm.getD 110 undef, tm.getD 111 undef, tm.getD 112 undef, tm.getD 113 undef, tm.getD 114 undef, tm.getD 115 undef, tm.getD 116 undef, tm.getD 117 undef, tm.getD 118 undef, tm.getD 119 undef, tm.getD 120 undef, tm.getD 121 undef, tm.getD 122 undef, tm.getD 123 undef, tm.getD 124 undef, tm.getD 125 undef, tm.getD 126 undef, tm.getD 127 undef, tm.getD 128 undef, tm.getD 129 undef, tm.getD 130 undef, tm.getD 131 undef, tm.getD 132 undef, tm.getD 133 undef, tm.getD 134 undef, tm.getD 135 undef, tm.getD 136 undef, tm.getD 137 undef, tm.getD 138 undef, tm.getD 139 undef, tm.getD 140 undef, tm.getD 141 undef, tm.getD 142 undef, tm.getD 143 undef, tm.getD 144 undef, tm.getD 145 undef, tm.getD 146 undef, tm.getD 147 undef, tm.getD 148 undef, tm.getD 149 undef, tm.getD 150 undef, tm.getD 151 undef, tm.getD 152 undef, tm.getD 153 undef, tm.getD 154 undef, tm.getD 155 undef, tm.getD 156 undef, tm.getD 157 undef, tm.getD 158 undef, tm.getD 159 undef, tm.getD 160 undef, tm.getD 161 undef, tm.getD 162 undef, tm.getD 163 undef, tm.getD 164 undef, tm.getD 165 undef, tm.getD 166 undef, tm.getD 167 undef, tm.getD 168 undef, tm.getD 169 undef, tm.getD 170 undef, tm.getD 171 undef, tm.getD 172 undef, tm.getD 173 undef, tm.getD 174 undef, tm.getD 175 undef, tm.getD 176 undef, tm.getD 177 undef, tm.getD 178 undef, tm.getD 179 undef, tm.getD 180 undef, tm.getD 181 undef, tm.getD 182 undef, tm.getD 183 undef, tm.getD 184 undef, tm.getD 185 undef, tm.getD 186 undef, tm.getD 187 undef, tm.getD 188 undef, tm.getD 189 undef, tm.getD 190 undef, tm.getD 191 undef, tm.getD 192 undef, tm.getD 193 undef, tm.getD 194 undef, tm.getD 195 undef, tm.getD 196 undef, tm.getD 197 undef, tm.getD 198 undef, tm.getD 199 undef, tm.getD 200 undef, tm.getD 201 undef, tm.getD 202 undef, tm.getD 203 undef, tm.getD 204 undef, tm.getD 205 undef, tm.getD 206 undef, tm.getD 207 undef, tm.getD 208 undef, tm.getD 209 undef, tm.getD 210 undef, tm.getD 211 undef, tm.getD 212 undef, tm.getD 213 undef, tm.getD 214 undef, tm.getD 215 undef, tm.getD 216 undef, tm.getD 217 undef, tm.getD 218 undef, tm.getD 219 undef, tm.getD 220 undef, tm.getD 221 undef, tm.getD 222 undef, tm.getD 223 undef, tm.getD 224 undef, tm.getD 225 undef, tm.getD 226 undef, tm.getD 227 undef, tm.getD 228 undef, tm.getD 229 undef, tm.getD 230 undef, tm.getD 231 undef, tm.getD 232 undef, tm.getD 233 undef, tm.getD 234 undef, tm.getD 235 undef, tm.getD 236 undef, tm.getD 237 undef, tm.getD 238 undef, tm.getD 239 undef, tm.getD 240 undef, tm.getD 241 undef, tm.getD 242 undef, tm.getD 243 undef, tm.getD 244 undef, tm.getD 245 undef, tm.getD 246 undef, tm.getD 247 undef, tm.getD 248 undef, tm.getD 249 undef, tm.getD 250 undef, tm.getD 251 undef, tm.getD 252 undef, tm.getD 253 undef] := arr_eta (n := 254) hsz'
    rw [he, q1, q2, q7, q8, q9, q11, q15, q16, q18, q105, q14, q17]
    clear he hK' hsz' q1 q2 q7 q8 q9 q11 q15 q16 q18 q105 q14 q17
    generalize tm.getD 0 undef = y0
    generalize tm.getD 3 undef = y3
    generalize tm.getD 4 undef = y4
    generalize tm.getD 5 undef = y5
    generalize tm.getD 6 undef = y6
    generalize tm.getD 10 undef = y10
    generalize tm.getD 12 undef = y12
    generalize tm.getD 13 undef = y13
    generalize tm.getD 19 undef = y19
    generalize tm.getD 20 undef = y20
    generalize tm.getD 21 undef = y21
    generalize tm.getD 22 undef = y22
    generalize tm.getD 23 undef = y23
    generalize tm.getD 24 undef = y24
    generalize tm.getD 25 undef = y25
    generalize tm.getD 26 undef = y26
    generalize tm.getD 27 undef = y27
    generalize tm.getD 28 undef = y28
    generalize tm.getD 29 undef = y29
    generalize tm.getD 30 undef = y30
    generalize tm.getD 31 undef = y31
    generalize tm.getD 32 undef = y32
    generalize tm.getD 33 undef = y33
    generalize tm.getD 34 undef = y34
    generalize tm.getD 35 undef = y35
    generalize tm.getD 36 undef = y36
    generalize tm.getD 37 undef = y37
    generalize tm.getD 38 undef = y38
    generalize tm.getD 39 undef = y39
    generalize tm.getD 40 undef = y40
    generalize tm.getD 41 undef = y41
    generalize tm.getD 42 undef = y42
    generalize tm.getD 43 undef = y43
    generalize tm.getD 44 undef = y44
    generalize tm.getD 45 undef = y45
    generalize tm.getD 46 undef = y46
    generalize tm.getD 47 undef = y47
    generalize tm.getD 48 undef = y48
    generalize tm.getD 49 undef = y49
    generalize tm.getD 50 undef = y50
    generalize tm.getD 51 undef = y51
    generalize tm.getD 52 undef = y52
    generalize tm.getD 53 undef = y53
    generalize tm.getD 54 undef = y54
    generalize tm.getD 55 undef = y55
    generalize tm.getD 56 undef = y56
    generalize tm.getD 57 undef = y57
    generalize tm.getD 58 undef = y58
    generalize tm.getD 59 undef = y59
    generalize tm.getD 60 undef = y60
    generalize tm.getD 61 undef = y61
    generalize tm.getD 62 undef = y62
    generalize tm.getD 63 undef = y63
    generalize tm.getD 64 undef = y64
    generalize tm.getD 65 undef = y65
    generalize tm.getD 66 undef = y66
    generalize tm.getD 67 undef = y67
    generalize tm.getD 68 undef = y68
    generalize tm.getD 69 undef = y69
    generalize tm.getD 70 undef = y70
    generalize tm.getD 71 undef = y71
    generalize tm.getD 72 undef = y72
    generalize tm.getD 73 undef = y73
    generalize tm.getD 74 undef = y74
    generalize tm.getD 75 undef = y75
    generalize tm.getD 76 undef = y76
    generalize tm.getD 77 undef = y77
    generalize tm.getD 78 undef = y78
    generalize tm.getD 79 undef = y79
    generalize tm.getD 80 undef = y80
    generalize tm.getD 81 undef = y81
    generalize tm.getD 82 undef = y82
    generalize tm.getD 83 undef = y83
    generalize tm.getD 84 undef = y84
    generalize tm.getD 85 undef = y85
    generalize tm.getD 86 undef = y86
    generalize tm.getD 87 undef = y87
    generalize tm.getD 88 undef = y88
    generalize tm.getD 89 undef = y89
    generalize tm.getD 90 undef = y90
    generalize tm.getD 91 undef = y91
    generalize tm.getD 92 undef = y92
    generalize tm.getD 93 undef = y93
    generalize tm.getD 94 undef = y94
    generalize tm.getD 95 undef = y95
    generalize tm.getD 96 undef = y96
    generalize tm.getD 97 undef = y97
    generalize tm.getD 98 undef = y98
    generalize tm.getD 99 undef = y99
    generalize tm.getD 100 undef = y100
    generalize tm.getD 101 undef = y101
    generalize tm.getD 102 undef = y102
    generalize tm.getD 103 undef = y103
    generalize tm.getD 104 undef = y104
    generalize tm.getD 106 undef = y106
    generalize tm.getD 107 undef = y107
    generalize tm.getD 108 undef = y108
    generalize tm.getD 109 undef = y109
    generalize tm.getD 110 undef = y110
    generalize tm.getD 111 undef = y111
    generalize tm.getD 112 undef = y112
    generalize tm.getD 113 undef = y113
    generalize tm.getD 114 undef = y114
    generalize tm.getD 115 undef = y115
    generalize tm.getD 116 undef = y116
    generalize tm.getD 117 undef = y117
    generalize tm.getD 118 undef = y118
    generalize tm.getD 119 undef = y119
    generalize tm.getD 120 undef = y120
    generalize tm.getD 121 undef = y121
    generalize tm.getD 122 undef = y122
    generalize tm.getD 123 undef = y123
    generalize tm.getD 124 undef = y124
    generalize tm.getD 125 undef = y125
    generalize tm.getD 126 undef = y126
    generalize tm.getD 127 undef = y127
    generalize tm.getD 128 undef = y128
    generalize tm.getD 129 undef = y129
    generalize tm.getD 130 undef = y130
    generalize tm.getD 131 undef = y131
    generalize tm.getD 132 undef = y132
    generalize tm.getD 133 undef = y133
    generalize tm.getD 134 undef = y134
    generalize tm.getD 135 undef = y135
    generalize tm.getD 136 undef = y136
    generalize tm.getD 137 undef = y137
    generalize tm.getD 138 undef = y138
    generalize tm.getD 139 undef = y139
    generalize tm.getD 140 undef = y140
    generalize tm.getD 141 undef = y141
    generalize tm.getD 142 undef = y142
    generalize tm.getD 143 undef = y143
    generalize tm.getD 144 undef = y144
    generalize tm.getD 145 undef = y145
    generalize tm.getD 146 undef = y146
    generalize tm.getD 147 undef = y147
    generalize tm.getD 148 undef = y148
    generalize tm.getD 149 undef = y149
    generalize tm.getD 150 undef = y150
    generalize tm.getD 151 undef = y151
    generalize tm.getD 152 undef = y152
    generalize tm.getD 153 undef = y153
    generalize tm.getD 154 undef = y154
    generalize tm.getD 155 undef = y155
    generalize tm.getD 156 undef = y156
    generalize tm.getD 157 undef = y157
    generalize tm.getD 158 undef = y158
    generalize tm.getD 159 undef = y159
    generalize tm.getD 160 undef = y160
    generalize tm.getD 161 undef = y161
    generalize tm.getD 162 undef = y162
    generalize tm.getD 163 undef = y163
    generalize tm.getD 164 undef = y164
    generalize tm.getD 165 undef = y165
    generalize tm.getD 166 undef = y166
    generalize tm.getD 167 undef = y167
    generalize tm.getD 168 undef = y168
    generalize tm.getD 169 undef = y169
    generalize tm.getD 170 undef = y170
    generalize tm.getD 171 undef = y171
    generalize tm.getD 172 undef = y172
    generalize tm.getD 173 undef = y173
    generalize tm.getD 174 undef = y174
    generalize tm.getD 175 undef = y175
    generalize tm.getD 176 undef = y176
    generalize tm.getD 177 undef = y177
    generalize tm.getD 178 undef = y178
    generalize tm.getD 179 undef = y179
    generalize tm.getD 180 undef = y180
    generalize tm.getD 181 undef = y181
    generalize tm.getD 182 undef = y182
    generalize tm.getD 183 undef = y183
    generalize tm.getD 184 undef = y184
    generalize tm.getD 185 undef = y185
    generalize tm.getD 186 undef = y186
    generalize tm.getD 187 undef = y187
    generalize tm.getD 188 undef = y188
    generalize tm.getD 189 undef = y189
    generalize tm.getD 190 undef = y190
    generalize tm.getD 191 undef = y191
    generalize tm.getD 192 undef = y192
    generalize tm.getD 193 undef = y193
    generalize tm.getD 194 undef = y194
    generalize tm.getD 195 undef = y195
    generalize tm.getD 196 undef = y196
    generalize tm.getD 197 undef = y197
    generalize tm.getD 198 undef = y198
    generalize tm.getD 199 undef = y199
    generalize tm.getD 200 undef = y200
    generalize tm.getD 201 undef = y201
    generalize tm.getD 202 undef = y202
    generalize tm.getD 203 undef = y203
    generalize tm.getD 204 undef = y204
    generalize tm.getD 205 undef = y205
    generalize tm.getD 206 undef = y206
    generalize tm.getD 207 undef = y207
    generalize tm.getD 208 undef = y208
    generalize tm.getD 209 undef = y209
    generalize tm.getD 210 undef = y210
    generalize tm.getD 211 undef = y211
    generalize tm.getD 212 undef = y212
    generalize tm.getD 213 undef = y213
    generalize tm.getD 214 undef = y214
    generalize tm.getD 215 undef = y215
    generalize tm.getD 216 undef = y216
    generalize tm.getD 217 undef = y217
    generalize tm.getD 218 undef = y218
    generalize tm.getD 219 undef = y219
    generalize tm.getD 220 undef = y220
    generalize tm.getD 221 undef = y221
    generalize tm.getD 222 undef = y222
    generalize tm.getD 223 undef = y223
    generalize tm.getD 224 undef = y224
    generalize tm.getD 225 undef = y225
    generalize tm.getD 226 undef = y226
    generalize tm.getD 227 undef = y227
    generalize tm.getD 228 undef = y228
    generalize tm.getD 229 undef = y229
    generalize tm.getD 230 undef = y230
    generalize tm.getD 231 undef = y231
    generalize tm.getD 232 undef = y232
    generalize tm.getD 233 undef = y233
    generalize tm.getD 234 undef = y234
    generalize tm.getD 235 undef = y235
    generalize tm.getD 236 undef = y236
    generalize tm.getD 237 undef = y237
    generalize tm.getD 238 undef = y238
    generalize tm.getD 239 undef = y239
    generalize tm.getD 240 undef = y240
    generalize tm.getD 241 undef = y241
    generalize tm.getD 242 undef = y242
    generalize tm.getD 243 undef = y243
    generalize tm.getD 244 undef = y244
    generalize tm.getD 245 undef = y245
    generalize tm.getD 246 undef = y246
    generalize tm.getD 247 undef = y247
    generalize tm.getD 248 undef = y248
    generalize tm.getD 249 undef = y249
    generalize tm.getD 250 undef = y250
    generalize tm.getD 251 undef = y251
    generalize tm.getD 252 undef = y252
    generalize tm.getD 253 undef = y253
    go_wp2_with fail
    refine (tw_tick (j := 0) HR3.out.tw (by decide) HR3.out.inv.two.ea.p i).mono ?_
    rintro e w4 ⟨v0, rfl, hrow4, hT4, htx4⟩
    rw [sOf_put0] at hT4
    replace hT4 : TW W w4 g mo me lg gg lv gv (sOf (a1.ticks i) b) L G := hT4
    replace hrow4 : w4.ownsRow w3.heap.size 9 1 v0 (a1.outs i).length ((a1.outs i).map Value.string) := hrow4
    have htr4 := Texts.row HR3.out.row htx4
    have hML := HR3.out.inv.many
    have hg1L := HR3.out.inv.chunks.le
    have hoL := outs_length a1 i
    have hoL2 := HR3.out.inv.two.ea.p.ok.len
    obtain ⟨v1, w5, hrun, hrow5, hgr5, hob5⟩ := append_texts w4 43 W.heap.size tv v0 M (a1.outs i) htr4 (row_src hrow4) hT4.only.size (by omega)
    have hT5 := hT4.other (Only.of_grown hgr5) (fun k e => row_block htr4 e.symm) (fun k e => (htr4.lt k e.symm).1)
    have HRUN := Lib.hid hrun
    have HT5 := Lib.hid hT5
    have HROW5 := Lib.hid hrow5
    clear hrun hT5 hrow5 hgr5 hob5 htr4 hrow4 hT4 htx4
    go_wp2_with (at_builtin; refine wpList_append_ran rfl _ _ 43 rfl _ _ v1 w5 rfl rfl HRUN.out ?_)
    refine (tw_tick (j := 1) HT5.out (by decide) HINV.out.live.two.eb.p i).mono ?_
    rintro e w6 ⟨u0, rfl, hrow6, hT6, htx6⟩
    rw [sOf_put1] at hT6
    replace hT6 : TW W w6 g mo me lg gg lv gv (sOf (a1.ticks i) (b.ticks i)) L G := hT6
    replace hrow6 : w6.ownsRow w5.heap.size 9 1 u0 (b.outs i).length ((b.outs i).map Value.string) := hrow6
    have htr6 := Texts.row HROW5.out htx6
    have hboL := outs_length b i
    have hboL2 := HINV.out.live.two.eb.p.ok.len
    obtain ⟨u1, w7, hrun, hrow7, hgr7, hob7⟩ := append_texts w6 43 W.heap.size (.slice none 0 0) u0 [] (b.outs i) (World.ownsRow_nil _ _ _ _) (row_src hrow6) hT6.only.size (by rw [List.length_nil]; omega)
    rw [List.nil_append] at hrow7
    have hO7 : Only (fun _ => False) w6 w7 := (Only.of_grown hgr7).mono (fun k _ e => by cases e)
    have HRUN7 := Lib.hid hrun
    have HT7 := Lib.hid (hT6.keep hO7)
    have HROWA := Lib.hid (Texts.row htr6 (.of hO7))
    have HROWB := Lib.hid hrow7
    clear hrun hrow7 hgr7 hob7 htr6 hrow6 hT6 htx6 hO7 HRUN HT5 HROW5
    obtain ⟨M1, hM1⟩ : ∃ M1, M1 = M ++ a1.outs i := ⟨_, rfl⟩
    rw [← hM1] at HROWA
    have hM1l : M1.length ≤ 95 := by rw [hM1, List.length_append]; omega
    have HM1 := Lib.hid hM1
    clear hM1
    have hbl : (b.outs i).length ≤ 65 := by omega
    obtain ⟨M2, hM2⟩ : ∃ M2, M2 = b.outs i := ⟨_, rfl⟩
    rw [← hM2] at HROWB hbl
    have HM2 := Lib.hid hM2
    clear hM2
    have hkq := (Only.refl (fun _ => False) w7).alloc (.cells #[v1, u1] 43)
    have hq := blk_new w7 (.cells #[v1, u1] 43)
    have HT8 := Lib.hid (HT7.out.keep hkq)
    have HRA8 := Lib.hid (Texts.row HROWA.out (.of hkq))
    have HRB8 := Lib.hid (Texts.row HROWB.out (.of hkq))
    obtain ⟨va, vcap, hv1, hvc, _⟩ := srow_form HROWA.out
    obtain ⟨ua, ucap, hu1, huc, _⟩ := srow_form HROWB.out
    subst hv1 hu1
    have HQ := Lib.hid hq
    clear hkq hq HT7 HROWA HROWB
    go_wp2_with (at_builtin; refine wpList_append_ran rfl _ _ 43 rfl _ _ _ w7 rfl rfl HRUN7.out ?_)
    clear HRUN7
    generalize w7.alloc (.cells #[.slice va M1.length vcap, .slice ua M2.length ucap] 43) = w8 at *
    generalize w7.heap.size = qb at *
    have y80 := blk_cell HQ.out 0
    have y81 := blk_cell HQ.out 1
    simp only [List.getElem?_toArray, List.getElem?_cons_zero, List.getElem?_cons_succ] at y80 y81
    refine wp_loop_rounds 3 ?_
    rw [rounds_succ]
    go_wp2_with fail
    have htick := Lib.hid HR3.out.inv.ticked
    have hM1in : ∀ S ∈ M1, LetIn (C1.map encAll) (a1.ticks i).taken 1 S := by rw [HM1.out]; exact htick.out.2.1
    have hM2in : ∀ S ∈ M2, LetIn [] (b.ticks i).taken 1 S := by rw [HM2.out]; exact htick.out.2.2
    have HM1I := Lib.hid hM1in
    have HM2I := Lib.hid hM2in
    have HPG := Lib.hid (pre_got (T := T) HR3.out.inv.pre HINV.out.live.two.ab.got)
    have hGG : G = (C1.take T.length).flatten := by rw [← HPG.out]; exact HINV.out.got
    have HGG := Lib.hid hGG
    clear hM1in hM2in hGG
    refine loop5a _ W w8 g mo me lg gg lv gv L (a1.ticks i) (b.ticks i) C1 given1 T M1 W.heap.size _ many i fl n2 fa fcap rfl rfl rfl rfl rfl rfl rfl rfl rfl rfl rfl rfl rfl hL (by omega) hn2 hfc HFL.out htick.out.1 HM1I.out HR3.out.inv.chunks HOK.out HRA8.out (by
      show TW W w8 g mo me lg gg lv gv (sOf (a1.ticks i) (b.ticks i)) L (C1.take T.length).flatten
      rw [← HGG.out]
      exact HT8.out) ?_
    rintro ⟨tm, df⟩ w9 gv9 hsz' hdf' hK' q15 hT9 htx9
    have HT9 := Lib.hid hT9
    have hq9 := htx9.keep qb _ 43 (.inr rfl) HQ.out
    have HRB9 := Lib.hid (Texts.row HRB8.out htx9)
    clear hT9 htx9 y80 y81 HT8 HRA8 HRB8 HQ
    have y90 := blk_cell hq9 0
    have y91 := blk_cell hq9 1
    simp only [List.getElem?_toArray, List.getElem?_cons_zero, List.getElem?_cons_succ] at y90 y91
    clear hq9
    simp only at hsz' q15
    replace hdf' : df = [] := hdf'
    subst hdf'
    have q1 : tm.getD 1 undef = .int .i64 sz := AllEq.get hK' 1 (by decide)
    have q2 : tm.getD 2 undef = .slice fa n2 fcap := AllEq.get hK' 2 (by decide)
    have q7 : tm.getD 7 undef = .pointer (some ⟨lg, 0, none⟩) := AllEq.get hK' 7 (by decide)
    have q8 : tm.getD 8 undef = .pointer (some ⟨gg, 0, none⟩) := AllEq.get hK' 8 (by decide)
    have q9 : tm.getD 9 undef = .pointer (some ⟨g 0, 0, none⟩) := AllEq.get hK' 9 (by decide)
    have q11 : tm.getD 11 undef = .pointer (some ⟨g 1, 0, none⟩) := AllEq.get hK' 11 (by decide)
    have q14 : tm.getD 14 undef = .int .i64 given1 := AllEq.get hK' 14 (by decide)
    have q16 : tm.getD 16 undef = .int .i64 i := AllEq.get hK' 16 (by decide)
    have q17 : tm.getD 17 undef = .slice va M1.length vcap := AllEq.get hK' 17 (by decide)
    have q18 : tm.getD 18 undef = .slice ua M2.length ucap := AllEq.get hK' 18 (by decide)
    have q23 : tm.getD 23 undef = .int .i64 0 := AllEq.get hK' 23 (by decide)
    have q24 : tm.getD 24 undef = .slice va M1.length vcap := AllEq.get hK' 24 (by decide)
    have q105 : tm.getD 105 undef = .int .i64 i := AllEq.get hK' 105 (by decide)
    have q147 : tm.getD 147 undef = .slice (some ⟨qb, 0, none⟩) 2 2 := AllEq.get hK' 147 (by decide)
    have q148 : tm.getD 148 undef = .int .i64 2 := AllEq.get hK' 148 (by decide)
    have q149 : tm.getD 149 undef = .int .i64 0 := AllEq.get hK' 149 (by decide)
    replace q15 : tm.getD 15 undef = .int .i64 ((many + M1.length : Nat) : Int) := q15
    have he : tm = #[tm.getD 0 undef, tm.getD 1 undef, tm.getD 2 undef, tm.getD 3 undef, tm.getD 4 undef, tm.getD 5 undef, tm.getD 6 undef, tm.getD 7 undef, tm.getD 8 undef, tm.getD 9 undef, tm.getD 10 undef, tm.getD 11 undef, tm.getD 12 undef, tm.getD 13 undef, tm.getD 14 undef, tm.getD 15 undef, tm.getD 16 undef, tm.getD 17 undef, tm.getD 18 undef, tm.getD 19 undef, tm.getD 20 undef, tm.getD 21 undef, tm.getD 22 undef, tm.getD 23 undef, tm.getD 24 undef, tm.getD 25 undef, tm.getD 26 undef, tm.getD 27 undef, tm.getD 28 undef, tm.getD 29 undef, tm.getD 30 undef, tm.getD 31 undef, tm.getD 32 undef, tm.getD 33 undef, tm.getD 34 undef, tm.getD 35 undef, tm.getD 36 undef, tm.getD 37 undef, tm.getD 38 undef, tm.getD 39 undef, tm.getD 40 undef, tm.getD 41 undef, tm.getD 42 undef, tm.getD 43 undef, tm.getD 44 undef, tm.getD 45 undef, tm.getD 46 undef, tm.getD 47 undef, tm.getD 48 undef, tm.getD 49 undef, tm.getD 50 undef, tm.getD 51 undef, tm.getD 52 undef, tm.getD 53 undef, tm.getD 54 undef, tm.getD 55 undef, tm.getD 56 undef, tm.getD 57 undef, tm.getD 58 undef, tm.getD 59 undef, tm.getD 60 undef, tm.getD 61 undef, tm.getD 62 undef, tm.getD 63 undef, tm.getD 64 undef, tm.getD 65 undef, tm.getD 66 undef, tm.getD 67 undef, tm.getD 68 undef, tm.getD 69 undef, tm.getD 70 undef, tm.getD 71 undef, tm.getD 72 undef, tm.getD 73 undef, tm.getD 74 undef, tm.getD 75 undef, tm.getD 76 undef, tm.getD 77 undef, tm.getD 78 undef, tm.getD 79 undef, tm.getD 80 undef, tm.getD 81 undef, tm.getD 82 undef, tm.getD 83 undef, tm.getD 84 undef, tm.getD 85 undef, tm.getD 86 undef, tm.getD 87 undef, tm.getD 88 undef, tm.getD 89 undef, tm.getD 90 undef, tm.getD 91 undef, tm.getD 92 undef, tm.getD 93 undef, tm.getD 94 undef, tm.getD 95 undef, tm.getD 96 undef, tm.getD 97 undef, tm.getD 98 undef, tm.getD 99 undef, tm.getD 100 undef, tm.getD 101 undef, tm.getD 102 undef, tm.getD 103 undef, tm.getD 104 undef, tm.getD 105 undef, tm.getD 106 undef, tm.getD 107 undef, tm.getD 108 undef, tm.getD 109 undef, tm.getD 110 undef, tm.getD 111 undef, tm.getD 112 undef, tm.getD 113 undef, tm.getD 114 undef, tm.getD 115 undef, tm.getD 116 undef, tm.getD 117 undef, tm.getD 118 undef, tm.getD 119 undef, tm.getD 120 undef, tm.getD 121 undef, tm.getD 122 undef, tm.getD 123 undef, tm.getD 124 undef, tm.getD 125 undef, tm.getD 126 undef, tm.getD 127 undef, tm.getD 128 undef, tm.getD 129 undef, tm.getD 130 undef, tm.getD 131 undef, tm.getD 132 undef, tm.getD 133 undef, tm.getD 134 undef, tm.getD 135 undef, tm.getD 136 undef, tm.getD 137 undef, tm.getD 138 undef, tm.getD 139 undef, tm.getD 140 undef, tm.getD 141 undef, tm.getD 142 undef, tm.getD 143 undef, tm.getD 144 undef, tm.getD 145 undef, tm.getD 146 undef, tm.getD 147 undef, tm.getD 148 undef, tm.getD 149 undef, tm.getD 150 undef, tm.getD 151 undef, tm.getD 152 undef, tm.getD 153 undef, tm.getD 154 undef, tm.getD 155 undef, tm.getD 156 undef, tm.getD 157 undef, tm.getD 158 undef, tm.getD 159 undef, tm.getD 160 undef, tm.getD 161 undef, tm.getD 162 undef, tm.getD 163 undef, tm.getD 164 undef, tm.getD 165 undef, tm.getD 166 undef, tm.getD 167 undef, tm.getD 168 undef, tm.getD 169 undef, tm.getD 170 undef, tm.getD 171 undef, tm.getD 172 undef, tm.getD 173 undef, tm.getD 174 undef, tm.getD 175 undef, tm.getD 176 undef, tm.getD 177 undef, tm.getD 178 undef, tm.getD 179 undef, tm.getD 180 undef, tm.getD 181 undef, tm.getD 182 undef, tm.getD 183 undef, tm.getD 184 undef, tm.getD 185 undef, tm.getD 186 undef, tm.getD 187 undef, tm.getD 188 undef, tm.getD 189 undef, tm.getD 190 undef, tm.getD 191 undef, tm.getD 192 undef, tm.getD 193 undef, tm.getD 194 undef, tm.getD 195 undef, tm.getD 196 undef, tm.getD 197 undef, tm.getD 198 undef, tm.getD 199 undef, tm.getD 200 undef, tm.getD 201 undef, tm.getD 202 undef, tm.getD 203 undef, tm.getD 204 undef, tm.getD 205 undef, tm.getD 206 undef, tm.getD 207 undef, tm.getD 208 undef, tm.getD 209 undef, tm.getD 210 undef, tm.getD 211 undef, tm.getD 212 undef, tm.getD 213 undef, tm.getD 214 undef, tm.getD 215 undef, tm.getD 216 undef, tm.getD 217 undef, tm.getD 218 undef, tm.getD 219 undef, tm.getD 220 undef, tm.getD 221 undef, tm.getD 222 undef, tm.getD 223 undef, tm.getD 224 undef, tm.getD 225 undef, tm.getD 226 undef, tm.getD 227 undef, tm.getD 228 undef, tm.getD 229 undef, tm.getD 230 undef, tm.getD 231 undef, tm.getD 232 undef, tm.getD 233 undef, tm.getD 234 undef, tm.getD 235 undef, tm.getD 236 undef, tm.getD 237 undef, tm.getD 238 undef, tm.getD 239 undef, tm.getD 240 undef, tm.getD 241 undef, tm.getD 242 undef, tm.getD 243 undef, tm.getD 244 undef, tm.getD 245 undef, tm.getD 246 undef, tm.getD 247 undef, tm.getD 248 undef, tm.getD 249 undef, tm.getD 250 undef, tm.getD 251 undef, tm.getD 252 undef, tm.getD 253 undef] := arr_eta (n := 254) hsz'
    rw [he, q1, q2, q7, q8, q9, q11, q14, q16, q17, q18, q23, q24, q105, q147, q148, q149, q15]
    clear he hK' hsz' q1 q2 q7 q8 q9 q11 q14 q16 q17 q18 q23 q24 q105 q147 q148 q149 q15
    generalize tm.getD 0 undef = z0
    generalize tm.getD 3 undef = z3
    generalize tm.getD 4 undef = z4
    generalize tm.getD 5 undef = z5
    generalize tm.getD 6 undef = z6
    generalize tm.getD 10 undef = z10
    generalize tm.getD 12 undef = z12
    generalize tm.getD 13 undef = z13
    generalize tm.getD 19 undef = z19
    generalize tm.getD 20 undef = z20
    generalize tm.getD 21 undef = z21
    generalize tm.getD 22 undef = z22
    generalize tm.getD 25 undef = z25
    generalize tm.getD 26 undef = z26
    generalize tm.getD 27 undef = z27
    generalize tm.getD 28 undef = z28
    generalize tm.getD 29 undef = z29
    generalize tm.getD 30 undef = z30
    generalize tm.getD 31 undef = z31
    generalize tm.getD 32 undef = z32
    generalize tm.getD 33 undef = z33
    generalize tm.getD 34 undef = z34
    generalize tm.getD 35 undef = z35
    generalize tm.getD 36 undef = z36
    generalize tm.getD 37 undef = z37
    generalize tm.getD 38 undef = z38
    generalize tm.getD 39 undef = z39
    generalize tm.getD 40 undef = z40
    generalize tm.getD 41 undef = z41
    generalize tm.getD 42 undef = z42
    generalize tm.getD 43 undef = z43
    generalize tm.getD 44 undef = z44
    generalize tm.getD 45 undef = z45
    generalize tm.getD 46 undef = z46
    generalize tm.getD 47 undef = z47
    generalize tm.getD 48 undef = z48
    generalize tm.getD 49 undef = z49
    generalize tm.getD 50 undef = z50
    generalize tm.getD 51 undef = z51
    generalize tm.getD 52 undef = z52
    generalize tm.getD 53 undef = z53
    generalize tm.getD 54 undef = z54
    generalize tm.getD 55 undef = z55
    generalize tm.getD 56 undef = z56
    generalize tm.getD 57 undef = z57
    generalize tm.getD 58 undef = z58
    generalize tm.getD 59 undef = z59
    generalize tm.getD 60 undef = z60
    generalize tm.getD 61 undef = z61
    generalize tm.getD 62 undef = z62
    generalize tm.getD 63 undef = z63
    generalize tm.getD 64 undef = z64
    generalize tm.getD 65 undef = z65
    generalize tm.getD 66 undef = z66
    generalize tm.getD 67 undef = z67
    generalize tm.getD 68 undef = z68
    generalize tm.getD 69 undef = z69
    generalize tm.getD 70 undef = z70
    generalize tm.getD 71 undef = z71
    generalize tm.getD 72 undef = z72
    generalize tm.getD 73 undef = z73
    generalize tm.getD 74 undef = z74
    generalize tm.getD 75 undef = z75
    generalize tm.getD 76 undef = z76
    generalize tm.getD 77 undef = z77
    generalize tm.getD 78 undef = z78
    generalize tm.getD 79 undef = z79
    generalize tm.getD 80 undef = z80
    generalize tm.getD 81 undef = z81
    generalize tm.getD 82 undef = z82
    generalize tm.getD 83 undef = z83
    generalize tm.getD 84 undef = z84
    generalize tm.getD 85 undef = z85
    generalize tm.getD 86 undef = z86
    generalize tm.getD 87 undef = z87
    generalize tm.getD 88 undef = z88
    generalize tm.getD 89 undef = z89
    generalize tm.getD 90 undef = z90
    generalize tm.getD 91 undef = z91
    generalize tm.getD 92 undef = z92
    generalize tm.getD 93 undef = z93
    generalize tm.getD 94 undef = z94
    generalize tm.getD 95 undef = z95
    generalize tm.getD 96 undef = z96
    generalize tm.getD 97 undef = z97
    generalize tm.getD 98 undef = z98
    generalize tm.getD 99 undef = z99
    generalize tm.getD 100 undef = z100
    generalize tm.getD 101 undef = z101
    generalize tm.getD 102 undef = z102
    generalize tm.getD 103 undef = z103
    generalize tm.getD 104 undef = z104
    generalize tm.getD 106 undef = z106
    generalize tm.getD 107 undef = z107
    generalize tm.getD 108 undef = z108
    generalize tm.getD 109 undef = z109
    generalize tm.getD 110 undef = z110
    generalize tm.getD 111 undef = z111
    generalize tm.getD 112 undef = z112
    generalize tm.getD 113 undef = z113
    generalize tm.getD 114 undef = z114
    generalize tm.getD 115 undef = z115
    generalize tm.getD 116 undef = z116
    generalize tm.getD 117 undef = z117
    generalize tm.getD 118 undef = z118
    generalize tm.getD 119 undef = z119
    generalize tm.getD 120 undef = z120
    generalize tm.getD 121 undef = z121
    generalize tm.getD 122 undef = z122
    generalize tm.getD 123 undef = z123
    generalize tm.getD 124 undef = z124
    generalize tm.getD 125 undef = z125
    generalize tm.getD 126 undef = z126
    generalize tm.getD 127 undef = z127
    generalize tm.getD 128 undef = z128
    generalize tm.getD 129 undef = z129
    generalize tm.getD 130 undef = z130
    generalize tm.getD 131 undef = z131
    generalize tm.getD 132 undef = z132
    generalize tm.getD 133 undef = z133
    generalize tm.getD 134 undef = z134
    generalize tm.getD 135 undef = z135
    generalize tm.getD 136 undef = z136
    generalize tm.getD 137 undef = z137
    generalize tm.getD 138 undef = z138
    generalize tm.getD 139 undef = z139
    generalize tm.getD 140 undef = z140
    generalize tm.getD 141 undef = z141
    generalize tm.getD 142 undef = z142
    generalize tm.getD 143 undef = z143
    generalize tm.getD 144 undef = z144
    generalize tm.getD 145 undef = z145
    generalize tm.getD 146 undef = z146
    generalize tm.getD 150 undef = z150
    generalize tm.getD 151 undef = z151
    generalize tm.getD 152 undef = z152
    generalize tm.getD 153 undef = z153
    generalize tm.getD 154 undef = z154
    generalize tm.getD 155 undef = z155
    generalize tm.getD 156 undef = z156
    generalize tm.getD 157 undef = z157
    generalize tm.getD 158 undef = z158
    generalize tm.getD 159 undef = z159
    generalize tm.getD 160 undef = z160
    generalize tm.getD 161 undef = z161
    generalize tm.getD 162 undef = z162
    generalize tm.getD 163 undef = z163
    generalize tm.getD 164 undef = z164
    generalize tm.getD 165 undef = z165
    generalize tm.getD 166 undef = z166
    generalize tm.getD 167 undef = z167
    generalize tm.getD 168 undef = z168
    generalize tm.getD 169 undef = z169
    generalize tm.getD 170 undef = z170
    generalize tm.getD 171 undef = z171
    generalize tm.getD 172 undef = z172
    generalize tm.getD 173 undef = z173
    generalize tm.getD 174 undef = z174
    generalize tm.getD 175 undef = z175
    generalize tm.getD 176 undef = z176
    generalize tm.getD 177 undef = z177
    generalize tm.getD 178 undef = z178
    generalize tm.getD 179 undef = z179
    generalize tm.getD 180 undef = z180
    generalize tm.getD 181 undef = z181
    generalize tm.getD 182 undef = z182
    generalize tm.getD 183 undef = z183
    generalize tm.getD 184 undef = z184
    generalize tm.getD 185 undef = z185
    generalize tm.getD 186 undef = z186
    generalize tm.getD 187 undef = z187
    generalize tm.getD 188 undef = z188
    generalize tm.getD 189 undef = z189
    generalize tm.getD 190 undef = z190
    generalize tm.getD 191 undef = z191
    generalize tm.getD 192 undef = z192
    generalize tm.getD 193 undef = z193
    generalize tm.getD 194 undef = z194
    generalize tm.getD 195 undef = z195
    generalize tm.getD 196 undef = z196
    generalize tm.getD 197 undef = z197
    generalize tm.getD 198 undef = z198
    generalize tm.getD 199 undef = z199
    generalize tm.getD 200 undef = z200
    generalize tm.getD 201 undef = z201
    generalize tm.getD 202 undef = z202
    generalize tm.getD 203 undef = z203
    generalize tm.getD 204 undef = z204
    generalize tm.getD 205 undef = z205
    generalize tm.getD 206 undef = z206
    generalize tm.getD 207 undef = z207
    generalize tm.getD 208 undef = z208
    generalize tm.getD 209 undef = z209
    generalize tm.getD 210 undef = z210
    generalize tm.getD 211 undef = z211
    generalize tm.getD 212 undef = z212
    generalize tm.getD 213 undef = z213
    generalize tm.getD 214 undef = z214
    generalize tm.getD 215 undef = z215
    generalize tm.getD 216 undef = z216
    generalize tm.getD 217 undef = z217
    generalize tm.getD 218 undef = z218
    generalize tm.getD 219 undef = z219
    generalize tm.getD 220 undef = z220
    generalize tm.getD 221 undef = z221
    generalize tm.getD 222 undef = z222
    generalize tm.getD 223 undef = z223
    generalize tm.getD 224 undef = z224
    generalize tm.getD 225 undef = z225
    generalize tm.getD 226 undef = z226
    generalize tm.getD 227 undef = z227
    generalize tm.getD 228 undef = z228
    generalize tm.getD 229 undef = z229
    generalize tm.getD 230 undef = z230
    generalize tm.getD 231 undef = z231
    generalize tm.getD 232 undef = z232
    generalize tm.getD 233 undef = z233
    generalize tm.getD 234 undef = z234
    generalize tm.getD 235 undef = z235
    generalize tm.getD 236 undef = z236
    generalize tm.getD 237 undef = z237
    generalize tm.getD 238 undef = z238
    generalize tm.getD 239 undef = z239
    generalize tm.getD 240 undef = z240
    generalize tm.getD 241 undef = z241
    generalize tm.getD 242 undef = z242
    generalize tm.getD 243 undef = z243
    generalize tm.getD 244 undef = z244
    generalize tm.getD 245 undef = z245
    generalize tm.getD 246 undef = z246
    generalize tm.getD 247 undef = z247
    generalize tm.getD 248 undef = z248
    generalize tm.getD 249 undef = z249
    generalize tm.getD 250 undef = z250
    generalize tm.getD 251 undef = z251
    generalize tm.getD 252 undef = z252
    generalize tm.getD 253 undef = z253
    go_wp2_with fail
    rw [rounds_succ]
    go_wp2_with fail
    obtain ⟨t5, k5⟩ := there_some htick.out.1 (X := expd (repOf fl n2) many M1) (fun S hS => HM1I.out S (expd_sub _ _ _ S hS))
    obtain ⟨b2, T2, hB⟩ : ∃ b2 T2, takeAll (b.ticks i, T) (expd (repOf fl n2) many M1) i = (b2, T2) := ⟨_, _, rfl⟩
    rw [hB] at t5 k5 HT9
    replace t5 : Two (a1.ticks i) b2 (C1.map encAll) [] [] T2 i 3 2 1 := t5
    replace HT9 : Hid (TW W w9 g mo me lg gg lv gv9 (sOf (a1.ticks i) b2) L (C1.take T2.length).flatten) := HT9
    have HM2J : Hid (∀ S ∈ M2, LetIn [] b2.taken 1 S) := Lib.hid (fun S hS => (HM2I.out S hS).mono ⟨[], rfl⟩ k5.up)
    have HB := Lib.hid hB
    have HT5 := Lib.hid t5
    clear t5 k5 hB
    refine loop5b _ W w9 g mo me lg gg lv gv9 L (a1.ticks i) b2 C1 T2 (C1.take T2.length).flatten M2 W.heap.size _ (many + M1.length) i fl n2 fa fcap rfl rfl rfl rfl rfl rfl rfl rfl rfl rfl rfl rfl rfl hL (by omega) hn2 hfc HFL.out HT5.out HM2J.out HRB9.out HT9.out ?_
    rintro ⟨tm, df⟩ w10 gv10 hsz' hdf' hK' q15 hT10 htx10
    obtain ⟨t6, k6⟩ := back_some HT5.out (X := expd (repOf fl n2) (many + M1.length) M2) (fun S hS => HM2J.out S (expd_sub _ _ _ S hS))
    obtain ⟨a', hA⟩ : ∃ a', (takeAll (a1.ticks i, []) (expd (repOf fl n2) (many + M1.length) M2) i).1 = a' := ⟨_, rfl⟩
    rw [hA] at t6 hT10
    have HA := Lib.hid hA
    have HT10 := Lib.hid hT10
    have HT6 := Lib.hid t6
    clear hA hT10 htx10 t6 k6 HT9 HRB9 y90 y91
    simp only at hsz' q15
    replace hdf' : df = [] := hdf'
    subst hdf'
    have q1 : tm.getD 1 undef = .int .i64 sz := AllEq.get hK' 1 (by decide)
    have q2 : tm.getD 2 undef = .slice fa n2 fcap := AllEq.get hK' 2 (by decide)
    have q7 : tm.getD 7 undef = .pointer (some ⟨lg, 0, none⟩) := AllEq.get hK' 7 (by decide)
    have q8 : tm.getD 8 undef = .pointer (some ⟨gg, 0, none⟩) := AllEq.get hK' 8 (by decide)
    have q9 : tm.getD 9 undef = .pointer (some ⟨g 0, 0, none⟩) := AllEq.get hK' 9 (by decide)
    have q11 : tm.getD 11 undef = .pointer (some ⟨g 1, 0, none⟩) := AllEq.get hK' 11 (by decide)
    have q14 : tm.getD 14 undef = .int .i64 given1 := AllEq.get hK' 14 (by decide)
    have q16 : tm.getD 16 undef = .int .i64 i := AllEq.get hK' 16 (by decide)
    have q17 : tm.getD 17 undef = .slice va M1.length vcap := AllEq.get hK' 17 (by decide)
    have q18 : tm.getD 18 undef = .slice ua M2.length ucap := AllEq.get hK' 18 (by decide)
    have q23 : tm.getD 23 undef = .int .i64 1 := AllEq.get hK' 23 (by decide)
    have q24 : tm.getD 24 undef = .slice ua M2.length ucap := AllEq.get hK' 24 (by decide)
    have q105 : tm.getD 105 undef = .int .i64 i := AllEq.get hK' 105 (by decide)
    have q147 : tm.getD 147 undef = .slice (some ⟨qb, 0, none⟩) 2 2 := AllEq.get hK' 147 (by decide)
    have q148 : tm.getD 148 undef = .int .i64 2 := AllEq.get hK' 148 (by decide)
    have q149 : tm.getD 149 undef = .int .i64 1 := AllEq.get hK' 149 (by decide)
    replace q15 : tm.getD 15 undef = .int .i64 ((many + M1.length + M2.length : Nat) : Int) := q15
    have he : tm = #[tm.getD 0 undef, tm.getD 1 undef, tm.getD 2 undef, tm.getD 3 undef, tm.getD 4 undef, tm.getD 5 undef, tm.getD 6 undef, tm.getD 7 undef, tm.getD 8 undef, tm.getD 9 undef, tm.getD 10 undef, tm.getD 11 undef, tm.getD 12 undef, tm.getD 13 undef, tm.getD 14 undef, tm.getD 15 undef, tm.getD 16 undef, tm.getD 17 undef, tm.getD 18 undef, tm.getD 19 undef, tm.getD 20 undef, tm.getD 21 undef, tm.getD 22 undef, tm.getD 23 undef, tm.getD 24 undef, tm.getD 25 undef, tm.getD 26 undef, tm.getD 27 undef, tm.getD 28 undef, tm.getD 29 undef, tm.getD 30 undef, tm.getD 31 undef, tm.getD 32 undef, tm.getD 33 undef, tm.getD 34 undef, tm.getD 35 undef, tm.getD 36 undef, tm.getD 37 undef, tm.getD 38 undef, tm.getD 39 undef, tm.getD 40 undef, tm.getD 41 undef, tm.getD 42 undef, tm.getD 43 undef, tm.getD 44 undef, tm.getD 45 undef, tm.getD 46 undef, tm.getD 47 undef, tm.getD 48 undef, tm.getD 49 undef, tm.getD 50 undef, tm.getD 51 undef, tm.getD 52 undef, tm.getD 53 undef, tm.getD 54 undef, tm.getD 55 undef, tm.getD 56 undef, tm.getD 57 undef, tm.getD 58 undef, tm.getD 59 undef, tm.getD 60 undef, tm.getD 61 undef, tm.getD 62 undef, tm.getD 63 undef, tm.getD 64 undef, tm.getD 65 undef, tm.getD 66 undef, tm.getD 67 undef, tm.getD 68 undef, tm.getD 69 undef, tm.getD 70 undef, tm.getD 71 undef, tm.getD 72 undef, tm.getD 73 undef, tm.getD 74 undef, tm.getD 75 undef, tm.getD 76 undef, tm.getD 77 undef, tm.getD 78 undef, tm.getD 79 undef, tm.getD 80 undef, tm.getD 81 undef, tm.getD 82 undef, tm.getD 83 undef, tm.getD 84 undef, tm.getD 85 undef, tm.getD 86 undef, tm.getD 87 undef, tm.getD 88 undef, tm.getD 89 undef, tm.getD 90 undef, tm.getD 91 undef, tm.getD 92 undef, tm.getD 93 undef, tm.getD 94 undef, tm.getD 95 undef, tm.getD 96 undef, tm.getD 97 undef, tm.getD 98 undef, tm.getD 99 undef, tm.getD 100 undef, tm.getD 101 undef, tm.getD 102 undef, tm.getD 103 undef, tm.getD 104 undef, tm.getD 105 undef, tm.getD 106 undef, tm.getD 107 undef, tm.getD 108 undef, tm.getD 109 undef, tm.getD 110 undef, tm.getD 111 undef, tm.getD 112 undef, tm.getD 113 undef, tm.getD 114 undef, tm.getD 115 undef, tm.getD 116 undef, tm.getD 117 undef, tm.getD 118 undef, tm.getD 119 undef, tm.getD 120 undef, tm.getD 121 undef, tm.getD 122 undef, tm.getD 123 undef, tm.getD 124 undef, tm.getD 125 undef, tm.getD 126 undef, tm.getD 127 undef, tm.getD 128 undef, tm.getD 129 undef, tm.getD 130 undef, tm.getD 131 undef, tm.getD 132 undef, tm.getD 133 undef, tm.getD 134 undef, tm.getD 135 undef, tm.getD 136 undef, tm.getD 137 undef, tm.getD 138 undef, tm.getD 139 undef, tm.getD 140 undef, tm.getD 141 undef, tm.getD 142 undef, tm.getD 143 undef, tm.getD 144 undef, tm.getD 145 undef, tm.getD 146 undef, tm.getD 147 undef, tm.getD 148 undef, tm.getD 149 undef, tm.getD 150 undef, tm.getD 151 undef, tm.getD 152 undef, tm.getD 153 undef, tm.getD 154 undef, tm.getD 155 undef, tm.getD 156 undef, tm.getD 157 undef, tm.getD 158 undef, tm.getD 159 undef, tm.getD 160 undef, tm.getD 161 undef, tm.getD 162 undef, tm.getD 163 undef, tm.getD 164 undef, tm.getD 165 undef, tm.getD 166 undef, tm.getD 167 undef, tm.getD 168 undef, tm.getD 169 undef, tm.getD 170 undef, tm.getD 171 undef, tm.getD 172 undef, tm.getD 173 undef, tm.getD 174 undef, tm.getD 175 undef, tm.getD 176 undef, tm.getD 177 undef, tm.getD 178 undef, tm.getD 179 undef, tm.getD 180 undef, tm.getD 181 undef, tm.getD 182 undef, tm.getD 183 undef, tm.getD 184 undef, tm.getD 185 undef, tm.getD 186 undef, tm.getD 187 undef, tm.getD 188 undef, tm.getD 189 undef, tm.getD 190 undef, tm.getD 191 undef, tm.getD 192 undef, tm.getD 193 undef, tm.getD 194 undef, tm.getD 195 undef, tm.getD 196 undef, tm.getD 197 undef, tm.getD 198 undef, tm.getD 199 undef, tm.getD 200 undef, tm.getD 201 undef, tm.getD 202 undef, tm.getD 203 undef, tm.getD 204 undef, tm.getD 205 undef, tm.getD 206 undef, tm.getD 207 undef, tm.getD 208 undef, tm.getD 209 undef, tm.getD 210 undef, tm.getD 211 undef, tm.getD 212 undef, tm.getD 213 undef, tm.getD 214 undef, tm.getD 215 undef, tm.getD 216 undef, tm.getD 217 undef, tm.getD 218 undef, tm.getD 219 undef, tm.getD 220 undef, tm.getD 221 undef, tm.getD 222 undef, tm.getD 223 undef, tm.getD 224 undef, tm.getD 225 undef, tm.getD 226 undef, tm.getD 227 undef, tm.getD 228 undef, tm.getD 229 undef, tm.getD 230 undef, tm.getD 231 undef, tm.getD 232 undef, tm.getD 233 undef, tm.getD 234 undef, tm.getD 235 undef, tm.getD 236 undef, tm.getD 237 undef, tm.getD 238 undef, tm.getD 239 undef, tm.getD 240 undef, tm.getD 241 undef, tm.getD 242 undef, tm.getD 243 undef, tm.getD 244 undef, tm.getD 245 undef, tm.getD 246 undef, tm.getD 247 undef, tm.getD 248 undef, tm.getD 249 undef, tm.getD 250 undef, tm.getD 251 undef, tm.getD 252 undef, tm.getD 253 undef] := arr_eta (n := 254) hsz'
    rw [he, q1, q2, q7, q8, q9, q11, q14, q16, q17, q18, q23, q24, q105, q147, q148, q149, q15]
    clear he hK' hsz' q1 q2 q7 q8 q9 q11 q14 q16 q17 q18 q23 q24 q105 q147 q148 q149 q15
    generalize tm.getD 0 undef = v0
    generalize tm.getD 3 undef = v3
    generalize tm.getD 4 undef = v4
    generalize tm.getD 5 undef = v5
    generalize tm.getD 6 undef = v6
    generalize tm.getD 10 undef = v10
    generalize tm.getD 12 undef = v12
    generalize tm.getD 13 undef = v13
    generalize tm.getD 19 undef = v19
    generalize tm.getD 20 undef = v20
    generalize tm.getD 21 undef = v21
    generalize tm.getD 22 undef = v22
    generalize tm.getD 25 undef = v25
    generalize tm.getD 26 undef = v26
    generalize tm.getD 27 undef = v27
    generalize tm.getD 28 undef = v28
    generalize tm.getD 29 undef = v29
    generalize tm.getD 30 undef = v30
    generalize tm.getD 31 undef = v31
    generalize tm.getD 32 undef = v32
    generalize tm.getD 33 undef = v33
    generalize tm.getD 34 undef = v34
    generalize tm.getD 35 undef = v35
    generalize tm.getD 36 undef = v36
    generalize tm.getD 37 undef = v37
    generalize tm.getD 38 undef = v38
    generalize tm.getD 39 undef = v39
    generalize tm.getD 40 undef = v40
    generalize tm.getD 41 undef = v41
    generalize tm.getD 42 undef = v42
    generalize tm.getD 43 undef = v43
    generalize tm.getD 44 undef = v44
    generalize tm.getD 45 undef = v45
    generalize tm.getD 46 undef = v46
    generalize tm.getD 47 undef = v47
    generalize tm.getD 48 undef = v48
    generalize tm.getD 49 undef = v49
    generalize tm.getD 50 undef = v50
    generalize tm.getD 51 undef = v51
    generalize tm.getD 52 undef = v52
    generalize tm.getD 53 undef = v53
    generalize tm.getD 54 undef = v54
    generalize tm.getD 55 undef = v55
    generalize tm.getD 56 undef = v56
    generalize tm.getD 57 undef = v57
    generalize tm.getD 58 undef = v58
    generalize tm.getD 59 undef = v59
    generalize tm.getD 60 undef = v60
    generalize tm.getD 61 undef = v61
    generalize tm.getD 62 undef = v62
    generalize tm.getD 63 undef = v63
    generalize tm.getD 64 undef = v64
    generalize tm.getD 65 undef = v65
    generalize tm.getD 66 undef = v66
    generalize tm.getD 67 undef = v67
    generalize tm.getD 68 undef = v68
    generalize tm.getD 69 undef = v69
    generalize tm.getD 70 undef = v70
    generalize tm.getD 71 undef = v71
    generalize tm.getD 72 undef = v72
    generalize tm.getD 73 undef = v73
    generalize tm.getD 74 undef = v74
    generalize tm.getD 75 undef = v75
    generalize tm.getD 76 undef = v76
    generalize tm.getD 77 undef = v77
    generalize tm.getD 78 undef = v78
    generalize tm.getD 79 undef = v79
    generalize tm.getD 80 undef = v80
    generalize tm.getD 81 undef = v81
    generalize tm.getD 82 undef = v82
    generalize tm.getD 83 undef = v83
    generalize tm.getD 84 undef = v84
    generalize tm.getD 85 undef = v85
    generalize tm.getD 86 undef = v86
    generalize tm.getD 87 undef = v87
    generalize tm.getD 88 undef = v88
    generalize tm.getD 89 undef = v89
    generalize tm.getD 90 undef = v90
    generalize tm.getD 91 undef = v91
    generalize tm.getD 92 undef = v92
    generalize tm.getD 93 undef = v93
    generalize tm.getD 94 undef = v94
    generalize tm.getD 95 undef = v95
    generalize tm.getD 96 undef = v96
    generalize tm.getD 97 undef = v97
    generalize tm.getD 98 undef = v98
    generalize tm.getD 99 undef = v99
    generalize tm.getD 100 undef = v100
    generalize tm.getD 101 undef = v101
    generalize tm.getD 102 undef = v102
    generalize tm.getD 103 undef = v103
    generalize tm.getD 104 undef = v104
    generalize tm.getD 106 undef = v106
    generalize tm.getD 107 undef = v107
    generalize tm.getD 108 undef = v108
    generalize tm.getD 109 undef = v109
    generalize tm.getD 110 undef = v110
    generalize tm.getD 111 undef = v111
    generalize tm.getD 112 undef = v112
    generalize tm.getD 113 undef = v113
    generalize tm.getD 114 undef = v114
    generalize tm.getD 115 undef = v115
    generalize tm.getD 116 undef = v116
    generalize tm.getD 117 undef = v117
    generalize tm.getD 118 undef = v118
    generalize tm.getD 119 undef = v119
    generalize tm.getD 120 undef = v120
    generalize tm.getD 121 undef = v121
    generalize tm.getD 122 undef = v122
    generalize tm.getD 123 undef = v123
    generalize tm.getD 124 undef = v124
    generalize tm.getD 125 undef = v125
    generalize tm.getD 126 undef = v126
    generalize tm.getD 127 undef = v127
    generalize tm.getD 128 undef = v128
    generalize tm.getD 129 undef = v129
    generalize tm.getD 130 undef = v130
    generalize tm.getD 131 undef = v131
    generalize tm.getD 132 undef = v132
    generalize tm.getD 133 undef = v133
    generalize tm.getD 134 undef = v134
    generalize tm.getD 135 undef = v135
    generalize tm.getD 136 undef = v136
    generalize tm.getD 137 undef = v137
    generalize tm.getD 138 undef = v138
    generalize tm.getD 139 undef = v139
    generalize tm.getD 140 undef = v140
    generalize tm.getD 141 undef = v141
    generalize tm.getD 142 undef = v142
    generalize tm.getD 143 undef = v143
    generalize tm.getD 144 undef = v144
    generalize tm.getD 145 undef = v145
    generalize tm.getD 146 undef = v146
    generalize tm.getD 150 undef = v150
    generalize tm.getD 151 undef = v151
    generalize tm.getD 152 undef = v152
    generalize tm.getD 153 undef = v153
    generalize tm.getD 154 undef = v154
    generalize tm.getD 155 undef = v155
    generalize tm.getD 156 undef = v156
    generalize tm.getD 157 undef = v157
    generalize tm.getD 158 undef = v158
    generalize tm.getD 159 undef = v159
    generalize tm.getD 160 undef = v160
    generalize tm.getD 161 undef = v161
    generalize tm.getD 162 undef = v162
    generalize tm.getD 163 undef = v163
    generalize tm.getD 164 undef = v164
    generalize tm.getD 165 undef = v165
    generalize tm.getD 166 undef = v166
    generalize tm.getD 167 undef = v167
    generalize tm.getD 168 undef = v168
    generalize tm.getD 169 undef = v169
    generalize tm.getD 170 undef = v170
    generalize tm.getD 171 undef = v171
    generalize tm.getD 172 undef = v172
    generalize tm.getD 173 undef = v173
    generalize tm.getD 174 undef = v174
    generalize tm.getD 175 undef = v175
    generalize tm.getD 176 undef = v176
    generalize tm.getD 177 undef = v177
    generalize tm.getD 178 undef = v178
    generalize tm.getD 179 undef = v179
    generalize tm.getD 180 undef = v180
    generalize tm.getD 181 undef = v181
    generalize tm.getD 182 undef = v182
    generalize tm.getD 183 undef = v183
    generalize tm.getD 184 undef = v184
    generalize tm.getD 185 undef = v185
    generalize tm.getD 186 undef = v186
    generalize tm.getD 187 undef = v187
    generalize tm.getD 188 undef = v188
    generalize tm.getD 189 undef = v189
    generalize tm.getD 190 undef = v190
    generalize tm.getD 191 undef = v191
    generalize tm.getD 192 undef = v192
    generalize tm.getD 193 undef = v193
    generalize tm.getD 194 undef = v194
    generalize tm.getD 195 undef = v195
    generalize tm.getD 196 undef = v196
    generalize tm.getD 197 undef = v197
    generalize tm.getD 198 undef = v198
    generalize tm.getD 199 undef = v199
    generalize tm.getD 200 undef = v200
    generalize tm.getD 201 undef = v201
    generalize tm.getD 202 undef = v202
    generalize tm.getD 203 undef = v203
    generalize tm.getD 204 undef = v204
    generalize tm.getD 205 undef = v205
    generalize tm.getD 206 undef = v206
    generalize tm.getD 207 undef = v207
    generalize tm.getD 208 undef = v208
    generalize tm.getD 209 undef = v209
    generalize tm.getD 210 undef = v210
    generalize tm.getD 211 undef = v211
    generalize tm.getD 212 undef = v212
    generalize tm.getD 213 undef = v213
    generalize tm.getD 214 undef = v214
    generalize tm.getD 215 undef = v215
    generalize tm.getD 216 undef = v216
    generalize tm.getD 217 undef = v217
    generalize tm.getD 218 undef = v218
    generalize tm.getD 219 undef = v219
    generalize tm.getD 220 undef = v220
    generalize tm.getD 221 undef = v221
    generalize tm.getD 222 undef = v222
    generalize tm.getD 223 undef = v223
    generalize tm.getD 224 undef = v224
    generalize tm.getD 225 undef = v225
    generalize tm.getD 226 undef = v226
    generalize tm.getD 227 undef = v227
    generalize tm.getD 228 undef = v228
    generalize tm.getD 229 undef = v229
    generalize tm.getD 230 undef = v230
    generalize tm.getD 231 undef = v231
    generalize tm.getD 232 undef = v232
    generalize tm.getD 233 undef = v233
    generalize tm.getD 234 undef = v234
    generalize tm.getD 235 undef = v235
    generalize tm.getD 236 undef = v236
    generalize tm.getD 237 undef = v237
    generalize tm.getD 238 undef = v238
    generalize tm.getD 239 undef = v239
    generalize tm.getD 240 undef = v240
    generalize tm.getD 241 undef = v241
    generalize tm.getD 242 undef = v242
    generalize tm.getD 243 undef = v243
    generalize tm.getD 244 undef = v244
    generalize tm.getD 245 undef = v245
    generalize tm.getD 246 undef = v246
    generalize tm.getD 247 undef = v247
    generalize tm.getD 248 undef = v248
    generalize tm.getD 249 undef = v249
    generalize tm.getD 250 undef = v250
    generalize tm.getD 251 undef = v251
    generalize tm.getD 252 undef = v252
    generalize tm.getD 253 undef = v253
    go_wp2_with fail
    rw [rounds_succ]
    go_wp2_with fail
    refine (numbers_any w10 (g 0) (mo 0) (me 0) a' (HT10.out.e 0 (by decide))).mono ?_
    rintro e w11 ⟨rfl, hk11⟩
    have HT11 := Lib.hid (HT10.out.keep hk11)
    clear hk11 HT10
    go_wp2_with fail
    refine (len_any w11 W.heap.size lg lv L HT11.out.log).mono ?_
    rintro e w12 ⟨rfl, rfl⟩
    have hg1 := HR3.out.inv.chunks.le
    by_cases hdone : given1 = L.length ∧ a'.last = a'.acked
    · obtain ⟨hd1, hd2⟩ := hdone
      have HGL := Lib.hid (all_got HR3.out.inv.chunks HT6.out rfl hd1 hd2)
      rw [hd2]
      subst hd1
      have HT12 : Hid (TW W w12 g mo me lg gg lv gv10 (sOf a' b2) L L) := Lib.hid (by have := HT11.out; rw [HGL.out] at this; exact this)
      clear HT11
      go_wp2_with fail
      refine (len_any w12 W.heap.size gg gv10 L HT12.out.got).mono ?_
      rintro e w13 ⟨rfl, rfl⟩
      go_wp2_with fail
      refine (len_any w13 W.heap.size lg lv L HT12.out.log).mono ?_
      rintro e w14 ⟨rfl, rfl⟩
      go_wp2_with fail
      exact HE.out _ _ rfl rfl HT12.out.only
    · have HND := Lib.hid hdone
      by_cases hg : given1 = L.length
      · have hla : ¬ a'.last = a'.acked := fun e => hdone ⟨hg, e⟩
        have hlb : (a'.last == a'.acked) = false := by simpa using hla
        clear hdone
        subst hg
        go_wp2_with fail
        have hn : HInv (i + 1) L a' b2 C1 L.length (many + (M ++ a1.outs i).length + (b.outs i).length) T2 (C1.take T2.length).flatten := HINV.out.next HR3.out.inv hL hlt (.inl rfl) (repOf fl n2) (fun k hk => repOf_late fl n2 hk) (by rw [← HM1.out]; exact HB.out) (by rw [← HM1.out, ← HM2.out]; exact HA.out) rfl (fun e => HND.out ⟨trivial, e.2⟩)
        rw [← HM1.out, ← HM2.out] at hn
        refine ⟨⟨(by first | rfl | trivial), (by first | rfl | trivial), ⟨h1.symm, h2.symm, h7.symm, h8.symm, h9.symm, h11.symm, trivial⟩, i + 1, a', b2, C1, _, many + M1.length + M2.length, T2, _, gv10, by push_cast; go_num, (by first | rfl | trivial), (by first | rfl | trivial), hlt, ⟨hn, HT11.out, by omega⟩⟩, ?_⟩
        simp [intOf]; omega
      · have hgb : ((given1 : Int) == (L.length : Int)) = false := by simpa using (fun e => hg (by omega))
        have hgb2 : (given1 == L.length) = false := by simpa using hg
        clear hdone
        go_wp2_with fail
        have hn : HInv (i + 1) L a' b2 C1 given1 (many + (M ++ a1.outs i).length + (b.outs i).length) T2 (C1.take T2.length).flatten := HINV.out.next HR3.out.inv hL hlt HEX.out (repOf fl n2) (fun k hk => repOf_late fl n2 hk) (by rw [← HM1.out]; exact HB.out) (by rw [← HM1.out, ← HM2.out]; exact HA.out) rfl HND.out
        rw [← HM1.out, ← HM2.out] at hn
        refine ⟨⟨(by first | rfl | trivial), (by first | rfl | trivial), ⟨h1.symm, h2.symm, h7.symm, h8.symm, h9.symm, h11.symm, trivial⟩, i + 1, a', b2, C1, _, many + M1.length + M2.length, T2, _, gv10, by push_cast; go_num, (by first | rfl | trivial), (by first | rfl | trivial), hlt, ⟨hn, HT11.out, by omega⟩⟩, ?_⟩
        simp [intOf]; omega
  · obtain rfl : i = 400 := by omega
    exact (HR.out.inv.over hL).elim

end Go.Proofs.Yteifehienpeaiaa
