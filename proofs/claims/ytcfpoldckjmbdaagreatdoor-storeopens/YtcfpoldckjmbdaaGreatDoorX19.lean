/-
  A part of the proof that pumicelaw17.StoreOpens returns true for every geometry, key, number and group (a machine over names of blocks, its soundness, the calls of the store for any geometry, the chapter's example as a run). Condition: the listed package variables hold what the program's text lays; the card ties that.
-/
import Derived.Test.YtcfpoldckjmbdaaGreatDoorProg
import Derived.KernelRfl
import Derived.Test.YtcfpoldckjmbdaaGreatDoorX18
import Derived.Test.YtcfpoldckjmbdaaGreatDoorX13
set_option linter.unusedVariables false
set_option linter.unusedSimpArgs false
set_option linter.unusedSectionVars false
open Go Go.Abm
namespace Go.Abm.Seat
open Go.Proofs
set_option maxRecDepth 100000
structure Facts (E : Env) : Prop where
  f18 : E.funcs.get 18 = some Tryz.f18
  f52 : E.funcs.get 52 = some Tryz.f52
  f124 : E.funcs.get 124 = some Tryz.f124
  f53 : E.funcs.get 53 = some Tryz.f53
  f54 : E.funcs.get 54 = some Tryz.f54
  f240 : E.funcs.get 240 = some Tryz.f240
  f164 : E.funcs.get 164 = some Tryz.f164
  f55 : E.funcs.get 55 = some Tryz.f55
  f50 : E.funcs.get 50 = some Tryz.f50
  f291 : E.funcs.get 291 = some Tryz.f291
  f289 : E.funcs.get 289 = some Tryz.f289
  f167 : E.funcs.get 167 = some Tryz.f167
  f169 : E.funcs.get 169 = some Tryz.f169
  f243 : E.funcs.get 243 = some Tryz.f243
  f180 : E.funcs.get 180 = some Tryz.f180
  f161 : E.funcs.get 161 = some Tryz.f161
  f238 : E.funcs.get 238 = some Tryz.f238
  f288 : E.funcs.get 288 = some Tryz.f288
  f290 : E.funcs.get 290 = some Tryz.f290
  f239 : E.funcs.get 239 = some Tryz.f239
  f162 : E.funcs.get 162 = some Tryz.f162
  f163 : E.funcs.get 163 = some Tryz.f163
  f160 : E.funcs.get 160 = some Tryz.f160
  f59 : E.funcs.get 59 = some Tryz.f59
  f90 : E.funcs.get 90 = some Tryz.f90
  f31 : E.funcs.get 31 = some Tryz.f31
  f37 : E.funcs.get 37 = some Tryz.f37
  f159 : E.funcs.get 159 = some Tryz.f159
  f93 : E.funcs.get 93 = some Tryz.f93
  f24 : E.funcs.get 24 = some Tryz.f24
  f61 : E.funcs.get 61 = some Tryz.f61
  f62 : E.funcs.get 62 = some Tryz.f62
  f158 : E.funcs.get 158 = some Tryz.f158
  f84 : E.funcs.get 84 = some Tryz.f84
  f109 : E.funcs.get 109 = some Tryz.f109
  f23 : E.funcs.get 23 = some Tryz.f23
  f81 : E.funcs.get 81 = some Tryz.f81
  f176 : E.funcs.get 176 = some Tryz.f176
  f174 : E.funcs.get 174 = some Tryz.f174
  f83 : E.funcs.get 83 = some Tryz.f83
  f157 : E.funcs.get 157 = some Tryz.f157
  f88 : E.funcs.get 88 = some Tryz.f88
  f89 : E.funcs.get 89 = some Tryz.f89
  f183 : E.funcs.get 183 = some Tryz.f183
  f101 : E.funcs.get 101 = some Tryz.f101
  f168 : E.funcs.get 168 = some Tryz.f168
  f246 : E.funcs.get 246 = some Tryz.f246
  f287 : E.funcs.get 287 = some Tryz.f287
  f173 : E.funcs.get 173 = some Tryz.f173
  f144 : E.funcs.get 144 = some Tryz.f144
  f92 : E.funcs.get 92 = some Tryz.f92
  f165 : E.funcs.get 165 = some Tryz.f165
  f241 : E.funcs.get 241 = some Tryz.f241
  f242 : E.funcs.get 242 = some Tryz.f242
  f181 : E.funcs.get 181 = some Tryz.f181
  f141 : E.funcs.get 141 = some Tryz.f141
  f97 : E.funcs.get 97 = some Tryz.f97
  f178 : E.funcs.get 178 = some Tryz.f178
  f252 : E.funcs.get 252 = some Tryz.f252
  f200 : E.funcs.get 200 = some Tryz.f200
  f98 : E.funcs.get 98 = some Tryz.f98
  f177 : E.funcs.get 177 = some Tryz.f177
  f251 : E.funcs.get 251 = some Tryz.f251
  f179 : E.funcs.get 179 = some Tryz.f179
  f99 : E.funcs.get 99 = some Tryz.f99
  f172 : E.funcs.get 172 = some Tryz.f172
  f95 : E.funcs.get 95 = some Tryz.f95
  f33 : E.funcs.get 33 = some Tryz.f33
  f38 : E.funcs.get 38 = some Tryz.f38
  f32 : E.funcs.get 32 = some Tryz.f32
  f34 : E.funcs.get 34 = some Tryz.f34
  f8 : E.funcs.get 8 = some Tryz.f8
  f9 : E.funcs.get 9 = some Tryz.f9
  f4 : E.funcs.get 4 = some Tryz.f4
  f5 : E.funcs.get 5 = some Tryz.f5
  f13 : E.funcs.get 13 = some Tryz.f13
  f20 : E.funcs.get 20 = some Tryz.f20
  f94 : E.funcs.get 94 = some Tryz.f94
  f171 : E.funcs.get 171 = some Tryz.f171
  f21 : E.funcs.get 21 = some Tryz.f21
  f22 : E.funcs.get 22 = some Tryz.f22
  f56 : E.funcs.get 56 = some Tryz.f56
  f57 : E.funcs.get 57 = some Tryz.f57
  f58 : E.funcs.get 58 = some Tryz.f58
  f127 : E.funcs.get 127 = some Tryz.f127
  f128 : E.funcs.get 128 = some Tryz.f128
  f129 : E.funcs.get 129 = some Tryz.f129
  f130 : E.funcs.get 130 = some Tryz.f130
  f35 : E.funcs.get 35 = some Tryz.f35
  f36 : E.funcs.get 36 = some Tryz.f36
  f19 : E.funcs.get 19 = some Tryz.f19
  f3 : E.funcs.get 3 = some Tryz.f3
  f267 : E.funcs.get 267 = some Tryz.f267
  f308 : E.funcs.get 308 = some Tryz.f308
  f268 : E.funcs.get 268 = some Tryz.f268
  f403 : E.funcs.get 403 = some Tryz.f403
  f410 : E.funcs.get 410 = some Tryz.f410
  f248 : E.funcs.get 248 = some Tryz.f248
  f140 : E.funcs.get 140 = some Tryz.f140
  f237 : E.funcs.get 237 = some Tryz.f237
  f170 : E.funcs.get 170 = some Tryz.f170
  f6 : E.funcs.get 6 = some Tryz.f6
  f7 : E.funcs.get 7 = some Tryz.f7
  f10 : E.funcs.get 10 = some Tryz.f10
  f11 : E.funcs.get 11 = some Tryz.f11
  f12 : E.funcs.get 12 = some Tryz.f12
  f14 : E.funcs.get 14 = some Tryz.f14
  f15 : E.funcs.get 15 = some Tryz.f15
  f16 : E.funcs.get 16 = some Tryz.f16
  f17 : E.funcs.get 17 = some Tryz.f17
  f182 : E.funcs.get 182 = some Tryz.f182
  f393 : E.funcs.get 393 = some Tryz.f393
  f49 : E.funcs.get 49 = some Tryz.f49
  f96 : E.funcs.get 96 = some Tryz.f96
  f175 : E.funcs.get 175 = some Tryz.f175
  f250 : E.funcs.get 250 = some Tryz.f250
  f294 : E.funcs.get 294 = some Tryz.f294
  f195 : E.funcs.get 195 = some Tryz.f195
  f236 : E.funcs.get 236 = some Tryz.f236
  f249 : E.funcs.get 249 = some Tryz.f249
  ag23 : AggT E 23
  sz23 : E.size 23 = some 4
  fa23_0 : FA E 23 0 0
  na3 : NA E 3
  u100 : E.under 100 = some (.slice 107)
  el107 : ElemT E 107 4 48 (AV.agg [(AV.bool false), (AV.int .i64 0), AV.nils, (AV.int .i64 0)])
  bd102 : BuildT E 102 (AV.agg [(AV.int .i64 0), (AV.int .i64 0), (AV.int .i64 0), (AV.int .i64 0), AV.nils, AV.nils, (AV.int .i64 0), (AV.bool false), (AV.int .i64 0), (AV.int .i64 0)]) [(0, 4), (4, 1), (5, 1), (6, 1), (7, 1), (8, 1), (9, 1)]
  fa102_1 : FA E 102 1 4
  na100 : NA E 100
  fa23_1 : FA E 23 1 1
  u103 : E.under 103 = some (.slice 289)
  el289 : ElemT E 289 2 32 (AV.agg [(AV.int .i64 0), AV.nils])
  sz107 : E.size 107 = some 4
  fa107_1 : FA E 107 1 2
  sz103 : E.size 103 = some 1
  fa23_2 : FA E 23 2 2
  fa23_3 : FA E 23 3 3
  u94 : E.under 94 = some (.slice 99)
  sz99 : E.size 99 = some 3
  ag99 : AggT E 99
  z99 : E.zero 99 = some (AV.agg [(AV.int .i64 0), (AV.int .i64 0), (AV.int .i64 0)])
  fa99_1 : FA E 99 1 1
  fa99_2 : FA E 99 2 2
  fa99_0 : FA E 99 0 0
  el99 : ElemT E 99 3 24 (AV.agg [(AV.int .i64 0), (AV.int .i64 0), (AV.int .i64 0)])
  u39 : E.under 39 = some (.pointer 102)
  fa102_4 : FA E 102 4 7
  na4 : NA E 4
  u285 : E.under 285 = some (.pointer 107)
  z23 : E.zero 23 = some (AV.agg [(AV.int .i64 0), (AV.int .i64 0), (AV.int .i64 0), (AV.int .i64 0)])
  bd23 : BuildT E 23 (AV.agg [(AV.int .i64 0), (AV.int .i64 0), (AV.int .i64 0), (AV.int .i64 0)]) [(0, 1), (1, 1), (2, 1), (3, 1)]
  fa102_0 : FA E 102 0 0
  fa107_2 : FA E 107 2 3
  fa107_0 : FA E 107 0 0
  fa105_0 : FA E 105 0 0
  fa102_6 : FA E 102 6 9
  sz3 : E.size 3 = some 1
  fa105_1 : FA E 105 1 1
  sz4 : E.size 4 = some 1
  na103 : NA E 103
  u157 : E.under 157 = some (.slice 5)
  bd289 : BuildT E 289 (AV.agg [(AV.int .i64 0), AV.nils]) [(0, 1), (1, 1)]
  sz289 : E.size 289 = some 2
  fa289_1 : FA E 289 1 1
  sz157 : E.size 157 = some 1
  fa102_5 : FA E 102 5 8
  fa102_2 : FA E 102 2 5
  na94 : NA E 94
  fa102_3 : FA E 102 3 6
  bd99 : BuildT E 99 (AV.agg [(AV.int .i64 0), (AV.int .i64 0), (AV.int .i64 0)]) [(0, 1), (1, 1), (2, 1)]
  el5 : ElemT E 5 1 1 (AV.int .u8 0)
  bd374 : BuildT E 374 (AV.agg [AV.nilp, (AV.int .i64 0), (AV.int .i64 0), (AV.int .i64 0), (AV.int .i64 0)]) [(0, 1), (1, 4)]
  z122 : E.zero 122 = some AV.nils
  fa374_1 : FA E 374 1 1
  z156 : E.zero 156 = some (AV.agg [(AV.int .i64 0), (AV.int .i64 0), (AV.int .i64 0), (AV.int .i64 0), (AV.int .u64 0), (AV.bool false)])
  sz156 : E.size 156 = some 6
  na122 : NA E 122
  ag156 : AggT E 156
  u122 : E.under 122 = some (.slice 156)
  el156 : ElemT E 156 6 48 (AV.agg [(AV.int .i64 0), (AV.int .i64 0), (AV.int .i64 0), (AV.int .i64 0), (AV.int .u64 0), (AV.bool false)])
  u375 : E.under 375 = some (.slice 4)
  el4 : ElemT E 4 1 1 (AV.bool false)
  sz122 : E.size 122 = some 1
  fa156_1 : FA E 156 1 1
  fa156_0 : FA E 156 0 0
  z324 : E.zero 324 = some AV.nilm
  sz324 : E.size 324 = some 1
  na324 : NA E 324
  fa156_2 : FA E 156 2 2
  fa156_4 : FA E 156 4 4
  na54 : NA E 54
  bd156 : BuildT E 156 (AV.agg [(AV.int .i64 0), (AV.int .i64 0), (AV.int .i64 0), (AV.int .i64 0), (AV.int .u64 0), (AV.bool false)]) [(0, 1), (1, 1), (2, 1), (3, 1), (4, 1), (5, 1)]
  fa374_0 : FA E 374 0 0
  na39 : NA E 39
  z436 : E.zero 436 = some (AV.agg [(AV.int .i64 0), (AV.int .u64 0), (AV.int .i64 0)])
  sz436 : E.size 436 = some 3
  fa436_0 : FA E 436 0 0
  fa436_2 : FA E 436 2 2
  fa436_1 : FA E 436 1 1
  sz54 : E.size 54 = some 1
  fa156_3 : FA E 156 3 3
  fa156_5 : FA E 156 5 5
  z3 : E.zero 3 = some (AV.int .i64 0)
  bd124 : BuildT E 124 (AV.agg [AV.nilp, (AV.int .i64 0), (AV.int .i64 0), (AV.int .i64 0), (AV.int .i64 0), AV.nils, AV.nils, (AV.int .u64 0), (AV.bool false)]) [(0, 1), (1, 4), (5, 1), (6, 1), (7, 1), (8, 1)]
  fa124_1 : FA E 124 1 1
  u59 : E.under 59 = some (.slice 3)
  el3 : ElemT E 3 1 8 (AV.int .i64 0)
  fa124_3 : FA E 124 3 6
  sz59 : E.size 59 = some 1
  na59 : NA E 59
  fa124_4 : FA E 124 4 7
  fa124_2 : FA E 124 2 5
  ii63 : IsI E 63
  fa124_5 : FA E 124 5 8
  fa124_0 : FA E 124 0 0
  ni26 : NotI E 26
  u46 : E.under 46 = some (.pointer 124)
  na151 : NA E 151
  u151 : E.under 151 = some (.slice 157)
  z26 : E.zero 26 = some (AV.int .i64 0)
  ni146 : NotI E 146
  na26 : NA E 26
  u366 : E.under 366 = some (.slice 63)
  sz63 : E.size 63 = some 1
  na63 : NA E 63
  u3 : E.under 3 = some (.int .i64)
  u54 : E.under 54 = some (.int .u64)
  u5 : E.under 5 = some (.int .u8)
  u346 : E.under 346 = some (.int .u32)
  sz5 : E.size 5 = some 1
  na5 : NA E 5
  bd382 : BuildT E 382 (AV.agg [(AV.int .u8 0)]) [(0, 1)]
  ni380 : NotI E 380
  bd384 : BuildT E 384 (AV.agg [AV.nils]) [(0, 1)]
  bd237 : BuildT E 237 (AV.agg [AV.nilp, (AV.int .i64 0), AV.nils, (AV.int .i64 0), AV.nils, (AV.int .i64 0), (AV.bool false)]) [(0, 1), (1, 1), (2, 1), (3, 1), (4, 1), (5, 1), (6, 1)]
  fa237_3 : FA E 237 3 3
  fa237_2 : FA E 237 2 2
  na157 : NA E 157
  fa237_5 : FA E 237 5 5
  fa237_6 : FA E 237 6 6
  fa237_4 : FA E 237 4 4
  sz175 : E.size 175 = some 1
  na303 : NA E 303
  na304 : NA E 304
  bd180 : BuildT E 180 (AV.agg [(AV.int .i64 0), AV.nils]) [(0, 1), (1, 1)]
  u135 : E.under 135 = some (.pointer 237)
  na175 : NA E 175
  u175 : E.under 175 = some (.slice 180)
  sz180 : E.size 180 = some 2
  fa180_1 : FA E 180 1 1
  ag180 : AggT E 180
  el180 : ElemT E 180 2 32 (AV.agg [(AV.int .i64 0), AV.nils])
  fa75_0 : FA E 75 0 0
  fa75_1 : FA E 75 1 1
  na9 : NA E 9
  fa165_0 : FA E 165 0 0
  na46 : NA E 46
  ag75 : AggT E 75
  sz75 : E.size 75 = some 2
  el157 : ElemT E 157 1 24 AV.nils
  fa165_1 : FA E 165 1 1
  sz135 : E.size 135 = some 1
  fa165_2 : FA E 165 2 2
  fa165_3 : FA E 165 3 4
  u9 : E.under 9 = some .string
  bd165 : BuildT E 165 (AV.agg [AV.nilp, AV.nilp, (AV.int .u64 0), (AV.str []), (AV.int .i64 0)]) [(0, 1), (1, 1), (2, 2), (4, 1)]
  bd178 : BuildT E 178 (AV.agg [AV.nils]) [(0, 1)]
  fa178_0 : FA E 178 0 0
  z75 : E.zero 75 = some (AV.agg [(AV.int .u64 0), (AV.str [])])
  bd56 : BuildT E 56 (AV.agg [AV.nilp, AV.nilp, AV.nilp, AV.nilp, AV.nilp, AV.nilm, AV.nilm, AV.nilm, (AV.int .u64 0), (AV.int .i64 0)]) [(0, 1), (1, 1), (2, 1), (3, 1), (4, 1), (5, 1), (6, 1), (7, 1), (8, 1), (9, 1)]
  fa73_0 : FA E 73 0 0
  fa73_1 : FA E 73 1 1
  fa73_2 : FA E 73 2 2
  fa56_8 : FA E 56 8 8
  bd73 : BuildT E 73 (AV.agg [(AV.int .i64 0), (AV.int .i64 0), (AV.int .i64 0)]) [(0, 1), (1, 1), (2, 1)]
  bd75 : BuildT E 75 (AV.agg [(AV.int .u64 0), (AV.str [])]) [(0, 1), (1, 1)]
  fa56_1 : FA E 56 1 1
  sz47 : E.size 47 = some 1
  fa56_2 : FA E 56 2 2
  sz48 : E.size 48 = some 1
  fa56_3 : FA E 56 3 3
  sz49 : E.size 49 = some 1
  fa56_7 : FA E 56 7 7
  na53 : NA E 53
  na47 : NA E 47
  z73 : E.zero 73 = some (AV.agg [(AV.int .i64 0), (AV.int .i64 0), (AV.int .i64 0)])
  sz73 : E.size 73 = some 3
  ag73 : AggT E 73
  u25 : E.under 25 = some (.pointer 56)
  fa56_4 : FA E 56 4 4
  na50 : NA E 50
  fa56_9 : FA E 56 9 9
  fa56_0 : FA E 56 0 0
  bd114 : BuildT E 114 (AV.agg [(AV.int .i64 0), AV.nils, AV.nils, AV.nils, (AV.bool false)]) [(0, 1), (1, 1), (2, 1), (3, 1), (4, 1)]
  bd110 : BuildT E 110 (AV.agg [(AV.int .i64 0), AV.nilp, (AV.int .i64 0)]) [(0, 1), (1, 1), (2, 1)]
  u50 : E.under 50 = some (.pointer 110)
  fa110_1 : FA E 110 1 1
  na108 : NA E 108
  fa114_0 : FA E 114 0 0
  fa114_3 : FA E 114 3 3
  na112 : NA E 112
  u112 : E.under 112 = some (.slice 108)
  sz108 : E.size 108 = some 1
  fa114_2 : FA E 114 2 2
  na111 : NA E 111
  u111 : E.under 111 = some (.slice 9)
  sz9 : E.size 9 = some 1
  z24 : E.zero 24 = some AV.nils
  na24 : NA E 24
  fa88_0 : FA E 88 0 0
  u24 : E.under 24 = some (.slice 88)
  ag88 : AggT E 88
  sz88 : E.size 88 = some 3
  el88 : ElemT E 88 3 40 (AV.agg [(AV.str []), (AV.str []), (AV.bool false)])
  sz24 : E.size 24 = some 1
  fa114_1 : FA E 114 1 1
  u232 : E.under 232 = some (.int .u64)
  bd88 : BuildT E 88 (AV.agg [(AV.str []), (AV.str []), (AV.bool false)]) [(0, 1), (1, 1), (2, 1)]
  bd171 : BuildT E 171 (AV.agg [AV.nilp, AV.nilp, (AV.int .i64 0), (AV.int .i64 0), (AV.int .i64 0), AV.nilm]) [(0, 1), (1, 1), (2, 3), (5, 1)]
  bd137 : BuildT E 137 (AV.agg [AV.nilp, (AV.int .u64 0), AV.nils, AV.nilp]) [(0, 1), (1, 1), (2, 1), (3, 1)]
  fa439_1 : FA E 439 1 1
  bd439 : BuildT E 439 (AV.agg [(AV.int .i64 0), AV.nili]) [(0, 1), (1, 1)]
  ni437 : NotI E 437
  na49 : NA E 49
  z88 : E.zero 88 = some (AV.agg [(AV.str []), (AV.str []), (AV.bool false)])
  u84 : E.under 84 = some (.slice 91)
  sz91 : E.size 91 = some 2
  ag91 : AggT E 91
  u49 : E.under 49 = some (.pointer 137)
  fa88_1 : FA E 88 1 1
  z446 : E.zero 446 = some (AV.agg [(AV.int .u8 0), (AV.int .u8 0), (AV.int .u8 0), (AV.int .u8 0), (AV.int .u8 0), (AV.int .u8 0), (AV.int .u8 0), (AV.int .u8 0), (AV.int .u8 0), (AV.int .u8 0), (AV.int .u8 0), (AV.int .u8 0), (AV.int .u8 0), (AV.int .u8 0), (AV.int .u8 0), (AV.int .u8 0), (AV.int .u8 0), (AV.int .u8 0), (AV.int .u8 0), (AV.int .u8 0), (AV.int .u8 0), (AV.int .u8 0), (AV.int .u8 0), (AV.int .u8 0)])
  u2 : E.under 2 = some (.int .i64)
  bd436 : BuildT E 436 (AV.agg [(AV.int .i64 0), (AV.int .u64 0), (AV.int .i64 0)]) [(0, 1), (1, 1), (2, 1)]
  u4 : E.under 4 = some .bool
  f91 : E.funcs.get 91 = some Tryz.f91
  ag289 : AggT E 289
  z289 : E.zero 289 = some (AV.agg [(AV.int .i64 0), AV.nils])
  fa289_0 : FA E 289 0 0
  f244 : E.funcs.get 244 = some Tryz.f244
  z180 : E.zero 180 = some (AV.agg [(AV.int .i64 0), AV.nils])
  u53 : E.under 53 = some (.map 3 4)
noncomputable abbrev P := Go.Proofs.Tryz.prog
theorem facts_ok {cmp : Nat → Bool} {s : Nat → Option (List AV → AM → Option (AV × AM))} {G : Nat} : Facts (mkE P G cmp s) where
  f18 := mkE_func Tryz.func18
  f52 := mkE_func Tryz.func52
  f124 := mkE_func Tryz.func124
  f53 := mkE_func Tryz.func53
  f54 := mkE_func Tryz.func54
  f240 := mkE_func Tryz.func240
  f164 := mkE_func Tryz.func164
  f55 := mkE_func Tryz.func55
  f50 := mkE_func Tryz.func50
  f291 := mkE_func Tryz.func291
  f289 := mkE_func Tryz.func289
  f167 := mkE_func Tryz.func167
  f169 := mkE_func Tryz.func169
  f243 := mkE_func Tryz.func243
  f180 := mkE_func Tryz.func180
  f161 := mkE_func Tryz.func161
  f238 := mkE_func Tryz.func238
  f288 := mkE_func Tryz.func288
  f290 := mkE_func Tryz.func290
  f239 := mkE_func Tryz.func239
  f162 := mkE_func Tryz.func162
  f163 := mkE_func Tryz.func163
  f160 := mkE_func Tryz.func160
  f59 := mkE_func Tryz.func59
  f90 := mkE_func Tryz.func90
  f31 := mkE_func Tryz.func31
  f37 := mkE_func Tryz.func37
  f159 := mkE_func Tryz.func159
  f93 := mkE_func Tryz.func93
  f24 := mkE_func Tryz.func24
  f61 := mkE_func Tryz.func61
  f62 := mkE_func Tryz.func62
  f158 := mkE_func Tryz.func158
  f84 := mkE_func Tryz.func84
  f109 := mkE_func Tryz.func109
  f23 := mkE_func Tryz.func23
  f81 := mkE_func Tryz.func81
  f176 := mkE_func Tryz.func176
  f174 := mkE_func Tryz.func174
  f83 := mkE_func Tryz.func83
  f157 := mkE_func Tryz.func157
  f88 := mkE_func Tryz.func88
  f89 := mkE_func Tryz.func89
  f183 := mkE_func Tryz.func183
  f101 := mkE_func Tryz.func101
  f168 := mkE_func Tryz.func168
  f246 := mkE_func Tryz.func246
  f287 := mkE_func Tryz.func287
  f173 := mkE_func Tryz.func173
  f144 := mkE_func Tryz.func144
  f92 := mkE_func Tryz.func92
  f165 := mkE_func Tryz.func165
  f241 := mkE_func Tryz.func241
  f242 := mkE_func Tryz.func242
  f181 := mkE_func Tryz.func181
  f141 := mkE_func Tryz.func141
  f97 := mkE_func Tryz.func97
  f178 := mkE_func Tryz.func178
  f252 := mkE_func Tryz.func252
  f200 := mkE_func Tryz.func200
  f98 := mkE_func Tryz.func98
  f177 := mkE_func Tryz.func177
  f251 := mkE_func Tryz.func251
  f179 := mkE_func Tryz.func179
  f99 := mkE_func Tryz.func99
  f172 := mkE_func Tryz.func172
  f95 := mkE_func Tryz.func95
  f33 := mkE_func Tryz.func33
  f38 := mkE_func Tryz.func38
  f32 := mkE_func Tryz.func32
  f34 := mkE_func Tryz.func34
  f8 := mkE_func Tryz.func8
  f9 := mkE_func Tryz.func9
  f4 := mkE_func Tryz.func4
  f5 := mkE_func Tryz.func5
  f13 := mkE_func Tryz.func13
  f20 := mkE_func Tryz.func20
  f94 := mkE_func Tryz.func94
  f171 := mkE_func Tryz.func171
  f21 := mkE_func Tryz.func21
  f22 := mkE_func Tryz.func22
  f56 := mkE_func Tryz.func56
  f57 := mkE_func Tryz.func57
  f58 := mkE_func Tryz.func58
  f127 := mkE_func Tryz.func127
  f128 := mkE_func Tryz.func128
  f129 := mkE_func Tryz.func129
  f130 := mkE_func Tryz.func130
  f35 := mkE_func Tryz.func35
  f36 := mkE_func Tryz.func36
  f19 := mkE_func Tryz.func19
  f3 := mkE_func Tryz.func3
  f267 := mkE_func Tryz.func267
  f308 := mkE_func Tryz.func308
  f268 := mkE_func Tryz.func268
  f403 := mkE_func Tryz.func403
  f410 := mkE_func Tryz.func410
  f248 := mkE_func Tryz.func248
  f140 := mkE_func Tryz.func140
  f237 := mkE_func Tryz.func237
  f170 := mkE_func Tryz.func170
  f6 := mkE_func Tryz.func6
  f7 := mkE_func Tryz.func7
  f10 := mkE_func Tryz.func10
  f11 := mkE_func Tryz.func11
  f12 := mkE_func Tryz.func12
  f14 := mkE_func Tryz.func14
  f15 := mkE_func Tryz.func15
  f16 := mkE_func Tryz.func16
  f17 := mkE_func Tryz.func17
  f182 := mkE_func Tryz.func182
  f393 := mkE_func Tryz.func393
  f49 := mkE_func Tryz.func49
  f96 := mkE_func Tryz.func96
  f175 := mkE_func Tryz.func175
  f250 := mkE_func Tryz.func250
  f294 := mkE_func Tryz.func294
  f195 := mkE_func Tryz.func195
  f236 := mkE_func Tryz.func236
  f249 := mkE_func Tryz.func249
  ag23 := mkE_AggT (mkE_underN Tryz.type23 rfl Tryz.type22) rfl
  sz23 := mkE_size Tryz.type23
  fa23_0 := mkE_FA (mkE_underN Tryz.type23 rfl Tryz.type22) rfl rfl Tryz.type3 rfl
  na3 := mkE_NA (mkE_under0 Tryz.type3 rfl) rfl
  u100 := mkE_under0 Tryz.type100 rfl
  el107 := mkE_ElemT Tryz.type107 rfl (by kernel_rfl)
  bd102 := mkE_BuildT (mkE_zero Tryz.type102 rfl (by kernel_rfl)) (mkE_underN Tryz.type102 rfl Tryz.type101) (sizesOf_cons (mkE_size Tryz.type23) (sizesOf_cons (mkE_size Tryz.type100) (sizesOf_cons (mkE_size Tryz.type94) (sizesOf_cons (mkE_size Tryz.type3) (sizesOf_cons (mkE_size Tryz.type4) (sizesOf_cons (mkE_size Tryz.type3) (sizesOf_cons (mkE_size Tryz.type3) (sizesOf_nil))))))))
  fa102_1 := mkE_FA (mkE_underN Tryz.type102 rfl Tryz.type101) rfl rfl Tryz.type100 rfl
  na100 := mkE_NA (mkE_under0 Tryz.type100 rfl) rfl
  fa23_1 := mkE_FA (mkE_underN Tryz.type23 rfl Tryz.type22) rfl rfl Tryz.type3 rfl
  u103 := mkE_under0 Tryz.type103 rfl
  el289 := mkE_ElemT Tryz.type289 rfl (by kernel_rfl)
  sz107 := mkE_size Tryz.type107
  fa107_1 := mkE_FA (mkE_underN Tryz.type107 rfl Tryz.type106) rfl rfl Tryz.type103 rfl
  sz103 := mkE_size Tryz.type103
  fa23_2 := mkE_FA (mkE_underN Tryz.type23 rfl Tryz.type22) rfl rfl Tryz.type3 rfl
  fa23_3 := mkE_FA (mkE_underN Tryz.type23 rfl Tryz.type22) rfl rfl Tryz.type3 rfl
  u94 := mkE_under0 Tryz.type94 rfl
  sz99 := mkE_size Tryz.type99
  ag99 := mkE_AggT (mkE_underN Tryz.type99 rfl Tryz.type98) rfl
  z99 := mkE_zero Tryz.type99 rfl (by kernel_rfl)
  fa99_1 := mkE_FA (mkE_underN Tryz.type99 rfl Tryz.type98) rfl rfl Tryz.type3 rfl
  fa99_2 := mkE_FA (mkE_underN Tryz.type99 rfl Tryz.type98) rfl rfl Tryz.type3 rfl
  fa99_0 := mkE_FA (mkE_underN Tryz.type99 rfl Tryz.type98) rfl rfl Tryz.type3 rfl
  el99 := mkE_ElemT Tryz.type99 rfl (by kernel_rfl)
  u39 := mkE_under0 Tryz.type39 rfl
  fa102_4 := mkE_FA (mkE_underN Tryz.type102 rfl Tryz.type101) rfl rfl Tryz.type4 rfl
  na4 := mkE_NA (mkE_under0 Tryz.type4 rfl) rfl
  u285 := mkE_under0 Tryz.type285 rfl
  z23 := mkE_zero Tryz.type23 rfl (by kernel_rfl)
  bd23 := mkE_BuildT (mkE_zero Tryz.type23 rfl (by kernel_rfl)) (mkE_underN Tryz.type23 rfl Tryz.type22) (sizesOf_cons (mkE_size Tryz.type3) (sizesOf_cons (mkE_size Tryz.type3) (sizesOf_cons (mkE_size Tryz.type3) (sizesOf_cons (mkE_size Tryz.type3) (sizesOf_nil)))))
  fa102_0 := mkE_FA (mkE_underN Tryz.type102 rfl Tryz.type101) rfl rfl Tryz.type23 rfl
  fa107_2 := mkE_FA (mkE_underN Tryz.type107 rfl Tryz.type106) rfl rfl Tryz.type3 rfl
  fa107_0 := mkE_FA (mkE_underN Tryz.type107 rfl Tryz.type106) rfl rfl Tryz.type105 rfl
  fa105_0 := mkE_FA (mkE_underN Tryz.type105 rfl Tryz.type104) rfl rfl Tryz.type4 rfl
  fa102_6 := mkE_FA (mkE_underN Tryz.type102 rfl Tryz.type101) rfl rfl Tryz.type3 rfl
  sz3 := mkE_size Tryz.type3
  fa105_1 := mkE_FA (mkE_underN Tryz.type105 rfl Tryz.type104) rfl rfl Tryz.type3 rfl
  sz4 := mkE_size Tryz.type4
  na103 := mkE_NA (mkE_under0 Tryz.type103 rfl) rfl
  u157 := mkE_under0 Tryz.type157 rfl
  bd289 := mkE_BuildT (mkE_zero Tryz.type289 rfl (by kernel_rfl)) (mkE_underN Tryz.type289 rfl Tryz.type288) (sizesOf_cons (mkE_size Tryz.type3) (sizesOf_cons (mkE_size Tryz.type157) (sizesOf_nil)))
  sz289 := mkE_size Tryz.type289
  fa289_1 := mkE_FA (mkE_underN Tryz.type289 rfl Tryz.type288) rfl rfl Tryz.type157 rfl
  sz157 := mkE_size Tryz.type157
  fa102_5 := mkE_FA (mkE_underN Tryz.type102 rfl Tryz.type101) rfl rfl Tryz.type3 rfl
  fa102_2 := mkE_FA (mkE_underN Tryz.type102 rfl Tryz.type101) rfl rfl Tryz.type94 rfl
  na94 := mkE_NA (mkE_under0 Tryz.type94 rfl) rfl
  fa102_3 := mkE_FA (mkE_underN Tryz.type102 rfl Tryz.type101) rfl rfl Tryz.type3 rfl
  bd99 := mkE_BuildT (mkE_zero Tryz.type99 rfl (by kernel_rfl)) (mkE_underN Tryz.type99 rfl Tryz.type98) (sizesOf_cons (mkE_size Tryz.type3) (sizesOf_cons (mkE_size Tryz.type3) (sizesOf_cons (mkE_size Tryz.type3) (sizesOf_nil))))
  el5 := mkE_ElemT Tryz.type5 rfl (by kernel_rfl)
  bd374 := mkE_BuildT (mkE_zero Tryz.type374 rfl (by kernel_rfl)) (mkE_underN Tryz.type374 rfl Tryz.type373) (sizesOf_cons (mkE_size Tryz.type39) (sizesOf_cons (mkE_size Tryz.type23) (sizesOf_nil)))
  z122 := mkE_zero Tryz.type122 rfl (by kernel_rfl)
  fa374_1 := mkE_FA (mkE_underN Tryz.type374 rfl Tryz.type373) rfl rfl Tryz.type23 rfl
  z156 := mkE_zero Tryz.type156 rfl (by kernel_rfl)
  sz156 := mkE_size Tryz.type156
  na122 := mkE_NA (mkE_under0 Tryz.type122 rfl) rfl
  ag156 := mkE_AggT (mkE_underN Tryz.type156 rfl Tryz.type155) rfl
  u122 := mkE_under0 Tryz.type122 rfl
  el156 := mkE_ElemT Tryz.type156 rfl (by kernel_rfl)
  u375 := mkE_under0 Tryz.type375 rfl
  el4 := mkE_ElemT Tryz.type4 rfl (by kernel_rfl)
  sz122 := mkE_size Tryz.type122
  fa156_1 := mkE_FA (mkE_underN Tryz.type156 rfl Tryz.type155) rfl rfl Tryz.type3 rfl
  fa156_0 := mkE_FA (mkE_underN Tryz.type156 rfl Tryz.type155) rfl rfl Tryz.type3 rfl
  z324 := mkE_zero Tryz.type324 rfl (by kernel_rfl)
  sz324 := mkE_size Tryz.type324
  na324 := mkE_NA (mkE_under0 Tryz.type324 rfl) rfl
  fa156_2 := mkE_FA (mkE_underN Tryz.type156 rfl Tryz.type155) rfl rfl Tryz.type3 rfl
  fa156_4 := mkE_FA (mkE_underN Tryz.type156 rfl Tryz.type155) rfl rfl Tryz.type54 rfl
  na54 := mkE_NA (mkE_under0 Tryz.type54 rfl) rfl
  bd156 := mkE_BuildT (mkE_zero Tryz.type156 rfl (by kernel_rfl)) (mkE_underN Tryz.type156 rfl Tryz.type155) (sizesOf_cons (mkE_size Tryz.type3) (sizesOf_cons (mkE_size Tryz.type3) (sizesOf_cons (mkE_size Tryz.type3) (sizesOf_cons (mkE_size Tryz.type3) (sizesOf_cons (mkE_size Tryz.type54) (sizesOf_cons (mkE_size Tryz.type4) (sizesOf_nil)))))))
  fa374_0 := mkE_FA (mkE_underN Tryz.type374 rfl Tryz.type373) rfl rfl Tryz.type39 rfl
  na39 := mkE_NA (mkE_under0 Tryz.type39 rfl) rfl
  z436 := mkE_zero Tryz.type436 rfl (by kernel_rfl)
  sz436 := mkE_size Tryz.type436
  fa436_0 := mkE_FA (mkE_underN Tryz.type436 rfl Tryz.type435) rfl rfl Tryz.type3 rfl
  fa436_2 := mkE_FA (mkE_underN Tryz.type436 rfl Tryz.type435) rfl rfl Tryz.type3 rfl
  fa436_1 := mkE_FA (mkE_underN Tryz.type436 rfl Tryz.type435) rfl rfl Tryz.type54 rfl
  sz54 := mkE_size Tryz.type54
  fa156_3 := mkE_FA (mkE_underN Tryz.type156 rfl Tryz.type155) rfl rfl Tryz.type3 rfl
  fa156_5 := mkE_FA (mkE_underN Tryz.type156 rfl Tryz.type155) rfl rfl Tryz.type4 rfl
  z3 := mkE_zero Tryz.type3 rfl (by kernel_rfl)
  bd124 := mkE_BuildT (mkE_zero Tryz.type124 rfl (by kernel_rfl)) (mkE_underN Tryz.type124 rfl Tryz.type123) (sizesOf_cons (mkE_size Tryz.type39) (sizesOf_cons (mkE_size Tryz.type23) (sizesOf_cons (mkE_size Tryz.type122) (sizesOf_cons (mkE_size Tryz.type59) (sizesOf_cons (mkE_size Tryz.type54) (sizesOf_cons (mkE_size Tryz.type4) (sizesOf_nil)))))))
  fa124_1 := mkE_FA (mkE_underN Tryz.type124 rfl Tryz.type123) rfl rfl Tryz.type23 rfl
  u59 := mkE_under0 Tryz.type59 rfl
  el3 := mkE_ElemT Tryz.type3 rfl (by kernel_rfl)
  fa124_3 := mkE_FA (mkE_underN Tryz.type124 rfl Tryz.type123) rfl rfl Tryz.type59 rfl
  sz59 := mkE_size Tryz.type59
  na59 := mkE_NA (mkE_under0 Tryz.type59 rfl) rfl
  fa124_4 := mkE_FA (mkE_underN Tryz.type124 rfl Tryz.type123) rfl rfl Tryz.type54 rfl
  fa124_2 := mkE_FA (mkE_underN Tryz.type124 rfl Tryz.type123) rfl rfl Tryz.type122 rfl
  ii63 := mkE_IsI (mkE_underN Tryz.type63 rfl Tryz.type62) rfl
  fa124_5 := mkE_FA (mkE_underN Tryz.type124 rfl Tryz.type123) rfl rfl Tryz.type4 rfl
  fa124_0 := mkE_FA (mkE_underN Tryz.type124 rfl Tryz.type123) rfl rfl Tryz.type39 rfl
  ni26 := mkE_NotI (mkE_underN Tryz.type26 rfl Tryz.type3) rfl
  u46 := mkE_under0 Tryz.type46 rfl
  na151 := mkE_NA (mkE_under0 Tryz.type151 rfl) rfl
  u151 := mkE_under0 Tryz.type151 rfl
  z26 := mkE_zero Tryz.type26 rfl (by kernel_rfl)
  ni146 := mkE_NotI (mkE_under0 Tryz.type146 rfl) rfl
  na26 := mkE_NA (mkE_underN Tryz.type26 rfl Tryz.type3) rfl
  u366 := mkE_under0 Tryz.type366 rfl
  sz63 := mkE_size Tryz.type63
  na63 := mkE_NA (mkE_underN Tryz.type63 rfl Tryz.type62) rfl
  u3 := mkE_under0 Tryz.type3 rfl
  u54 := mkE_under0 Tryz.type54 rfl
  u5 := mkE_under0 Tryz.type5 rfl
  u346 := mkE_under0 Tryz.type346 rfl
  sz5 := mkE_size Tryz.type5
  na5 := mkE_NA (mkE_under0 Tryz.type5 rfl) rfl
  bd382 := mkE_BuildT (mkE_zero Tryz.type382 rfl (by kernel_rfl)) (mkE_underN Tryz.type382 rfl Tryz.type381) (sizesOf_cons (mkE_size Tryz.type5) (sizesOf_nil))
  ni380 := mkE_NotI (mkE_under0 Tryz.type380 rfl) rfl
  bd384 := mkE_BuildT (mkE_zero Tryz.type384 rfl (by kernel_rfl)) (mkE_underN Tryz.type384 rfl Tryz.type383) (sizesOf_cons (mkE_size Tryz.type157) (sizesOf_nil))
  bd237 := mkE_BuildT (mkE_zero Tryz.type237 rfl (by kernel_rfl)) (mkE_underN Tryz.type237 rfl Tryz.type236) (sizesOf_cons (mkE_size Tryz.type46) (sizesOf_cons (mkE_size Tryz.type3) (sizesOf_cons (mkE_size Tryz.type157) (sizesOf_cons (mkE_size Tryz.type3) (sizesOf_cons (mkE_size Tryz.type175) (sizesOf_cons (mkE_size Tryz.type3) (sizesOf_cons (mkE_size Tryz.type4) (sizesOf_nil))))))))
  fa237_3 := mkE_FA (mkE_underN Tryz.type237 rfl Tryz.type236) rfl rfl Tryz.type3 rfl
  fa237_2 := mkE_FA (mkE_underN Tryz.type237 rfl Tryz.type236) rfl rfl Tryz.type157 rfl
  na157 := mkE_NA (mkE_under0 Tryz.type157 rfl) rfl
  fa237_5 := mkE_FA (mkE_underN Tryz.type237 rfl Tryz.type236) rfl rfl Tryz.type3 rfl
  fa237_6 := mkE_FA (mkE_underN Tryz.type237 rfl Tryz.type236) rfl rfl Tryz.type4 rfl
  fa237_4 := mkE_FA (mkE_underN Tryz.type237 rfl Tryz.type236) rfl rfl Tryz.type175 rfl
  sz175 := mkE_size Tryz.type175
  na303 := mkE_NA (mkE_under0 Tryz.type303 rfl) rfl
  na304 := mkE_NA (mkE_under0 Tryz.type304 rfl) rfl
  bd180 := mkE_BuildT (mkE_zero Tryz.type180 rfl (by kernel_rfl)) (mkE_underN Tryz.type180 rfl Tryz.type179) (sizesOf_cons (mkE_size Tryz.type3) (sizesOf_cons (mkE_size Tryz.type157) (sizesOf_nil)))
  u135 := mkE_under0 Tryz.type135 rfl
  na175 := mkE_NA (mkE_under0 Tryz.type175 rfl) rfl
  u175 := mkE_under0 Tryz.type175 rfl
  sz180 := mkE_size Tryz.type180
  fa180_1 := mkE_FA (mkE_underN Tryz.type180 rfl Tryz.type179) rfl rfl Tryz.type157 rfl
  ag180 := mkE_AggT (mkE_underN Tryz.type180 rfl Tryz.type179) rfl
  el180 := mkE_ElemT Tryz.type180 rfl (by kernel_rfl)
  fa75_0 := mkE_FA (mkE_underN Tryz.type75 rfl Tryz.type74) rfl rfl Tryz.type54 rfl
  fa75_1 := mkE_FA (mkE_underN Tryz.type75 rfl Tryz.type74) rfl rfl Tryz.type9 rfl
  na9 := mkE_NA (mkE_under0 Tryz.type9 rfl) rfl
  fa165_0 := mkE_FA (mkE_underN Tryz.type165 rfl Tryz.type164) rfl rfl Tryz.type46 rfl
  na46 := mkE_NA (mkE_under0 Tryz.type46 rfl) rfl
  ag75 := mkE_AggT (mkE_underN Tryz.type75 rfl Tryz.type74) rfl
  sz75 := mkE_size Tryz.type75
  el157 := mkE_ElemT Tryz.type157 rfl (by kernel_rfl)
  fa165_1 := mkE_FA (mkE_underN Tryz.type165 rfl Tryz.type164) rfl rfl Tryz.type135 rfl
  sz135 := mkE_size Tryz.type135
  fa165_2 := mkE_FA (mkE_underN Tryz.type165 rfl Tryz.type164) rfl rfl Tryz.type75 rfl
  fa165_3 := mkE_FA (mkE_underN Tryz.type165 rfl Tryz.type164) rfl rfl Tryz.type3 rfl
  u9 := mkE_under0 Tryz.type9 rfl
  bd165 := mkE_BuildT (mkE_zero Tryz.type165 rfl (by kernel_rfl)) (mkE_underN Tryz.type165 rfl Tryz.type164) (sizesOf_cons (mkE_size Tryz.type46) (sizesOf_cons (mkE_size Tryz.type135) (sizesOf_cons (mkE_size Tryz.type75) (sizesOf_cons (mkE_size Tryz.type3) (sizesOf_nil)))))
  bd178 := mkE_BuildT (mkE_zero Tryz.type178 rfl (by kernel_rfl)) (mkE_underN Tryz.type178 rfl Tryz.type177) (sizesOf_cons (mkE_size Tryz.type175) (sizesOf_nil))
  fa178_0 := mkE_FA (mkE_underN Tryz.type178 rfl Tryz.type177) rfl rfl Tryz.type175 rfl
  z75 := mkE_zero Tryz.type75 rfl (by kernel_rfl)
  bd56 := mkE_BuildT (mkE_zero Tryz.type56 rfl (by kernel_rfl)) (mkE_underN Tryz.type56 rfl Tryz.type55) (sizesOf_cons (mkE_size Tryz.type46) (sizesOf_cons (mkE_size Tryz.type47) (sizesOf_cons (mkE_size Tryz.type48) (sizesOf_cons (mkE_size Tryz.type49) (sizesOf_cons (mkE_size Tryz.type50) (sizesOf_cons (mkE_size Tryz.type51) (sizesOf_cons (mkE_size Tryz.type52) (sizesOf_cons (mkE_size Tryz.type53) (sizesOf_cons (mkE_size Tryz.type54) (sizesOf_cons (mkE_size Tryz.type3) (sizesOf_nil)))))))))))
  fa73_0 := mkE_FA (mkE_underN Tryz.type73 rfl Tryz.type72) rfl rfl Tryz.type3 rfl
  fa73_1 := mkE_FA (mkE_underN Tryz.type73 rfl Tryz.type72) rfl rfl Tryz.type3 rfl
  fa73_2 := mkE_FA (mkE_underN Tryz.type73 rfl Tryz.type72) rfl rfl Tryz.type3 rfl
  fa56_8 := mkE_FA (mkE_underN Tryz.type56 rfl Tryz.type55) rfl rfl Tryz.type54 rfl
  bd73 := mkE_BuildT (mkE_zero Tryz.type73 rfl (by kernel_rfl)) (mkE_underN Tryz.type73 rfl Tryz.type72) (sizesOf_cons (mkE_size Tryz.type3) (sizesOf_cons (mkE_size Tryz.type3) (sizesOf_cons (mkE_size Tryz.type3) (sizesOf_nil))))
  bd75 := mkE_BuildT (mkE_zero Tryz.type75 rfl (by kernel_rfl)) (mkE_underN Tryz.type75 rfl Tryz.type74) (sizesOf_cons (mkE_size Tryz.type54) (sizesOf_cons (mkE_size Tryz.type9) (sizesOf_nil)))
  fa56_1 := mkE_FA (mkE_underN Tryz.type56 rfl Tryz.type55) rfl rfl Tryz.type47 rfl
  sz47 := mkE_size Tryz.type47
  fa56_2 := mkE_FA (mkE_underN Tryz.type56 rfl Tryz.type55) rfl rfl Tryz.type48 rfl
  sz48 := mkE_size Tryz.type48
  fa56_3 := mkE_FA (mkE_underN Tryz.type56 rfl Tryz.type55) rfl rfl Tryz.type49 rfl
  sz49 := mkE_size Tryz.type49
  fa56_7 := mkE_FA (mkE_underN Tryz.type56 rfl Tryz.type55) rfl rfl Tryz.type53 rfl
  na53 := mkE_NA (mkE_under0 Tryz.type53 rfl) rfl
  na47 := mkE_NA (mkE_under0 Tryz.type47 rfl) rfl
  z73 := mkE_zero Tryz.type73 rfl (by kernel_rfl)
  sz73 := mkE_size Tryz.type73
  ag73 := mkE_AggT (mkE_underN Tryz.type73 rfl Tryz.type72) rfl
  u25 := mkE_under0 Tryz.type25 rfl
  fa56_4 := mkE_FA (mkE_underN Tryz.type56 rfl Tryz.type55) rfl rfl Tryz.type50 rfl
  na50 := mkE_NA (mkE_under0 Tryz.type50 rfl) rfl
  fa56_9 := mkE_FA (mkE_underN Tryz.type56 rfl Tryz.type55) rfl rfl Tryz.type3 rfl
  fa56_0 := mkE_FA (mkE_underN Tryz.type56 rfl Tryz.type55) rfl rfl Tryz.type46 rfl
  bd114 := mkE_BuildT (mkE_zero Tryz.type114 rfl (by kernel_rfl)) (mkE_underN Tryz.type114 rfl Tryz.type113) (sizesOf_cons (mkE_size Tryz.type3) (sizesOf_cons (mkE_size Tryz.type111) (sizesOf_cons (mkE_size Tryz.type111) (sizesOf_cons (mkE_size Tryz.type112) (sizesOf_cons (mkE_size Tryz.type4) (sizesOf_nil))))))
  bd110 := mkE_BuildT (mkE_zero Tryz.type110 rfl (by kernel_rfl)) (mkE_underN Tryz.type110 rfl Tryz.type109) (sizesOf_cons (mkE_size Tryz.type3) (sizesOf_cons (mkE_size Tryz.type108) (sizesOf_cons (mkE_size Tryz.type3) (sizesOf_nil))))
  u50 := mkE_under0 Tryz.type50 rfl
  fa110_1 := mkE_FA (mkE_underN Tryz.type110 rfl Tryz.type109) rfl rfl Tryz.type108 rfl
  na108 := mkE_NA (mkE_under0 Tryz.type108 rfl) rfl
  fa114_0 := mkE_FA (mkE_underN Tryz.type114 rfl Tryz.type113) rfl rfl Tryz.type3 rfl
  fa114_3 := mkE_FA (mkE_underN Tryz.type114 rfl Tryz.type113) rfl rfl Tryz.type112 rfl
  na112 := mkE_NA (mkE_under0 Tryz.type112 rfl) rfl
  u112 := mkE_under0 Tryz.type112 rfl
  sz108 := mkE_size Tryz.type108
  fa114_2 := mkE_FA (mkE_underN Tryz.type114 rfl Tryz.type113) rfl rfl Tryz.type111 rfl
  na111 := mkE_NA (mkE_under0 Tryz.type111 rfl) rfl
  u111 := mkE_under0 Tryz.type111 rfl
  sz9 := mkE_size Tryz.type9
  z24 := mkE_zero Tryz.type24 rfl (by kernel_rfl)
  na24 := mkE_NA (mkE_under0 Tryz.type24 rfl) rfl
  fa88_0 := mkE_FA (mkE_underN Tryz.type88 rfl Tryz.type87) rfl rfl Tryz.type9 rfl
  u24 := mkE_under0 Tryz.type24 rfl
  ag88 := mkE_AggT (mkE_underN Tryz.type88 rfl Tryz.type87) rfl
  sz88 := mkE_size Tryz.type88
  el88 := mkE_ElemT Tryz.type88 rfl (by kernel_rfl)
  sz24 := mkE_size Tryz.type24
  fa114_1 := mkE_FA (mkE_underN Tryz.type114 rfl Tryz.type113) rfl rfl Tryz.type111 rfl
  u232 := mkE_under0 Tryz.type232 rfl
  bd88 := mkE_BuildT (mkE_zero Tryz.type88 rfl (by kernel_rfl)) (mkE_underN Tryz.type88 rfl Tryz.type87) (sizesOf_cons (mkE_size Tryz.type9) (sizesOf_cons (mkE_size Tryz.type9) (sizesOf_cons (mkE_size Tryz.type4) (sizesOf_nil))))
  bd171 := mkE_BuildT (mkE_zero Tryz.type171 rfl (by kernel_rfl)) (mkE_underN Tryz.type171 rfl Tryz.type170) (sizesOf_cons (mkE_size Tryz.type46) (sizesOf_cons (mkE_size Tryz.type169) (sizesOf_cons (mkE_size Tryz.type73) (sizesOf_cons (mkE_size Tryz.type168) (sizesOf_nil)))))
  bd137 := mkE_BuildT (mkE_zero Tryz.type137 rfl (by kernel_rfl)) (mkE_underN Tryz.type137 rfl Tryz.type136) (sizesOf_cons (mkE_size Tryz.type46) (sizesOf_cons (mkE_size Tryz.type54) (sizesOf_cons (mkE_size Tryz.type59) (sizesOf_cons (mkE_size Tryz.type135) (sizesOf_nil)))))
  fa439_1 := mkE_FA (mkE_underN Tryz.type439 rfl Tryz.type438) rfl rfl Tryz.type63 rfl
  bd439 := mkE_BuildT (mkE_zero Tryz.type439 rfl (by kernel_rfl)) (mkE_underN Tryz.type439 rfl Tryz.type438) (sizesOf_cons (mkE_size Tryz.type3) (sizesOf_cons (mkE_size Tryz.type63) (sizesOf_nil)))
  ni437 := mkE_NotI (mkE_under0 Tryz.type437 rfl) rfl
  na49 := mkE_NA (mkE_under0 Tryz.type49 rfl) rfl
  z88 := mkE_zero Tryz.type88 rfl (by kernel_rfl)
  u84 := mkE_under0 Tryz.type84 rfl
  sz91 := mkE_size Tryz.type91
  ag91 := mkE_AggT (mkE_underN Tryz.type91 rfl Tryz.type90) rfl
  u49 := mkE_under0 Tryz.type49 rfl
  fa88_1 := mkE_FA (mkE_underN Tryz.type88 rfl Tryz.type87) rfl rfl Tryz.type9 rfl
  z446 := mkE_zero Tryz.type446 rfl (by kernel_rfl)
  u2 := mkE_under0 Tryz.type2 rfl
  bd436 := mkE_BuildT (mkE_zero Tryz.type436 rfl (by kernel_rfl)) (mkE_underN Tryz.type436 rfl Tryz.type435) (sizesOf_cons (mkE_size Tryz.type3) (sizesOf_cons (mkE_size Tryz.type54) (sizesOf_cons (mkE_size Tryz.type3) (sizesOf_nil))))
  u4 := mkE_under0 Tryz.type4 rfl
  f91 := mkE_func Tryz.func91
  ag289 := mkE_AggT (mkE_underN Tryz.type289 rfl Tryz.type288) rfl
  z289 := mkE_zero Tryz.type289 rfl (by kernel_rfl)
  fa289_0 := mkE_FA (mkE_underN Tryz.type289 rfl Tryz.type288) rfl rfl Tryz.type3 rfl
  f244 := mkE_func Tryz.func244
  z180 := mkE_zero Tryz.type180 rfl (by kernel_rfl)
  u53 := mkE_under0 Tryz.type53 rfl
end Go.Abm.Seat

open Go Go.Abm Go.Abm.Seat
namespace Go.Abm
theorem crc1_lt {s : Nat} (h : s < maxOf .u32) : crc1 s < maxOf .u32 := by
  unfold crc1
  have h2 : s / 2 < maxOf .u32 := by omega
  cases Nat.beq (Nat.land s 1) 1 with
  | true => exact xor_lt (k := .u32) h2 (by decide)
  | false => exact h2
theorem crcN_lt {s : Nat} (h : s < maxOf .u32) : ∀ n, crcN n s < maxOf .u32
  | 0 => h
  | n + 1 => crc1_lt (crcN_lt h n)
theorem crcL_lt : ∀ (l : List Nat) (s : Nat), s < maxOf .u32 → (∀ c ∈ l, c < 256) → crcL l s < maxOf .u32
  | [], s, h, _ => h
  | c :: l, s, h, hc => crcL_lt l _ (crcN_lt (xor_lt h (Nat.lt_trans (hc c (by simp)) (by decide))) 8) (fun x hx => hc x (by simp [hx]))
theorem bytesOf_get : ∀ (l : List AV) (bs : List Nat), bytesOf l = some bs → l.length = bs.length ∧ ∀ (i c : Nat), bs[i]? = some c → c < 256 ∧ l[i]? = some (AV.int .u8 (.ofNat c))
  | [], bs, h => by cases h; exact ⟨rfl, fun i c h => by simp at h⟩
  | v :: l, bs, h => by
    unfold bytesOf at h
    split at h
    · rename_i e; cases e
    · rename_i n l' e
      cases e
      obtain ⟨h1, h2⟩ := cond_some_inv h
      obtain ⟨bs', h3, rfl⟩ := map_some_inv h2
      obtain ⟨h4, h5⟩ := bytesOf_get l bs' h3
      refine ⟨by simp [h4], fun i c hc => ?_⟩
      cases i with
      | zero => simp at hc; subst hc; exact ⟨blt_of h1, rfl⟩
      | succ i => simp at hc; have := h5 i c hc; exact ⟨this.1, by simpa using this.2⟩
    · cases h
end Go.Abm
set_option maxRecDepth 100000
namespace Go.Abm.Seat
theorem bsum_ok {E : Env} (F : Facts E) (hs : E.sums 248 = none) (M : AM) (b off len cap : Nat) (gr) (l : List AV) (bs : List Nat) (ro fz) (hm : M.get b = some (.cells l ro fz)) (hl : off + len ≤ l.length) (hlen : len ≤ maxI)
  (hb : bytesOf ((l.drop off).take len) = some bs) (Q : KC) (hQ : Q (.ret (.int .u32 (.ofNat (Nat.xor 4294967295 (crcL bs 4294967295))))) M) : CallsTo E 248 [.sl b off len cap gr] M Q := by
  obtain ⟨hb1, hb2⟩ := bytesOf_get _ _ hb
  have hbl : bs.length = len := by rw [← hb1, List.length_take, List.length_drop]; omega
  have hbc : ∀ c ∈ bs, c < 256 := fun c hc => by
    obtain ⟨i, hi⟩ := List.getElem?_of_mem hc
    exact (hb2 i c hi).1
  have hlt : ∀ i, crcL (bs.take i) 4294967295 < maxOf .u32 := fun i => crcL_lt _ _ (by decide) (fun c hc => hbc c (List.mem_of_mem_take hc))
  refine call_rule F.f248 rfl hs ?_
  repeat first | refine w_seq ?_ | refine w_region ?_ | refine w_val rfl rfl rfl rfl ?_ | refine w_valg rfl rfl rfl rfl ?_ | refine w_nil ?_ | refine k_seq ?_ | refine w_skip ?_ | refine w_block ?_ | refine w_exit ?_ | refine k_exit ?_ | refine b_here ?_ | refine b_normal ?_ | refine w_ret ?_ | refine k_ret ?_ | refine b_ret ?_
  refine w_val rfl rfl rfl (e_len_sl rfl rfl rfl rfl F.u157) ?_
  repeat first | refine w_seq ?_ | refine w_region ?_ | refine w_val rfl rfl rfl rfl ?_ | refine w_valg rfl rfl rfl rfl ?_ | refine w_nil ?_ | refine k_seq ?_ | refine w_skip ?_ | refine w_block ?_ | refine w_exit ?_ | refine k_exit ?_ | refine b_here ?_ | refine b_normal ?_ | refine w_ret ?_ | refine k_ret ?_ | refine b_ret ?_
  refine w_loop ?_
  refine loop_inv (fun k ρ D M' => D = [] ∧ M' = M ∧ ∃ i, k = len - i ∧ i ≤ len ∧ ρ 6 = some (.sl b off len cap gr) ∧ ρ 7 = some (.int .i64 (.ofNat len)) ∧ ρ 8 = some (.int .i64 (.ofNat i)) ∧
    ρ 3 = some (.int .u32 (.ofNat (crcL (bs.take i) 4294967295)))) ?_ len _ _ _ ⟨rfl, rfl, 0, rfl, Nat.zero_le _, rfl, rfl, rfl, rfl⟩
  rintro k ρ D M' ⟨rfl, rfl, i, rfl, hi, h6, h7, h8, h3⟩
  repeat first | refine w_seq ?_ | refine w_region ?_ | refine w_val rfl rfl rfl rfl ?_ | refine w_valg rfl rfl rfl rfl ?_ | refine w_nil ?_ | refine k_seq ?_ | refine w_skip ?_ | refine w_block ?_ | refine w_exit ?_ | refine k_exit ?_ | refine b_here ?_ | refine b_normal ?_ | refine w_ret ?_ | refine k_ret ?_ | refine b_ret ?_
  refine w_val rfl rfl rfl (e_lss64 h8 h7) ?_
  repeat first | refine w_seq ?_ | refine w_region ?_ | refine w_val rfl rfl rfl rfl ?_ | refine w_valg rfl rfl rfl rfl ?_ | refine w_nil ?_ | refine k_seq ?_ | refine w_skip ?_ | refine w_block ?_ | refine w_exit ?_ | refine k_exit ?_ | refine b_here ?_ | refine b_normal ?_ | refine w_ret ?_ | refine k_ret ?_ | refine b_ret ?_
  refine w_cond rfl (fun h => ?_) (fun h => ?_)
  case refine_2 =>
    -- the end
    have he : i = len := by have := of_decide_eq_false h; omega
    subst he
    repeat first | refine w_seq ?_ | refine w_region ?_ | refine w_val rfl rfl rfl rfl ?_ | refine w_valg rfl rfl rfl rfl ?_ | refine w_nil ?_ | refine k_seq ?_ | refine w_skip ?_ | refine w_block ?_ | refine w_exit ?_ | refine k_exit ?_ | refine b_here ?_ | refine b_normal ?_ | refine w_ret ?_ | refine k_ret ?_ | refine b_ret ?_
    refine w_val rfl rfl rfl (e_move h3) ?_
    refine w_val rfl rfl rfl (e_inv rfl (hlt _)) ?_
    repeat first | refine w_seq ?_ | refine w_region ?_ | refine w_val rfl rfl rfl rfl ?_ | refine w_valg rfl rfl rfl rfl ?_ | refine w_nil ?_ | refine k_seq ?_ | refine w_skip ?_ | refine w_block ?_ | refine w_exit ?_ | refine k_exit ?_ | refine b_here ?_ | refine b_normal ?_ | refine w_ret ?_ | refine k_ret ?_ | refine b_ret ?_
    refine ⟨_, rfl, ?_⟩
    rw [List.take_of_length_le (by omega)]
    exact hQ
  repeat first | refine w_seq ?_ | refine w_region ?_ | refine w_val rfl rfl rfl rfl ?_ | refine w_valg rfl rfl rfl rfl ?_ | refine w_nil ?_ | refine k_seq ?_ | refine w_skip ?_ | refine w_block ?_ | refine w_exit ?_ | refine k_exit ?_ | refine b_here ?_ | refine b_normal ?_ | refine w_ret ?_ | refine k_ret ?_ | refine b_ret ?_
  have hlt' : i < len := of_decide_eq_true h
  obtain ⟨c, hc⟩ : ∃ c, bs[i]? = some c := ⟨bs[i]'(by omega), List.getElem?_eq_getElem _⟩
  obtain ⟨hc1, hc2⟩ := hb2 i c hc
  have hc3 : l[off + i * 1]? = some (AV.int .u8 (.ofNat c)) := by
    rw [List.getElem?_take, if_pos hlt', List.getElem?_drop] at hc2
    simpa using hc2
  have hs := hlt i
  have hcm : c < maxOf .u32 := Nat.lt_trans hc1 (by decide)
  repeat first | refine w_seq ?_ | refine w_region ?_ | refine w_val rfl rfl rfl rfl ?_ | refine w_valg rfl rfl rfl rfl ?_ | refine w_nil ?_ | refine k_seq ?_ | refine w_skip ?_ | refine w_block ?_ | refine w_exit ?_ | refine k_exit ?_ | refine b_here ?_ | refine b_normal ?_ | refine w_ret ?_ | refine k_ret ?_ | refine b_ret ?_
  refine w_val rfl rfl rfl (e_indexAddr h6 h8 F.u157 F.sz5 hlt') ?_
  refine w_val rfl rfl rfl (e_load rfl F.u5 rfl hm hc3) ?_
  repeat first | refine w_seq ?_ | refine w_region ?_ | refine w_val rfl rfl rfl rfl ?_ | refine w_valg rfl rfl rfl rfl ?_ | refine w_nil ?_ | refine k_seq ?_ | refine w_skip ?_ | refine w_block ?_ | refine w_exit ?_ | refine k_exit ?_ | refine b_here ?_ | refine b_normal ?_ | refine w_ret ?_ | refine k_ret ?_ | refine b_ret ?_
  refine w_val rfl rfl rfl (e_move h3) ?_
  repeat first | refine w_seq ?_ | refine w_region ?_ | refine w_val rfl rfl rfl rfl ?_ | refine w_valg rfl rfl rfl rfl ?_ | refine w_nil ?_ | refine k_seq ?_ | refine w_skip ?_ | refine w_block ?_ | refine w_exit ?_ | refine k_exit ?_ | refine b_here ?_ | refine b_normal ?_ | refine w_ret ?_ | refine k_ret ?_ | refine b_ret ?_
  refine w_val rfl rfl rfl (e_conv_int rfl F.u5 F.u346) ?_
  rw [wrap_u hcm]
  refine w_val rfl rfl rfl (e_xor rfl rfl hs hcm) ?_
  repeat first | refine w_seq ?_ | refine w_region ?_ | refine w_val rfl rfl rfl rfl ?_ | refine w_valg rfl rfl rfl rfl ?_ | refine w_nil ?_ | refine k_seq ?_ | refine w_skip ?_ | refine w_block ?_ | refine w_exit ?_ | refine k_exit ?_ | refine b_here ?_ | refine b_normal ?_ | refine w_ret ?_ | refine k_ret ?_ | refine b_ret ?_
  refine w_loop ?_
  have hx := xor_lt (k := .u32) hs hcm
  refine loop_inv (fun k ρ D M2 => D = [] ∧ M2 = M' ∧ ∃ j, k = 8 - j ∧ j ≤ 8 ∧ ρ 6 = some (.sl b off len cap gr) ∧ ρ 7 = some (.int .i64 (.ofNat len)) ∧ ρ 8 = some (.int .i64 (.ofNat i)) ∧ ρ 16 = some (.int .i64 (.ofNat j)) ∧
    ρ 3 = some (.int .u32 (.ofNat (crcN j (Nat.xor (crcL (bs.take i) 4294967295) c))))) ?_ 8 _ _ _ ⟨rfl, rfl, 0, rfl, Nat.zero_le _, h6, h7, h8, rfl, rfl⟩
  clear h6 h7 h8 h3
  rintro k ρ D M' ⟨rfl, rfl, j, rfl, hj, h6, h7, h8, h16, h3⟩
  have hr := crcN_lt hx j
  repeat first | refine w_seq ?_ | refine w_region ?_ | refine w_val rfl rfl rfl rfl ?_ | refine w_valg rfl rfl rfl rfl ?_ | refine w_nil ?_ | refine k_seq ?_ | refine w_skip ?_ | refine w_block ?_ | refine w_exit ?_ | refine k_exit ?_ | refine b_here ?_ | refine b_normal ?_ | refine w_ret ?_ | refine k_ret ?_ | refine b_ret ?_
  refine w_val rfl rfl rfl (e_lss64 (b := 8) h16 rfl) ?_
  repeat first | refine w_seq ?_ | refine w_region ?_ | refine w_val rfl rfl rfl rfl ?_ | refine w_valg rfl rfl rfl rfl ?_ | refine w_nil ?_ | refine k_seq ?_ | refine w_skip ?_ | refine w_block ?_ | refine w_exit ?_ | refine k_exit ?_ | refine b_here ?_ | refine b_normal ?_ | refine w_ret ?_ | refine k_ret ?_ | refine b_ret ?_
  refine w_cond rfl (fun h => ?_) (fun h => ?_)
  case refine_2 =>
    have he : j = 8 := by have := of_decide_eq_false h; omega
    subst he
    repeat first | refine w_seq ?_ | refine w_region ?_ | refine w_val rfl rfl rfl rfl ?_ | refine w_valg rfl rfl rfl rfl ?_ | refine w_nil ?_ | refine k_seq ?_ | refine w_skip ?_ | refine w_block ?_ | refine w_exit ?_ | refine k_exit ?_ | refine b_here ?_ | refine b_normal ?_ | refine w_ret ?_ | refine k_ret ?_ | refine b_ret ?_
    refine w_val rfl rfl rfl (e_add64 (b := 1) h8 rfl (by unfold maxI at hlen; omega)) ?_
    repeat first | refine w_seq ?_ | refine w_region ?_ | refine w_val rfl rfl rfl rfl ?_ | refine w_valg rfl rfl rfl rfl ?_ | refine w_nil ?_ | refine k_seq ?_ | refine w_skip ?_ | refine w_block ?_ | refine w_exit ?_ | refine k_exit ?_ | refine b_here ?_ | refine b_normal ?_ | refine w_ret ?_ | refine k_ret ?_ | refine b_ret ?_
    refine (⟨len - (i + 1), by omega, rfl, rfl, i + 1, rfl, by omega, h6, h7, rfl, ?_⟩)
    rw [List.take_add_one, hc]
    simp only [Option.toList_some, crcL, List.foldl_append, List.foldl_cons, List.foldl_nil]
    exact h3
  repeat first | refine w_seq ?_ | refine w_region ?_ | refine w_val rfl rfl rfl rfl ?_ | refine w_valg rfl rfl rfl rfl ?_ | refine w_nil ?_ | refine k_seq ?_ | refine w_skip ?_ | refine w_block ?_ | refine w_exit ?_ | refine k_exit ?_ | refine b_here ?_ | refine b_normal ?_ | refine w_ret ?_ | refine k_ret ?_ | refine b_ret ?_
  have hj' : j < 8 := of_decide_eq_true h
  repeat first | refine w_seq ?_ | refine w_region ?_ | refine w_val rfl rfl rfl rfl ?_ | refine w_valg rfl rfl rfl rfl ?_ | refine w_nil ?_ | refine k_seq ?_ | refine w_skip ?_ | refine w_block ?_ | refine w_exit ?_ | refine k_exit ?_ | refine b_here ?_ | refine b_normal ?_ | refine w_ret ?_ | refine k_ret ?_ | refine b_ret ?_
  refine w_val rfl rfl rfl (e_move h3) ?_
  refine w_val rfl rfl rfl (e_and rfl rfl hr (by decide)) ?_
  repeat first | refine w_seq ?_ | refine w_region ?_ | refine w_val rfl rfl rfl rfl ?_ | refine w_valg rfl rfl rfl rfl ?_ | refine w_nil ?_ | refine k_seq ?_ | refine w_skip ?_ | refine w_block ?_ | refine w_exit ?_ | refine k_exit ?_ | refine b_here ?_ | refine b_normal ?_ | refine w_ret ?_ | refine k_ret ?_ | refine b_ret ?_
  have hh : crcN j (Nat.xor (crcL (bs.take i) 4294967295) c) / 2 < maxOf .u32 := by omega
  refine w_cond rfl (fun h => ?_) (fun h => ?_)
  · repeat first | refine w_seq ?_ | refine w_region ?_ | refine w_val rfl rfl rfl rfl ?_ | refine w_valg rfl rfl rfl rfl ?_ | refine w_nil ?_ | refine k_seq ?_ | refine w_skip ?_ | refine w_block ?_ | refine w_exit ?_ | refine k_exit ?_ | refine b_here ?_ | refine b_normal ?_ | refine w_ret ?_ | refine k_ret ?_ | refine b_ret ?_
    refine w_val rfl rfl rfl (e_move h3) ?_
    refine w_val rfl rfl rfl (e_shr rfl rfl (by decide)) ?_
    refine w_val rfl rfl rfl (e_xor rfl rfl hh (by decide)) ?_
    repeat first | refine w_seq ?_ | refine w_region ?_ | refine w_val rfl rfl rfl rfl ?_ | refine w_valg rfl rfl rfl rfl ?_ | refine w_nil ?_ | refine k_seq ?_ | refine w_skip ?_ | refine w_block ?_ | refine w_exit ?_ | refine k_exit ?_ | refine b_here ?_ | refine b_normal ?_ | refine w_ret ?_ | refine k_ret ?_ | refine b_ret ?_
    refine w_val rfl rfl rfl (e_add64 (b := 1) h16 rfl (by omega)) ?_
    repeat first | refine w_seq ?_ | refine w_region ?_ | refine w_val rfl rfl rfl rfl ?_ | refine w_valg rfl rfl rfl rfl ?_ | refine w_nil ?_ | refine k_seq ?_ | refine w_skip ?_ | refine w_block ?_ | refine w_exit ?_ | refine k_exit ?_ | refine b_here ?_ | refine b_normal ?_ | refine w_ret ?_ | refine k_ret ?_ | refine b_ret ?_
    refine (⟨8 - (j + 1), by omega, rfl, rfl, j + 1, rfl, by omega, h6, h7, h8, rfl, ?_⟩)
    have h' : Nat.beq (Nat.land (crcN j (Nat.xor (crcL (bs.take i) 4294967295) c)) 1) 1 = true := h
    show some (AV.int .u32 (.ofNat _)) = _
    rw [show crcN (j + 1) _ = crc1 (crcN j _) from rfl, crc1, h']
    rfl
  · repeat first | refine w_seq ?_ | refine w_region ?_ | refine w_val rfl rfl rfl rfl ?_ | refine w_valg rfl rfl rfl rfl ?_ | refine w_nil ?_ | refine k_seq ?_ | refine w_skip ?_ | refine w_block ?_ | refine w_exit ?_ | refine k_exit ?_ | refine b_here ?_ | refine b_normal ?_ | refine w_ret ?_ | refine k_ret ?_ | refine b_ret ?_
    refine w_val rfl rfl rfl (e_move h3) ?_
    refine w_val rfl rfl rfl (e_shr rfl rfl (by decide)) ?_
    repeat first | refine w_seq ?_ | refine w_region ?_ | refine w_val rfl rfl rfl rfl ?_ | refine w_valg rfl rfl rfl rfl ?_ | refine w_nil ?_ | refine k_seq ?_ | refine w_skip ?_ | refine w_block ?_ | refine w_exit ?_ | refine k_exit ?_ | refine b_here ?_ | refine b_normal ?_ | refine w_ret ?_ | refine k_ret ?_ | refine b_ret ?_
    refine w_val rfl rfl rfl (e_add64 (b := 1) h16 rfl (by omega)) ?_
    repeat first | refine w_seq ?_ | refine w_region ?_ | refine w_val rfl rfl rfl rfl ?_ | refine w_valg rfl rfl rfl rfl ?_ | refine w_nil ?_ | refine k_seq ?_ | refine w_skip ?_ | refine w_block ?_ | refine w_exit ?_ | refine k_exit ?_ | refine b_here ?_ | refine b_normal ?_ | refine w_ret ?_ | refine k_ret ?_ | refine b_ret ?_
    refine (⟨8 - (j + 1), by omega, rfl, rfl, j + 1, rfl, by omega, h6, h7, h8, rfl, ?_⟩)
    have h' : Nat.beq (Nat.land (crcN j (Nat.xor (crcL (bs.take i) 4294967295) c)) 1) 1 = false := h
    show some (AV.int .u32 (.ofNat _)) = _
    rw [show crcN (j + 1) _ = crc1 (crcN j _) from rfl, crc1, h']
    rfl
end Go.Abm.Seat

open Go Go.Abm
set_option maxRecDepth 100000
namespace Go.Abm.Seat
theorem at_ok {E : Env} (F : Facts E) (hs : E.sums 240 = none) (M : AM) (c o n bb bo bl bc : Nat) (bg : Option Nat) (cl : List AV) (ro fz : Bool)
    (hm : M.get c = some (.cells cl ro fz)) (hb : cl[o + 4]? = some (.sl bb bo bl bc bg)) (hn : n < bl) (Q : KC) (hQ : Q (.ret (.ptr bb (bo + n * 4))) M) :
    CallsTo E 240 [.ptr c o, .int .i64 (.ofNat n)] M Q := by
  refine call_rule F.f240 rfl hs ?_
  repeat first | refine w_seq ?_ | refine w_region ?_ | refine w_val rfl rfl rfl rfl ?_ | refine w_valg rfl rfl rfl rfl ?_ | refine w_nil ?_ | refine k_seq ?_ | refine w_skip ?_ | refine w_block ?_ | refine w_exit ?_ | refine k_exit ?_ | refine b_here ?_ | refine b_normal ?_ | refine w_ret ?_ | refine k_ret ?_ | refine b_ret ?_
  refine w_val rfl rfl rfl (e_eqlp rfl rfl F.u39) ?_
  repeat first | refine w_seq ?_ | refine w_region ?_ | refine w_val rfl rfl rfl rfl ?_ | refine w_valg rfl rfl rfl rfl ?_ | refine w_nil ?_ | refine k_seq ?_ | refine w_skip ?_ | refine w_block ?_ | refine w_exit ?_ | refine k_exit ?_ | refine b_here ?_ | refine b_normal ?_ | refine w_ret ?_ | refine k_ret ?_ | refine b_ret ?_
  refine w_valg rfl rfl rfl (e_fa rfl F.fa102_1) ?_
  refine w_valg rfl rfl rfl (e_load rfl F.u100 rfl hm hb) ?_
  refine w_valg rfl rfl rfl (e_len_sl rfl rfl rfl rfl F.u100) ?_
  repeat first | refine w_seq ?_ | refine w_region ?_ | refine w_val rfl rfl rfl rfl ?_ | refine w_valg rfl rfl rfl rfl ?_ | refine w_nil ?_ | refine k_seq ?_ | refine w_skip ?_ | refine w_block ?_ | refine w_exit ?_ | refine k_exit ?_ | refine b_here ?_ | refine b_normal ?_ | refine w_ret ?_ | refine k_ret ?_ | refine b_ret ?_
  refine w_false (bool_nilt_f hn) ?_
  repeat first | refine w_seq ?_ | refine w_region ?_ | refine w_val rfl rfl rfl rfl ?_ | refine w_valg rfl rfl rfl rfl ?_ | refine w_nil ?_ | refine k_seq ?_ | refine w_skip ?_ | refine w_block ?_ | refine w_exit ?_ | refine k_exit ?_ | refine b_here ?_ | refine b_normal ?_ | refine w_ret ?_ | refine k_ret ?_ | refine b_ret ?_
  refine w_val rfl rfl rfl (e_fa rfl F.fa102_1) ?_
  refine w_val rfl rfl rfl (e_load rfl F.u100 rfl hm hb) ?_
  refine w_val rfl rfl rfl rfl ?_
  refine w_val rfl rfl rfl (e_indexAddr rfl rfl F.u100 F.sz107 hn) ?_
  repeat first | refine w_seq ?_ | refine w_region ?_ | refine w_val rfl rfl rfl rfl ?_ | refine w_valg rfl rfl rfl rfl ?_ | refine w_nil ?_ | refine k_seq ?_ | refine w_skip ?_ | refine w_block ?_ | refine w_exit ?_ | refine k_exit ?_ | refine b_here ?_ | refine b_normal ?_ | refine w_ret ?_ | refine k_ret ?_ | refine b_ret ?_
  exact ⟨_, rfl, hQ⟩
theorem ready_ok {E : Env} (F : Facts E) (hs : E.sums 240 = none) (hs2 : E.sums 164 = none) (M : AM) (c o n bb bo bl bc : Nat) (bg : Option Nat) (cl : List AV) (ro fz : Bool)
    (hm : M.get c = some (.cells cl ro fz)) (hb : cl[o + 4]? = some (.sl bb bo bl bc bg)) (hoff : cl[o + 7]? = some (.bool false)) (hn : n < bl) (Q : KC)
    (hQ : Q (.ret (.tup [.ptr bb (bo + n * 4), .int .i64 0])) M) :
    CallsTo E 164 [.ptr c o, .int .i64 (.ofNat n)] M Q := by
  refine call_rule F.f164 rfl hs2 ?_
  repeat first | refine w_seq ?_ | refine w_region ?_ | refine w_val rfl rfl rfl rfl ?_ | refine w_valg rfl rfl rfl rfl ?_ | refine w_nil ?_ | refine k_seq ?_ | refine w_skip ?_ | refine w_block ?_ | refine w_exit ?_ | refine k_exit ?_ | refine b_here ?_ | refine b_normal ?_ | refine w_ret ?_ | refine k_ret ?_ | refine b_ret ?_
  refine w_callr rfl rfl rfl (e_call rfl rfl F.f240 rfl) (at_ok F hs M c o n bb bo bl bc bg cl ro fz hm hb hn _ ⟨rfl, rfl⟩) ?_
  repeat first | refine w_seq ?_ | refine w_region ?_ | refine w_val rfl rfl rfl rfl ?_ | refine w_valg rfl rfl rfl rfl ?_ | refine w_nil ?_ | refine k_seq ?_ | refine w_skip ?_ | refine w_block ?_ | refine w_exit ?_ | refine k_exit ?_ | refine b_here ?_ | refine b_normal ?_ | refine w_ret ?_ | refine k_ret ?_ | refine b_ret ?_
  refine w_val rfl rfl rfl (e_eqlp rfl rfl F.u39) ?_
  repeat first | refine w_seq ?_ | refine w_region ?_ | refine w_val rfl rfl rfl rfl ?_ | refine w_valg rfl rfl rfl rfl ?_ | refine w_nil ?_ | refine k_seq ?_ | refine w_skip ?_ | refine w_block ?_ | refine w_exit ?_ | refine k_exit ?_ | refine b_here ?_ | refine b_normal ?_ | refine w_ret ?_ | refine k_ret ?_ | refine b_ret ?_
  refine w_false rfl ?_
  repeat first | refine w_seq ?_ | refine w_region ?_ | refine w_val rfl rfl rfl rfl ?_ | refine w_valg rfl rfl rfl rfl ?_ | refine w_nil ?_ | refine k_seq ?_ | refine w_skip ?_ | refine w_block ?_ | refine w_exit ?_ | refine k_exit ?_ | refine b_here ?_ | refine b_normal ?_ | refine w_ret ?_ | refine k_ret ?_ | refine b_ret ?_
  refine w_val rfl rfl rfl (e_fa rfl F.fa102_4) ?_
  refine w_val rfl rfl rfl (e_load rfl F.u4 rfl hm hoff) ?_
  repeat first | refine w_seq ?_ | refine w_region ?_ | refine w_val rfl rfl rfl rfl ?_ | refine w_valg rfl rfl rfl rfl ?_ | refine w_nil ?_ | refine k_seq ?_ | refine w_skip ?_ | refine w_block ?_ | refine w_exit ?_ | refine k_exit ?_ | refine b_here ?_ | refine b_normal ?_ | refine w_ret ?_ | refine k_ret ?_ | refine b_ret ?_
  refine w_false rfl ?_
  repeat first | refine w_seq ?_ | refine w_region ?_ | refine w_val rfl rfl rfl rfl ?_ | refine w_valg rfl rfl rfl rfl ?_ | refine w_nil ?_ | refine k_seq ?_ | refine w_skip ?_ | refine w_block ?_ | refine w_exit ?_ | refine k_exit ?_ | refine b_here ?_ | refine b_normal ?_ | refine w_ret ?_ | refine k_ret ?_ | refine b_ret ?_
  refine w_val rfl rfl rfl (e_eqlp rfl rfl F.u285) ?_
  repeat first | refine w_seq ?_ | refine w_region ?_ | refine w_val rfl rfl rfl rfl ?_ | refine w_valg rfl rfl rfl rfl ?_ | refine w_nil ?_ | refine k_seq ?_ | refine w_skip ?_ | refine w_block ?_ | refine w_exit ?_ | refine k_exit ?_ | refine b_here ?_ | refine b_normal ?_ | refine w_ret ?_ | refine k_ret ?_ | refine b_ret ?_
  refine w_false rfl ?_
  repeat first | refine w_seq ?_ | refine w_region ?_ | refine w_val rfl rfl rfl rfl ?_ | refine w_valg rfl rfl rfl rfl ?_ | refine w_nil ?_ | refine k_seq ?_ | refine w_skip ?_ | refine w_block ?_ | refine w_exit ?_ | refine k_exit ?_ | refine b_here ?_ | refine b_normal ?_ | refine w_ret ?_ | refine k_ret ?_ | refine b_ret ?_
  exact ⟨_, rfl, hQ⟩
end Go.Abm.Seat

open Go Go.Abm
set_option maxRecDepth 100000
namespace Go.Abm.Seat
theorem read_erased {E : Env} (F : Facts E) (hs : E.sums 240 = none) (hs2 : E.sums 164 = none) (hs3 : E.sums 91 = none) (M : AM) (c o n p bb bo bl bc pb po pl pc pg : Nat) (bg pgr : Option Nat) (cl bcl pcl : List AV) (ro fz r1 f1 r2 f2 : Bool) (dt : AV)
    (hm : M.get c = some (.cells cl ro fz)) (hb : cl[o + 4]? = some (.sl bb bo bl bc bg)) (hoff : cl[o + 7]? = some (.bool false)) (hn : n < bl)
    (hpg : cl[o + 0 + 2]? = some (.int .i64 (.ofNat pg))) (hpgl : pg ≤ 65536) (hmb : M.get bb = some (.cells bcl r1 f1)) (hp : bcl[bo + n * 4 + 2]? = some (.sl pb po pl pc pgr)) (hpl : p < pl)
    (hmp : M.get pb = some (.cells pcl r2 f2)) (hst : (pcl.drop (po + p * 2)).take 2 = [.int .i64 (.ofNat 0), dt]) (hone : dt.one = true) (lc : c < M.nx) (lbb : bb < M.nx) (lpb : pb < M.nx) :
    CallsTo E 91 [.ptr c o, .int .i64 (.ofNat n), .int .i64 (.ofNat p)] M fun e M' => e = .ret (.tup [.sl M.nx 0 pg pg none, .int .i64 0]) ∧ M'.nx = M.nx + 2 ∧ (∀ x, x < M.nx → M'.get x = M.get x) ∧ M'.get M.nx = some (.cells (List.replicate pg (.int .u8 255)) false false) := by
  have hne : ∀ {x : Nat}, x < M.nx → x ≠ M.nx := fun h => by omega
  refine call_rule F.f91 rfl hs3 ?_
  repeat first | refine w_seq ?_ | refine w_region ?_ | refine w_val rfl rfl rfl rfl ?_ | refine w_valg rfl rfl rfl rfl ?_ | refine w_nil ?_ | refine k_seq ?_ | refine w_skip ?_ | refine w_block ?_ | refine w_exit ?_ | refine k_exit ?_ | refine b_here ?_ | refine b_normal ?_ | refine w_ret ?_ | refine k_ret ?_ | refine b_ret ?_
  refine w_callr rfl rfl rfl (e_call rfl rfl F.f164 rfl) (ready_ok F hs hs2 M c o n bb bo bl bc bg cl ro fz hm hb hoff hn _ ⟨rfl, rfl⟩) ?_
  repeat first | refine w_seq ?_ | refine w_region ?_ | refine w_val rfl rfl rfl rfl ?_ | refine w_valg rfl rfl rfl rfl ?_ | refine w_nil ?_ | refine k_seq ?_ | refine w_skip ?_ | refine w_block ?_ | refine w_exit ?_ | refine k_exit ?_ | refine b_here ?_ | refine b_normal ?_ | refine w_ret ?_ | refine k_ret ?_ | refine b_ret ?_
  refine w_false rfl ?_
  repeat first | refine w_seq ?_ | refine w_region ?_ | refine w_val rfl rfl rfl rfl ?_ | refine w_valg rfl rfl rfl rfl ?_ | refine w_nil ?_ | refine k_seq ?_ | refine w_skip ?_ | refine w_block ?_ | refine w_exit ?_ | refine k_exit ?_ | refine b_here ?_ | refine b_normal ?_ | refine w_ret ?_ | refine k_ret ?_ | refine b_ret ?_
  refine w_valg rfl rfl rfl (e_fa rfl F.fa107_1) ?_
  refine w_valg rfl rfl rfl (e_load rfl F.u103 rfl hmb hp) ?_
  refine w_valg rfl rfl rfl (e_len_sl rfl rfl rfl rfl F.u103) ?_
  repeat first | refine w_seq ?_ | refine w_region ?_ | refine w_val rfl rfl rfl rfl ?_ | refine w_valg rfl rfl rfl rfl ?_ | refine w_nil ?_ | refine k_seq ?_ | refine w_skip ?_ | refine w_block ?_ | refine w_exit ?_ | refine k_exit ?_ | refine b_here ?_ | refine b_normal ?_ | refine w_ret ?_ | refine k_ret ?_ | refine b_ret ?_
  refine w_false (bool_nilt_f hpl) ?_
  repeat first | refine w_seq ?_ | refine w_region ?_ | refine w_val rfl rfl rfl rfl ?_ | refine w_valg rfl rfl rfl rfl ?_ | refine w_nil ?_ | refine k_seq ?_ | refine w_skip ?_ | refine w_block ?_ | refine w_exit ?_ | refine k_exit ?_ | refine b_here ?_ | refine b_normal ?_ | refine w_ret ?_ | refine k_ret ?_ | refine b_ret ?_
  refine w_val rfl rfl rfl (e_fa rfl F.fa102_0) ?_
  refine w_val rfl rfl rfl (e_fa rfl F.fa23_2) ?_
  refine w_val rfl rfl rfl (e_load rfl F.u3 rfl hm hpg) ?_
  refine w_val rfl rfl rfl (e_makeSlice rfl rfl F.u157 F.el5 (by decide) (Nat.le_refl _) (by omega) (by unfold maxI; omega) rfl) ?_
  have hmb1 : (M.new (.cells (repeatL [AV.int .u8 0] pg) false false)).get bb = some (.cells bcl r1 f1) := by rw [AM.get_new_lt lbb]; exact hmb
  have hmp1 : (M.new (.cells (repeatL [AV.int .u8 0] pg) false false)).get pb = some (.cells pcl r2 f2) := by rw [AM.get_new_lt lpb]; exact hmp
  repeat first | refine w_seq ?_ | refine w_region ?_ | refine w_val rfl rfl rfl rfl ?_ | refine w_valg rfl rfl rfl rfl ?_ | refine w_nil ?_ | refine k_seq ?_ | refine w_skip ?_ | refine w_block ?_ | refine w_exit ?_ | refine k_exit ?_ | refine b_here ?_ | refine b_normal ?_ | refine w_ret ?_ | refine k_ret ?_ | refine b_ret ?_
  refine w_val rfl rfl rfl (e_fa rfl F.fa107_1) ?_
  refine w_val rfl rfl rfl (e_load rfl F.u103 rfl hmb1 hp) ?_
  refine w_val rfl rfl rfl rfl ?_
  refine w_val rfl rfl rfl (e_indexAddr rfl rfl F.u103 F.sz289 hpl) ?_
  refine w_val rfl rfl rfl (e_loadv rfl F.ag289 F.sz289 hmp1 hst) ?_
  refine w_val rfl rfl rfl (e_alloc F.z289) ?_
  refine w_do rfl rfl (e_store rfl rfl F.sz289 AM.get_new_self (Nat.le_refl _) (by simp only [AV.cells, List.all_cons, List.all_nil, hone]; rfl)) ?_
  repeat first | refine w_seq ?_ | refine w_region ?_ | refine w_val rfl rfl rfl rfl ?_ | refine w_valg rfl rfl rfl rfl ?_ | refine w_nil ?_ | refine k_seq ?_ | refine w_skip ?_ | refine w_block ?_ | refine w_exit ?_ | refine k_exit ?_ | refine b_here ?_ | refine b_normal ?_ | refine w_ret ?_ | refine k_ret ?_ | refine b_ret ?_
  refine w_val rfl rfl rfl (e_fa rfl F.fa289_0) ?_
  refine w_val rfl rfl rfl (e_load rfl F.u3 rfl AM.get_set_self rfl) ?_
  repeat first | refine w_seq ?_ | refine w_region ?_ | refine w_val rfl rfl rfl rfl ?_ | refine w_valg rfl rfl rfl rfl ?_ | refine w_nil ?_ | refine k_seq ?_ | refine w_skip ?_ | refine w_block ?_ | refine w_exit ?_ | refine k_exit ?_ | refine b_here ?_ | refine b_normal ?_ | refine w_ret ?_ | refine k_ret ?_ | refine b_ret ?_
  refine w_false rfl ?_
  repeat first | refine w_seq ?_ | refine w_region ?_ | refine w_val rfl rfl rfl rfl ?_ | refine w_valg rfl rfl rfl rfl ?_ | refine w_nil ?_ | refine k_seq ?_ | refine w_skip ?_ | refine w_block ?_ | refine w_exit ?_ | refine k_exit ?_ | refine b_here ?_ | refine b_normal ?_ | refine w_ret ?_ | refine k_ret ?_ | refine b_ret ?_
  refine w_false rfl ?_
  repeat first | refine w_seq ?_ | refine w_region ?_ | refine w_val rfl rfl rfl rfl ?_ | refine w_valg rfl rfl rfl rfl ?_ | refine w_nil ?_ | refine k_seq ?_ | refine w_skip ?_ | refine w_block ?_ | refine w_exit ?_ | refine k_exit ?_ | refine b_here ?_ | refine b_normal ?_ | refine w_ret ?_ | refine k_ret ?_ | refine b_ret ?_
  refine w_val rfl rfl rfl (e_len_sl rfl rfl rfl rfl F.u157) ?_
  repeat first | refine w_seq ?_ | refine w_region ?_ | refine w_val rfl rfl rfl rfl ?_ | refine w_valg rfl rfl rfl rfl ?_ | refine w_nil ?_ | refine k_seq ?_ | refine w_skip ?_ | refine w_block ?_ | refine w_exit ?_ | refine k_exit ?_ | refine b_here ?_ | refine b_normal ?_ | refine w_ret ?_ | refine k_ret ?_ | refine b_ret ?_
  refine w_loop ?_
  refine loop_inv (fun k ρ D M' => D = [] ∧ M'.nx = M.nx + 2 ∧ (∀ x, x < M.nx → M'.get x = M.get x) ∧ ∃ i, k = pg - i ∧ i ≤ pg ∧ ρ 10 = some (.sl M.nx 0 pg pg none) ∧ ρ 50 = some (.int .i64 (.ofNat pg)) ∧ ρ 51 = some (.int .i64 (.ofNat i)) ∧
    M'.get M.nx = some (.cells (List.replicate i (AV.int .u8 255) ++ List.replicate (pg - i) (AV.int .u8 0)) false false)) ?_ pg _ _ _ ⟨rfl, rfl, ?_, 0, rfl, Nat.zero_le _, rfl, rfl, rfl, ?_⟩
  rotate_left
  · intro x hx
    simp only [AM.get_set, AM.get_new, AM.nx_new]
    rw [if_neg (by omega), if_neg (by omega), if_neg (by omega)]
  · simp only [AM.get_set, AM.get_new, AM.nx_new]
    rw [if_neg (by omega), if_neg (by omega), if_pos trivial]
    show some (AObj.cells (repeatL [AV.int .u8 0] pg) false false) = _
    rw [repeatL_one]
    rfl
  rintro k ρ D M' ⟨rfl, hnx, hold, i, rfl, hi, h10, h50, h51, hcur⟩
  repeat first | refine w_seq ?_ | refine w_region ?_ | refine w_val rfl rfl rfl rfl ?_ | refine w_valg rfl rfl rfl rfl ?_ | refine w_nil ?_ | refine k_seq ?_ | refine w_skip ?_ | refine w_block ?_ | refine w_exit ?_ | refine k_exit ?_ | refine b_here ?_ | refine b_normal ?_ | refine w_ret ?_ | refine k_ret ?_ | refine b_ret ?_
  refine w_val rfl rfl rfl (e_lss64 h51 h50) ?_
  repeat first | refine w_seq ?_ | refine w_region ?_ | refine w_val rfl rfl rfl rfl ?_ | refine w_valg rfl rfl rfl rfl ?_ | refine w_nil ?_ | refine k_seq ?_ | refine w_skip ?_ | refine w_block ?_ | refine w_exit ?_ | refine k_exit ?_ | refine b_here ?_ | refine b_normal ?_ | refine w_ret ?_ | refine k_ret ?_ | refine b_ret ?_
  refine w_cond rfl (fun h => ?_) (fun h => ?_)
  case refine_2 =>
    have he : i = pg := by have := of_decide_eq_false h; omega
    subst he
    repeat first | refine w_seq ?_ | refine w_region ?_ | refine w_val rfl rfl rfl rfl ?_ | refine w_valg rfl rfl rfl rfl ?_ | refine w_nil ?_ | refine k_seq ?_ | refine w_skip ?_ | refine w_block ?_ | refine w_exit ?_ | refine k_exit ?_ | refine b_here ?_ | refine b_normal ?_ | refine w_ret ?_ | refine k_ret ?_ | refine b_ret ?_
    refine w_val rfl rfl rfl (e_move h10) ?_
    repeat first | refine w_seq ?_ | refine w_region ?_ | refine w_val rfl rfl rfl rfl ?_ | refine w_valg rfl rfl rfl rfl ?_ | refine w_nil ?_ | refine k_seq ?_ | refine w_skip ?_ | refine w_block ?_ | refine w_exit ?_ | refine k_exit ?_ | refine b_here ?_ | refine b_normal ?_ | refine w_ret ?_ | refine k_ret ?_ | refine b_ret ?_
    refine ⟨_, rfl, rfl, hnx, hold, ?_⟩
    rw [hcur, Nat.sub_self, List.replicate_zero, List.append_nil]
  have hlt : i < pg := of_decide_eq_true h
  repeat first | refine w_seq ?_ | refine w_region ?_ | refine w_val rfl rfl rfl rfl ?_ | refine w_valg rfl rfl rfl rfl ?_ | refine w_nil ?_ | refine k_seq ?_ | refine w_skip ?_ | refine w_block ?_ | refine w_exit ?_ | refine k_exit ?_ | refine b_here ?_ | refine b_normal ?_ | refine w_ret ?_ | refine k_ret ?_ | refine b_ret ?_
  refine w_val rfl rfl rfl (e_move h51) ?_
  repeat first | refine w_seq ?_ | refine w_region ?_ | refine w_val rfl rfl rfl rfl ?_ | refine w_valg rfl rfl rfl rfl ?_ | refine w_nil ?_ | refine k_seq ?_ | refine w_skip ?_ | refine w_block ?_ | refine w_exit ?_ | refine k_exit ?_ | refine b_here ?_ | refine b_normal ?_ | refine w_ret ?_ | refine k_ret ?_ | refine b_ret ?_
  refine w_val rfl rfl rfl (e_move h10) ?_
  repeat first | refine w_seq ?_ | refine w_region ?_ | refine w_val rfl rfl rfl rfl ?_ | refine w_valg rfl rfl rfl rfl ?_ | refine w_nil ?_ | refine k_seq ?_ | refine w_skip ?_ | refine w_block ?_ | refine w_exit ?_ | refine k_exit ?_ | refine b_here ?_ | refine b_normal ?_ | refine w_ret ?_ | refine k_ret ?_ | refine b_ret ?_
  refine w_val rfl rfl rfl (e_indexAddr rfl rfl F.u157 F.sz5 hlt) ?_
  refine w_do rfl rfl (e_store rfl rfl F.sz5 hcur (by simp only [List.length_append, List.length_replicate, AV.cells, List.length_cons, List.length_nil]; omega) rfl) ?_
  repeat first | refine w_seq ?_ | refine w_region ?_ | refine w_val rfl rfl rfl rfl ?_ | refine w_valg rfl rfl rfl rfl ?_ | refine w_nil ?_ | refine k_seq ?_ | refine w_skip ?_ | refine w_block ?_ | refine w_exit ?_ | refine k_exit ?_ | refine b_here ?_ | refine b_normal ?_ | refine w_ret ?_ | refine k_ret ?_ | refine b_ret ?_
  refine w_val rfl rfl rfl (e_add64 (b := 1) h51 rfl (by omega)) ?_
  repeat first | refine w_seq ?_ | refine w_region ?_ | refine w_val rfl rfl rfl rfl ?_ | refine w_valg rfl rfl rfl rfl ?_ | refine w_nil ?_ | refine k_seq ?_ | refine w_skip ?_ | refine w_block ?_ | refine w_exit ?_ | refine k_exit ?_ | refine b_here ?_ | refine b_normal ?_ | refine w_ret ?_ | refine k_ret ?_ | refine b_ret ?_
  refine ⟨pg - (i + 1), by omega, rfl, hnx, fun x hx => ?_, i + 1, rfl, by omega, h10, h50, rfl, ?_⟩
  · rw [AM.get_set_ne (by omega)]; exact hold x hx
  · rw [AM.get_set_self, fill_step rfl hlt]
theorem read_prog {E : Env} (F : Facts E) (hs : E.sums 240 = none) (hs2 : E.sums 164 = none) (hs3 : E.sums 91 = none) (M : AM) (c o n p bb bo bl bc pb po pl pc pg db dof dl dc : Nat) (bg pgr dg : Option Nat) (cl bcl pcl dcl : List AV) (ro fz r1 f1 r2 f2 r3 f3 : Bool)
    (hm : M.get c = some (.cells cl ro fz)) (hb : cl[o + 4]? = some (.sl bb bo bl bc bg)) (hoff : cl[o + 7]? = some (.bool false)) (hn : n < bl)
    (hpg : cl[o + 0 + 2]? = some (.int .i64 (.ofNat pg))) (hpgl : pg ≤ 65536) (hmb : M.get bb = some (.cells bcl r1 f1)) (hp : bcl[bo + n * 4 + 2]? = some (.sl pb po pl pc pgr)) (hpl : p < pl)
    (hmp : M.get pb = some (.cells pcl r2 f2)) (hst : (pcl.drop (po + p * 2)).take 2 = [.int .i64 (.ofNat 1), .sl db dof dl dc dg]) (hmd : M.get db = some (.cells dcl r3 f3)) (hdl : dl ≤ pg) (hdc : dl ≤ dc) (hdd : dof + dl ≤ dcl.length) (hdo : ((dcl.drop dof).take dl).all AV.one = true)
    (lc : c < M.nx) (lbb : bb < M.nx) (lpb : pb < M.nx) (ldb : db < M.nx) :
    CallsTo E 91 [.ptr c o, .int .i64 (.ofNat n), .int .i64 (.ofNat p)] M fun e M' => e = .ret (.tup [.sl M.nx 0 pg pg none, .int .i64 0]) ∧ M'.nx = M.nx + 2 ∧ (∀ x, x < M.nx → M'.get x = M.get x) ∧
      M'.get M.nx = some (.cells ((dcl.drop dof).take dl ++ List.replicate (pg - dl) (.int .u8 255)) false false) := by
  have hone : (AV.sl db dof dl dc dg).one = true := rfl
  have hne : ∀ {x : Nat}, x < M.nx → x ≠ M.nx := fun h => by omega
  refine call_rule F.f91 rfl hs3 ?_
  repeat first | refine w_seq ?_ | refine w_region ?_ | refine w_val rfl rfl rfl rfl ?_ | refine w_valg rfl rfl rfl rfl ?_ | refine w_nil ?_ | refine k_seq ?_ | refine w_skip ?_ | refine w_block ?_ | refine w_exit ?_ | refine k_exit ?_ | refine b_here ?_ | refine b_normal ?_ | refine w_ret ?_ | refine k_ret ?_ | refine b_ret ?_
  refine w_callr rfl rfl rfl (e_call rfl rfl F.f164 rfl) (ready_ok F hs hs2 M c o n bb bo bl bc bg cl ro fz hm hb hoff hn _ ⟨rfl, rfl⟩) ?_
  repeat first | refine w_seq ?_ | refine w_region ?_ | refine w_val rfl rfl rfl rfl ?_ | refine w_valg rfl rfl rfl rfl ?_ | refine w_nil ?_ | refine k_seq ?_ | refine w_skip ?_ | refine w_block ?_ | refine w_exit ?_ | refine k_exit ?_ | refine b_here ?_ | refine b_normal ?_ | refine w_ret ?_ | refine k_ret ?_ | refine b_ret ?_
  refine w_false rfl ?_
  repeat first | refine w_seq ?_ | refine w_region ?_ | refine w_val rfl rfl rfl rfl ?_ | refine w_valg rfl rfl rfl rfl ?_ | refine w_nil ?_ | refine k_seq ?_ | refine w_skip ?_ | refine w_block ?_ | refine w_exit ?_ | refine k_exit ?_ | refine b_here ?_ | refine b_normal ?_ | refine w_ret ?_ | refine k_ret ?_ | refine b_ret ?_
  refine w_valg rfl rfl rfl (e_fa rfl F.fa107_1) ?_
  refine w_valg rfl rfl rfl (e_load rfl F.u103 rfl hmb hp) ?_
  refine w_valg rfl rfl rfl (e_len_sl rfl rfl rfl rfl F.u103) ?_
  repeat first | refine w_seq ?_ | refine w_region ?_ | refine w_val rfl rfl rfl rfl ?_ | refine w_valg rfl rfl rfl rfl ?_ | refine w_nil ?_ | refine k_seq ?_ | refine w_skip ?_ | refine w_block ?_ | refine w_exit ?_ | refine k_exit ?_ | refine b_here ?_ | refine b_normal ?_ | refine w_ret ?_ | refine k_ret ?_ | refine b_ret ?_
  refine w_false (bool_nilt_f hpl) ?_
  repeat first | refine w_seq ?_ | refine w_region ?_ | refine w_val rfl rfl rfl rfl ?_ | refine w_valg rfl rfl rfl rfl ?_ | refine w_nil ?_ | refine k_seq ?_ | refine w_skip ?_ | refine w_block ?_ | refine w_exit ?_ | refine k_exit ?_ | refine b_here ?_ | refine b_normal ?_ | refine w_ret ?_ | refine k_ret ?_ | refine b_ret ?_
  refine w_val rfl rfl rfl (e_fa rfl F.fa102_0) ?_
  refine w_val rfl rfl rfl (e_fa rfl F.fa23_2) ?_
  refine w_val rfl rfl rfl (e_load rfl F.u3 rfl hm hpg) ?_
  refine w_val rfl rfl rfl (e_makeSlice rfl rfl F.u157 F.el5 (by decide) (Nat.le_refl _) (by omega) (by unfold maxI; omega) rfl) ?_
  have hmb1 : (M.new (.cells (repeatL [AV.int .u8 0] pg) false false)).get bb = some (.cells bcl r1 f1) := by rw [AM.get_new_lt lbb]; exact hmb
  have hmp1 : (M.new (.cells (repeatL [AV.int .u8 0] pg) false false)).get pb = some (.cells pcl r2 f2) := by rw [AM.get_new_lt lpb]; exact hmp
  repeat first | refine w_seq ?_ | refine w_region ?_ | refine w_val rfl rfl rfl rfl ?_ | refine w_valg rfl rfl rfl rfl ?_ | refine w_nil ?_ | refine k_seq ?_ | refine w_skip ?_ | refine w_block ?_ | refine w_exit ?_ | refine k_exit ?_ | refine b_here ?_ | refine b_normal ?_ | refine w_ret ?_ | refine k_ret ?_ | refine b_ret ?_
  refine w_val rfl rfl rfl (e_fa rfl F.fa107_1) ?_
  refine w_val rfl rfl rfl (e_load rfl F.u103 rfl hmb1 hp) ?_
  refine w_val rfl rfl rfl rfl ?_
  refine w_val rfl rfl rfl (e_indexAddr rfl rfl F.u103 F.sz289 hpl) ?_
  refine w_val rfl rfl rfl (e_loadv rfl F.ag289 F.sz289 hmp1 hst) ?_
  refine w_val rfl rfl rfl (e_alloc F.z289) ?_
  refine w_do rfl rfl (e_store rfl rfl F.sz289 AM.get_new_self (Nat.le_refl _) (by simp only [AV.cells, List.all_cons, List.all_nil, hone]; rfl)) ?_
  repeat first | refine w_seq ?_ | refine w_region ?_ | refine w_val rfl rfl rfl rfl ?_ | refine w_valg rfl rfl rfl rfl ?_ | refine w_nil ?_ | refine k_seq ?_ | refine w_skip ?_ | refine w_block ?_ | refine w_exit ?_ | refine k_exit ?_ | refine b_here ?_ | refine b_normal ?_ | refine w_ret ?_ | refine k_ret ?_ | refine b_ret ?_
  refine w_val rfl rfl rfl (e_fa rfl F.fa289_0) ?_
  refine w_val rfl rfl rfl (e_load rfl F.u3 rfl AM.get_set_self rfl) ?_
  repeat first | refine w_seq ?_ | refine w_region ?_ | refine w_val rfl rfl rfl rfl ?_ | refine w_valg rfl rfl rfl rfl ?_ | refine w_nil ?_ | refine k_seq ?_ | refine w_skip ?_ | refine w_block ?_ | refine w_exit ?_ | refine k_exit ?_ | refine b_here ?_ | refine b_normal ?_ | refine w_ret ?_ | refine k_ret ?_ | refine b_ret ?_
  refine w_false rfl ?_
  repeat first | refine w_seq ?_ | refine w_region ?_ | refine w_val rfl rfl rfl rfl ?_ | refine w_valg rfl rfl rfl rfl ?_ | refine w_nil ?_ | refine k_seq ?_ | refine w_skip ?_ | refine w_block ?_ | refine w_exit ?_ | refine k_exit ?_ | refine b_here ?_ | refine b_normal ?_ | refine w_ret ?_ | refine k_ret ?_ | refine b_ret ?_
  refine w_true rfl ?_
  repeat first | refine w_seq ?_ | refine w_region ?_ | refine w_val rfl rfl rfl rfl ?_ | refine w_valg rfl rfl rfl rfl ?_ | refine w_nil ?_ | refine k_seq ?_ | refine w_skip ?_ | refine w_block ?_ | refine w_exit ?_ | refine k_exit ?_ | refine b_here ?_ | refine b_normal ?_ | refine w_ret ?_ | refine k_ret ?_ | refine b_ret ?_
  refine w_val rfl rfl rfl (e_fa rfl F.fa289_1) ?_
  refine w_val rfl rfl rfl (e_load rfl F.u157 rfl AM.get_set_self rfl) ?_
  generalize hM2 : ((M.new (.cells (repeatL (AV.int .u8 0).cells pg) false false)).new (.cells (AV.agg [AV.int .i64 0, AV.nils]).cells false false)).set (M.new (.cells (repeatL (AV.int .u8 0).cells pg) false false)).nx (some (.cells (spliceL (AV.agg [AV.int .i64 0, AV.nils]).cells 0 (AV.agg [AV.int .i64 (.ofNat 1), .sl db dof dl dc dg]).cells) false false)) = M2
  have hold2 : ∀ x, x < M.nx → M2.get x = M.get x := by
    intro x hx
    rw [← hM2]
    simp only [AM.get_set, AM.get_new, AM.nx_new]
    rw [if_neg (by omega), if_neg (by omega), if_neg (by omega)]
  have hcur2 : M2.get M.nx = some (.cells (List.replicate pg (AV.int .u8 0)) false false) := by
    rw [← hM2]
    simp only [AM.get_set, AM.get_new, AM.nx_new]
    rw [if_neg (by omega), if_neg (by omega), if_pos trivial]
    show some (AObj.cells (repeatL [AV.int .u8 0] pg) false false) = _
    rw [repeatL_one]
  have hx2 : M2.get (M.nx + 1) = some (.cells [.int .i64 (.ofNat 1), .sl db dof dl dc dg] false false) := by
    rw [← hM2]; exact AM.get_set_self
  have hnx2 : M2.nx = M.nx + 2 := by rw [← hM2]; rfl
  clear hM2
  have hlen : ((dcl.drop dof).take dl).length = dl := by rw [List.length_take, List.length_drop]; omega
  refine w_valx rfl rfl rfl (e_copyx rfl rfl rfl rfl rfl F.u157 F.sz5 hdl hdc (by rw [hold2 db ldb]; exact hmd) hdd hcur2 (by simpa using hdl) hdo) ?_
  rintro v M3 ⟨rfl, hnx3, hold3, hcur3⟩
  rw [spliceL_zero, hlen, List.drop_replicate] at hcur3
  have hx3 : M3.get (M.nx + 1) = _ := (hold3 _ (by omega)).trans hx2
  have hold4 : ∀ x, x < M.nx → M3.get x = M.get x := fun x hx => (hold3 x (by omega)).trans (hold2 x hx)
  repeat first | refine w_seq ?_ | refine w_region ?_ | refine w_val rfl rfl rfl rfl ?_ | refine w_valg rfl rfl rfl rfl ?_ | refine w_nil ?_ | refine k_seq ?_ | refine w_skip ?_ | refine w_block ?_ | refine w_exit ?_ | refine k_exit ?_ | refine b_here ?_ | refine b_normal ?_ | refine w_ret ?_ | refine k_ret ?_ | refine b_ret ?_
  refine w_val rfl rfl rfl (e_fa rfl F.fa289_1) ?_
  refine w_val rfl rfl rfl (e_load rfl F.u157 rfl hx3 rfl) ?_
  refine w_val rfl rfl rfl (e_len_sl rfl rfl rfl rfl F.u157) ?_
  repeat first | refine w_seq ?_ | refine w_region ?_ | refine w_val rfl rfl rfl rfl ?_ | refine w_valg rfl rfl rfl rfl ?_ | refine w_nil ?_ | refine k_seq ?_ | refine w_skip ?_ | refine w_block ?_ | refine w_exit ?_ | refine k_exit ?_ | refine b_here ?_ | refine b_normal ?_ | refine w_ret ?_ | refine k_ret ?_ | refine b_ret ?_
  refine w_loop ?_
  refine loop_inv (fun k ρ D M' => D = [] ∧ M'.nx = M.nx + 2 ∧ (∀ x, x < M.nx → M'.get x = M.get x) ∧ ∃ i, k = pg - (dl + i) ∧ dl + i ≤ pg ∧ ρ 10 = some (.sl M.nx 0 pg pg none) ∧ ρ 12 = some (.int .i64 (.ofNat (dl + i))) ∧
    M'.get M.nx = some (.cells ((dcl.drop dof).take dl ++ (List.replicate i (AV.int .u8 255) ++ List.replicate (pg - dl - i) (AV.int .u8 0))) false false)) ?_ (pg - dl) _ _ _ ⟨rfl, hnx3.trans hnx2, hold4, 0, rfl, hdl, rfl, rfl, ?_⟩
  rotate_left
  · exact hcur3
  clear hcur3 hcur2 hx3 hold4 hold3 hold2 hx2 hmb1 hmp1
  rintro k ρ D M' ⟨rfl, hnx, hold, i, rfl, hi, h10, h12, hcur⟩
  repeat first | refine w_seq ?_ | refine w_region ?_ | refine w_val rfl rfl rfl rfl ?_ | refine w_valg rfl rfl rfl rfl ?_ | refine w_nil ?_ | refine k_seq ?_ | refine w_skip ?_ | refine w_block ?_ | refine w_exit ?_ | refine k_exit ?_ | refine b_here ?_ | refine b_normal ?_ | refine w_ret ?_ | refine k_ret ?_ | refine b_ret ?_
  refine w_val rfl rfl rfl (e_move h12) ?_
  refine w_val rfl rfl rfl (e_move h10) ?_
  refine w_val rfl rfl rfl (e_len_sl rfl rfl rfl rfl F.u157) ?_
  refine w_val rfl rfl rfl (e_lss64 rfl rfl) ?_
  repeat first | refine w_seq ?_ | refine w_region ?_ | refine w_val rfl rfl rfl rfl ?_ | refine w_valg rfl rfl rfl rfl ?_ | refine w_nil ?_ | refine k_seq ?_ | refine w_skip ?_ | refine w_block ?_ | refine w_exit ?_ | refine k_exit ?_ | refine b_here ?_ | refine b_normal ?_ | refine w_ret ?_ | refine k_ret ?_ | refine b_ret ?_
  refine w_cond rfl (fun h => ?_) (fun h => ?_)
  case refine_2 =>
    have he : dl + i = pg := by have := of_decide_eq_false h; omega
    repeat first | refine w_seq ?_ | refine w_region ?_ | refine w_val rfl rfl rfl rfl ?_ | refine w_valg rfl rfl rfl rfl ?_ | refine w_nil ?_ | refine k_seq ?_ | refine w_skip ?_ | refine w_block ?_ | refine w_exit ?_ | refine k_exit ?_ | refine b_here ?_ | refine b_normal ?_ | refine w_ret ?_ | refine k_ret ?_ | refine b_ret ?_
    refine w_val rfl rfl rfl (e_move h10) ?_
    repeat first | refine w_seq ?_ | refine w_region ?_ | refine w_val rfl rfl rfl rfl ?_ | refine w_valg rfl rfl rfl rfl ?_ | refine w_nil ?_ | refine k_seq ?_ | refine w_skip ?_ | refine w_block ?_ | refine w_exit ?_ | refine k_exit ?_ | refine b_here ?_ | refine b_normal ?_ | refine w_ret ?_ | refine k_ret ?_ | refine b_ret ?_
    refine ⟨_, rfl, rfl, hnx, hold, ?_⟩
    rw [hcur, show pg - dl - i = 0 by omega, show pg - dl = i by omega, List.replicate_zero, List.append_nil]
  have hlt : dl + i < pg := of_decide_eq_true h
  repeat first | refine w_seq ?_ | refine w_region ?_ | refine w_val rfl rfl rfl rfl ?_ | refine w_valg rfl rfl rfl rfl ?_ | refine w_nil ?_ | refine k_seq ?_ | refine w_skip ?_ | refine w_block ?_ | refine w_exit ?_ | refine k_exit ?_ | refine b_here ?_ | refine b_normal ?_ | refine w_ret ?_ | refine k_ret ?_ | refine b_ret ?_
  refine w_val rfl rfl rfl (e_move h10) ?_
  refine w_val rfl rfl rfl (e_move h12) ?_
  refine w_val rfl rfl rfl (e_indexAddr rfl rfl F.u157 F.sz5 hlt) ?_
  refine w_do rfl rfl (e_store rfl rfl F.sz5 hcur (by simp only [List.length_append, List.length_replicate, AV.cells, List.length_cons, List.length_nil, hlen]; omega) rfl) ?_
  repeat first | refine w_seq ?_ | refine w_region ?_ | refine w_val rfl rfl rfl rfl ?_ | refine w_valg rfl rfl rfl rfl ?_ | refine w_nil ?_ | refine k_seq ?_ | refine w_skip ?_ | refine w_block ?_ | refine w_exit ?_ | refine k_exit ?_ | refine b_here ?_ | refine b_normal ?_ | refine w_ret ?_ | refine k_ret ?_ | refine b_ret ?_
  refine w_val rfl rfl rfl (e_move h12) ?_
  refine w_val rfl rfl rfl (e_add64 (b := 1) rfl rfl (by omega)) ?_
  repeat first | refine w_seq ?_ | refine w_region ?_ | refine w_val rfl rfl rfl rfl ?_ | refine w_valg rfl rfl rfl rfl ?_ | refine w_nil ?_ | refine k_seq ?_ | refine w_skip ?_ | refine w_block ?_ | refine w_exit ?_ | refine k_exit ?_ | refine b_here ?_ | refine b_normal ?_ | refine w_ret ?_ | refine k_ret ?_ | refine b_ret ?_
  refine ⟨pg - (dl + (i + 1)), by omega, rfl, hnx, fun x hx => ?_, i + 1, rfl, by omega, h10, rfl, ?_⟩
  · rw [AM.get_set_ne (by omega)]; exact hold x hx
  · rw [AM.get_set_self, fill_step2 _ hlen rfl (by omega)]
end Go.Abm.Seat

open Go Go.Abm
set_option maxRecDepth 100000
namespace Go.Abm.Seat
theorem fill_ok {E : Env} (F : Facts E) (hs : E.sums 140 = none) (M : AM) (b off len cap n : Nat) (gr : Option Nat) (l : List AV) (ro fz : Bool) (hm : M.get b = some (.cells l ro fz)) (lb : b < M.nx)
    (hc : min n len ≤ cap) (hl : off + min n len ≤ l.length) (hn : n ≤ 65536) (hg : gr = none ∨ gr = some 1) (hone : ((l.drop off).take (min n len)).all AV.one = true) :
    CallsTo E 140 [.sl b off len cap gr, .int .i64 (.ofNat n)] M fun e M' => ∃ K g, e = .ret (.sl K 0 n n g) ∧ (n = 0 ∧ g = none ∧ K = M.nx ∧ M'.nx = M.nx + 1 ∨ 0 < n ∧ g = some 1 ∧ M'.nx = K + 1 ∧ M'.nx = M.nx + 1 + (if min n len = 0 then 0 else 1) + 2 * (n - min n len)) ∧
      (∀ x, x < M.nx → M'.get x = M.get x) ∧ M'.get K = some (.cells ((l.drop off).take (min n len) ++ List.replicate (n - min n len) (.int .u8 255)) false false) := by
  have hdl : ((l.drop off).take (min n len)).length = min n len := by rw [List.length_take, List.length_drop]; omega
  refine call_rule F.f140 rfl hs ?_
  repeat first | refine w_seq ?_ | refine w_region ?_ | refine w_val rfl rfl rfl rfl ?_ | refine w_valg rfl rfl rfl rfl ?_ | refine w_nil ?_ | refine k_seq ?_ | refine w_skip ?_ | refine w_block ?_ | refine w_exit ?_ | refine k_exit ?_ | refine b_here ?_ | refine b_normal ?_ | refine w_ret ?_ | refine k_ret ?_ | refine b_ret ?_
  refine w_false (show some (AV.bool (iltF (.ofNat n) (.ofNat 0))) = _ from bool_ilt_f (Nat.zero_le _)) ?_
  repeat first | refine w_seq ?_ | refine w_region ?_ | refine w_val rfl rfl rfl rfl ?_ | refine w_valg rfl rfl rfl rfl ?_ | refine w_nil ?_ | refine k_seq ?_ | refine w_skip ?_ | refine w_block ?_ | refine w_exit ?_ | refine k_exit ?_ | refine b_here ?_ | refine b_normal ?_ | refine w_ret ?_ | refine k_ret ?_ | refine b_ret ?_
  refine w_val rfl rfl rfl (e_buildSlice (l := []) rfl F.u157 F.el5 (by decide) (by decide) rfl rfl) ?_
  repeat first | refine w_seq ?_ | refine w_region ?_ | refine w_val rfl rfl rfl rfl ?_ | refine w_valg rfl rfl rfl rfl ?_ | refine w_nil ?_ | refine k_seq ?_ | refine w_skip ?_ | refine w_block ?_ | refine w_exit ?_ | refine k_exit ?_ | refine b_here ?_ | refine b_normal ?_ | refine w_ret ?_ | refine k_ret ?_ | refine b_ret ?_
  refine w_val rfl rfl rfl (e_len_sl rfl rfl rfl rfl F.u157) ?_
  refine w_val rfl rfl rfl (e_min2 rfl rfl rfl rfl) ?_
  refine w_val rfl rfl rfl (e_slice_hi rfl rfl F.u157 F.sz5 hc hg) ?_
  have hm1 : (M.new (.cells [] false false)).get b = some (.cells l ro fz) := by rw [AM.get_new_lt lb]; exact hm
  generalize hmn : min n len = m at *
  have hmn' : m ≤ n := by rw [← hmn]; exact Nat.min_le_left _ _
  have hf1 : afirst (M.new (.cells [] false false)) 1 m (.sl b off m cap gr) = some ((l.drop off).take m) := by
    rcases Nat.eq_zero_or_pos m with h0 | h0
    · subst h0; simp [afirst]
    · simp only [afirst, nbeq_false (show m ≠ 0 by omega), ble_t hc, AM.cells, hm1, Nat.mul_one, ble_t hl, cond_true, cond_false]
  refine w_valx rfl rfl rfl (e_append_any (v := .sl b off m cap gr) (len := 0) (cs := []) (k := m) rfl rfl rfl rfl rfl F.u157 F.u157 F.el5 AM.get_new_self rfl (Or.inl ⟨rfl, rfl⟩) rfl hf1 hone hdl (by omega) (by unfold maxI; omega)) ?_
  intro v M1 hv
  have hv' : ∃ K g, v = .sl K 0 m m g ∧ (m = 0 ∧ g = none ∧ K = M.nx ∧ M1.nx = M.nx + 1 ∨ 0 < m ∧ g = some 1 ∧ M1.nx = K + 1 ∧ M1.nx = M.nx + 2) ∧ (∀ x, x < M.nx → M1.get x = M.get x) ∧ M1.get K = some (.cells ((l.drop off).take m) false false) := by
    rcases hv with ⟨h0, rfl, rfl⟩ | ⟨h0, rfl, h3, h4, h5⟩
    · subst h0
      refine ⟨_, _, rfl, Or.inl ⟨rfl, rfl, rfl, rfl⟩, fun x hx => AM.get_new_lt hx, ?_⟩
      rw [AM.get_new_self, List.take_zero]; rfl
    · refine ⟨M.nx + 1, some 1, by simp [AM.nx_new], Or.inr ⟨h0, rfl, h3, h3⟩, fun x hx => ?_, by simpa [AM.nx_new] using h5⟩
      rw [h4 x (by omega) (by rw [AM.nx_new]; omega), AM.get_new_lt hx]
  clear hv
  generalize (l.drop off).take m = d0 at *
  clear hf1 hone hm hc hl hg
  obtain ⟨K, g, rfl, hK, hold, hcur⟩ := hv'
  repeat first | refine w_seq ?_ | refine w_region ?_ | refine w_val rfl rfl rfl rfl ?_ | refine w_valg rfl rfl rfl rfl ?_ | refine w_nil ?_ | refine k_seq ?_ | refine w_skip ?_ | refine w_block ?_ | refine w_exit ?_ | refine k_exit ?_ | refine b_here ?_ | refine b_normal ?_ | refine w_ret ?_ | refine k_ret ?_ | refine b_ret ?_
  refine w_loop ?_
  refine loop_inv (fun k ρ D M' => D = [] ∧ ∃ i K g, k = n - m - i ∧ m + i ≤ n ∧ ρ 1 = some (.int .i64 (.ofNat n)) ∧ ρ 5 = some (.sl K 0 (m + i) (m + i) g) ∧
      (m + i = 0 ∧ g = none ∧ K = M.nx ∧ M'.nx = M.nx + 1 ∨ 0 < m + i ∧ g = some 1 ∧ M'.nx = K + 1 ∧ M'.nx = M.nx + 1 + (if m = 0 then 0 else 1) + 2 * i) ∧ (∀ x, x < M.nx → M'.get x = M.get x) ∧
      M'.get K = some (.cells (d0 ++ List.replicate i (.int .u8 255)) false false)) ?_ (n - m) _ _ _ ⟨rfl, 0, K, g, rfl, hmn', rfl, rfl, ?_, hold, ?_⟩
  rotate_left
  · rcases hK with ⟨h1, h2, h3, h4⟩ | ⟨h1, h2, h3, h4⟩
    · exact Or.inl ⟨by omega, h2, h3, h4⟩
    · refine Or.inr ⟨by omega, h2, h3, ?_⟩
      rw [if_neg (by omega)]; omega
  · simpa using hcur
  clear hcur hold hK K g M1 hm1
  rintro k ρ D M' ⟨rfl, i, K, g, rfl, hi, h1, h5, hK, hold, hcur⟩
  repeat first | refine w_seq ?_ | refine w_region ?_ | refine w_val rfl rfl rfl rfl ?_ | refine w_valg rfl rfl rfl rfl ?_ | refine w_nil ?_ | refine k_seq ?_ | refine w_skip ?_ | refine w_block ?_ | refine w_exit ?_ | refine k_exit ?_ | refine b_here ?_ | refine b_normal ?_ | refine w_ret ?_ | refine k_ret ?_ | refine b_ret ?_
  refine w_val rfl rfl rfl (e_move h5) ?_
  refine w_val rfl rfl rfl (e_len_sl rfl rfl rfl rfl F.u157) ?_
  refine w_val rfl rfl rfl (e_move h1) ?_
  refine w_val rfl rfl rfl (e_lss64 rfl rfl) ?_
  repeat first | refine w_seq ?_ | refine w_region ?_ | refine w_val rfl rfl rfl rfl ?_ | refine w_valg rfl rfl rfl rfl ?_ | refine w_nil ?_ | refine k_seq ?_ | refine w_skip ?_ | refine w_block ?_ | refine w_exit ?_ | refine k_exit ?_ | refine b_here ?_ | refine b_normal ?_ | refine w_ret ?_ | refine k_ret ?_ | refine b_ret ?_
  refine w_cond rfl (fun h => ?_) (fun h => ?_)
  case refine_2 =>
    have he : m + i = n := by have := of_decide_eq_false h; omega
    repeat first | refine w_seq ?_ | refine w_region ?_ | refine w_val rfl rfl rfl rfl ?_ | refine w_valg rfl rfl rfl rfl ?_ | refine w_nil ?_ | refine k_seq ?_ | refine w_skip ?_ | refine w_block ?_ | refine w_exit ?_ | refine k_exit ?_ | refine b_here ?_ | refine b_normal ?_ | refine w_ret ?_ | refine k_ret ?_ | refine b_ret ?_
    refine w_val rfl rfl rfl (e_move h5) ?_
    repeat first | refine w_seq ?_ | refine w_region ?_ | refine w_val rfl rfl rfl rfl ?_ | refine w_valg rfl rfl rfl rfl ?_ | refine w_nil ?_ | refine k_seq ?_ | refine w_skip ?_ | refine w_block ?_ | refine w_exit ?_ | refine k_exit ?_ | refine b_here ?_ | refine b_normal ?_ | refine w_ret ?_ | refine k_ret ?_ | refine b_ret ?_
    refine ⟨_, rfl, K, g, by rw [← he]; rfl, ?_, hold, ?_⟩
    · rcases hK with ⟨h1, h2, h3, h4⟩ | ⟨h1, h2, h3, h4⟩
      · exact Or.inl ⟨by omega, h2, h3, h4⟩
      · exact Or.inr ⟨by omega, h2, h3, by rw [h4]; congr 2; omega⟩
    · rw [hcur]; congr 4; omega
  have hlt : m + i < n := of_decide_eq_true h
  repeat first | refine w_seq ?_ | refine w_region ?_ | refine w_val rfl rfl rfl rfl ?_ | refine w_valg rfl rfl rfl rfl ?_ | refine w_nil ?_ | refine k_seq ?_ | refine w_skip ?_ | refine w_block ?_ | refine w_exit ?_ | refine k_exit ?_ | refine b_here ?_ | refine b_normal ?_ | refine w_ret ?_ | refine k_ret ?_ | refine b_ret ?_
  refine w_val rfl rfl rfl (e_move h5) ?_
  refine w_val rfl rfl rfl (e_buildSlice (l := [(0, .int .u8 255)]) rfl F.u157 F.el5 (by decide) (by decide) rfl rfl) ?_
  have hKn : K < M'.nx := by rcases hK with ⟨_, _, h3, h4⟩ | ⟨_, _, h3, h4⟩ <;> omega
  have hMn : M.nx ≤ K := by
    rcases hK with ⟨_, _, h3, h4⟩ | ⟨_, _, h3, h4⟩
    · omega
    · split at h4 <;> omega
  refine w_valx rfl rfl rfl (e_appendx (new := [.int .u8 255]) (k := 1) rfl rfl rfl rfl rfl F.u157 F.u157 F.el5 (by rw [AM.get_new_lt hKn]; exact hcur) (by rw [List.length_append, hdl, List.length_replicate])
    (by rcases hK with ⟨_, h2, _⟩ | ⟨_, h2, _⟩; exact Or.inl ⟨h2, rfl⟩; exact Or.inr h2) rfl ?_ rfl rfl (Nat.le_refl _) (by omega) (by unfold maxI; omega)) ?_
  · have hcell : (M'.new (.cells [AV.int .u8 255] false false)).cells M'.nx = some [AV.int .u8 255] := by simp only [AM.cells, AM.get_new_self]
    show afirst (M'.new (.cells [AV.int .u8 255] false false)) 1 1 (.sl M'.nx 0 1 1 none) = _
    simp only [afirst, hcell]; rfl
  rintro v M2 ⟨rfl, hnx, hold2, hcur2⟩
  repeat first | refine w_seq ?_ | refine w_region ?_ | refine w_val rfl rfl rfl rfl ?_ | refine w_valg rfl rfl rfl rfl ?_ | refine w_nil ?_ | refine k_seq ?_ | refine w_skip ?_ | refine w_block ?_ | refine w_exit ?_ | refine k_exit ?_ | refine b_here ?_ | refine b_normal ?_ | refine w_ret ?_ | refine k_ret ?_ | refine b_ret ?_
  refine ⟨n - m - (i + 1), by omega, rfl, i + 1, _, _, rfl, by omega, h1, rfl, Or.inr ⟨by omega, rfl, hnx, ?_⟩, fun x hx => ?_, ?_⟩
  · rw [hnx, AM.nx_new]
    rcases hK with ⟨h1, h2, h3, h4⟩ | ⟨h1, h2, h3, h4⟩
    · rw [h4, if_pos (by omega)]; omega
    · rw [h4]; omega
  · rw [hold2 x (by omega) (by rw [AM.nx_new]; omega), AM.get_new_lt (by omega)]; exact hold x hx
  · rw [hcur2, List.append_assoc, List.replicate_succ']
theorem fill_nil {E : Env} (F : Facts E) (hs : E.sums 140 = none) (M : AM) (n : Nat) (hn : n ≤ 65536) :
    CallsTo E 140 [.nils, .int .i64 (.ofNat n)] M fun e M' => ∃ K g, e = .ret (.sl K 0 n n g) ∧ (n = 0 ∧ g = none ∧ K = M.nx ∧ M'.nx = M.nx + 1 ∨ 0 < n ∧ g = some 1 ∧ M'.nx = K + 1 ∧ M'.nx = M.nx + 1 + (if 0 = 0 then 0 else 1) + 2 * (n - 0)) ∧
      (∀ x, x < M.nx → M'.get x = M.get x) ∧ M'.get K = some (.cells ([] ++ List.replicate (n - 0) (.int .u8 255)) false false) := by
  refine call_rule F.f140 rfl hs ?_
  repeat first | refine w_seq ?_ | refine w_region ?_ | refine w_val rfl rfl rfl rfl ?_ | refine w_valg rfl rfl rfl rfl ?_ | refine w_nil ?_ | refine k_seq ?_ | refine w_skip ?_ | refine w_block ?_ | refine w_exit ?_ | refine k_exit ?_ | refine b_here ?_ | refine b_normal ?_ | refine w_ret ?_ | refine k_ret ?_ | refine b_ret ?_
  refine w_false (show some (AV.bool (iltF (.ofNat n) (.ofNat 0))) = _ from bool_ilt_f (Nat.zero_le _)) ?_
  repeat first | refine w_seq ?_ | refine w_region ?_ | refine w_val rfl rfl rfl rfl ?_ | refine w_valg rfl rfl rfl rfl ?_ | refine w_nil ?_ | refine k_seq ?_ | refine w_skip ?_ | refine w_block ?_ | refine w_exit ?_ | refine k_exit ?_ | refine b_here ?_ | refine b_normal ?_ | refine w_ret ?_ | refine k_ret ?_ | refine b_ret ?_
  refine w_val rfl rfl rfl (e_buildSlice (l := []) rfl F.u157 F.el5 (by decide) (by decide) rfl rfl) ?_
  repeat first | refine w_seq ?_ | refine w_region ?_ | refine w_val rfl rfl rfl rfl ?_ | refine w_valg rfl rfl rfl rfl ?_ | refine w_nil ?_ | refine k_seq ?_ | refine w_skip ?_ | refine w_block ?_ | refine w_exit ?_ | refine k_exit ?_ | refine b_here ?_ | refine b_normal ?_ | refine w_ret ?_ | refine k_ret ?_ | refine b_ret ?_
  refine w_val rfl rfl rfl (e_len_nils rfl rfl rfl rfl F.u157) ?_
  refine w_val rfl rfl rfl (e_min2 rfl rfl rfl rfl) ?_
  rw [Nat.min_zero]
  refine w_val rfl rfl rfl (e_slice_nils rfl rfl F.u157 F.sz5) ?_
  refine w_val rfl rfl rfl (e_append0 (v := .nils) (len := 0) rfl rfl rfl rfl rfl F.u157 F.u157 F.el5 rfl rfl) ?_
  have hdl : ([] : List AV).length = 0 := rfl
  have hmn' : 0 ≤ n := Nat.zero_le _
  have hv' : ∃ K g, AV.sl M.nx 0 0 0 none = .sl K 0 0 0 g ∧ (0 = 0 ∧ g = none ∧ K = M.nx ∧ (M.new (.cells (repeatL (AV.int .u8 0).cells 0) false false)).nx = M.nx + 1 ∨ 0 < 0 ∧ g = some 1 ∧ (M.new (.cells (repeatL (AV.int .u8 0).cells 0) false false)).nx = K + 1 ∧ (M.new (.cells (repeatL (AV.int .u8 0).cells 0) false false)).nx = M.nx + 2) ∧ (∀ x, x < M.nx → (M.new (.cells (repeatL (AV.int .u8 0).cells 0) false false)).get x = M.get x) ∧ (M.new (.cells (repeatL (AV.int .u8 0).cells 0) false false)).get K = some (.cells [] false false) :=
    ⟨_, _, rfl, Or.inl ⟨rfl, rfl, rfl, rfl⟩, fun x hx => AM.get_new_lt hx, by rw [AM.get_new_self]; rfl⟩
  generalize (M.new (.cells (repeatL (AV.int .u8 0).cells 0) false false)) = M1 at *
  generalize hv0 : AV.sl M.nx 0 0 0 none = v0 at *
  obtain ⟨K, g, rfl, hK, hold, hcur⟩ := hv'
  repeat first | refine w_seq ?_ | refine w_region ?_ | refine w_val rfl rfl rfl rfl ?_ | refine w_valg rfl rfl rfl rfl ?_ | refine w_nil ?_ | refine k_seq ?_ | refine w_skip ?_ | refine w_block ?_ | refine w_exit ?_ | refine k_exit ?_ | refine b_here ?_ | refine b_normal ?_ | refine w_ret ?_ | refine k_ret ?_ | refine b_ret ?_
  refine w_loop ?_
  refine loop_inv (fun k ρ D M' => D = [] ∧ ∃ i K g, k = n - 0 - i ∧ 0 + i ≤ n ∧ ρ 1 = some (.int .i64 (.ofNat n)) ∧ ρ 5 = some (.sl K 0 (0 + i) (0 + i) g) ∧
      (0 + i = 0 ∧ g = none ∧ K = M.nx ∧ M'.nx = M.nx + 1 ∨ 0 < 0 + i ∧ g = some 1 ∧ M'.nx = K + 1 ∧ M'.nx = M.nx + 1 + (if 0 = 0 then 0 else 1) + 2 * i) ∧ (∀ x, x < M.nx → M'.get x = M.get x) ∧
      M'.get K = some (.cells (([] : List AV) ++ List.replicate i (.int .u8 255)) false false)) ?_ (n - 0) _ _ _ ⟨rfl, 0, K, g, rfl, hmn', rfl, rfl, ?_, hold, ?_⟩
  rotate_left
  · rcases hK with ⟨h1, h2, h3, h4⟩ | ⟨h1, h2, h3, h4⟩
    · exact Or.inl ⟨by omega, h2, h3, h4⟩
    · refine Or.inr ⟨by omega, h2, h3, ?_⟩
      rw [if_neg (by omega)]; omega
  · simpa using hcur
  clear hcur hold hK hv0 K g M1
  rintro k ρ D M' ⟨rfl, i, K, g, rfl, hi, h1, h5, hK, hold, hcur⟩
  repeat first | refine w_seq ?_ | refine w_region ?_ | refine w_val rfl rfl rfl rfl ?_ | refine w_valg rfl rfl rfl rfl ?_ | refine w_nil ?_ | refine k_seq ?_ | refine w_skip ?_ | refine w_block ?_ | refine w_exit ?_ | refine k_exit ?_ | refine b_here ?_ | refine b_normal ?_ | refine w_ret ?_ | refine k_ret ?_ | refine b_ret ?_
  refine w_val rfl rfl rfl (e_move h5) ?_
  refine w_val rfl rfl rfl (e_len_sl rfl rfl rfl rfl F.u157) ?_
  refine w_val rfl rfl rfl (e_move h1) ?_
  refine w_val rfl rfl rfl (e_lss64 rfl rfl) ?_
  repeat first | refine w_seq ?_ | refine w_region ?_ | refine w_val rfl rfl rfl rfl ?_ | refine w_valg rfl rfl rfl rfl ?_ | refine w_nil ?_ | refine k_seq ?_ | refine w_skip ?_ | refine w_block ?_ | refine w_exit ?_ | refine k_exit ?_ | refine b_here ?_ | refine b_normal ?_ | refine w_ret ?_ | refine k_ret ?_ | refine b_ret ?_
  refine w_cond rfl (fun h => ?_) (fun h => ?_)
  case refine_2 =>
    have he : 0 + i = n := by have := of_decide_eq_false h; omega
    repeat first | refine w_seq ?_ | refine w_region ?_ | refine w_val rfl rfl rfl rfl ?_ | refine w_valg rfl rfl rfl rfl ?_ | refine w_nil ?_ | refine k_seq ?_ | refine w_skip ?_ | refine w_block ?_ | refine w_exit ?_ | refine k_exit ?_ | refine b_here ?_ | refine b_normal ?_ | refine w_ret ?_ | refine k_ret ?_ | refine b_ret ?_
    refine w_val rfl rfl rfl (e_move h5) ?_
    repeat first | refine w_seq ?_ | refine w_region ?_ | refine w_val rfl rfl rfl rfl ?_ | refine w_valg rfl rfl rfl rfl ?_ | refine w_nil ?_ | refine k_seq ?_ | refine w_skip ?_ | refine w_block ?_ | refine w_exit ?_ | refine k_exit ?_ | refine b_here ?_ | refine b_normal ?_ | refine w_ret ?_ | refine k_ret ?_ | refine b_ret ?_
    refine ⟨_, rfl, K, g, by rw [← he]; rfl, ?_, hold, ?_⟩
    · rcases hK with ⟨h1, h2, h3, h4⟩ | ⟨h1, h2, h3, h4⟩
      · exact Or.inl ⟨by omega, h2, h3, h4⟩
      · exact Or.inr ⟨by omega, h2, h3, by rw [h4]; congr 2; omega⟩
    · rw [hcur]; congr 4; omega
  have hlt : 0 + i < n := of_decide_eq_true h
  repeat first | refine w_seq ?_ | refine w_region ?_ | refine w_val rfl rfl rfl rfl ?_ | refine w_valg rfl rfl rfl rfl ?_ | refine w_nil ?_ | refine k_seq ?_ | refine w_skip ?_ | refine w_block ?_ | refine w_exit ?_ | refine k_exit ?_ | refine b_here ?_ | refine b_normal ?_ | refine w_ret ?_ | refine k_ret ?_ | refine b_ret ?_
  refine w_val rfl rfl rfl (e_move h5) ?_
  refine w_val rfl rfl rfl (e_buildSlice (l := [(0, .int .u8 255)]) rfl F.u157 F.el5 (by decide) (by decide) rfl rfl) ?_
  have hKn : K < M'.nx := by rcases hK with ⟨_, _, h3, h4⟩ | ⟨_, _, h3, h4⟩ <;> omega
  have hMn : M.nx ≤ K := by
    rcases hK with ⟨_, _, h3, h4⟩ | ⟨_, _, h3, h4⟩
    · omega
    · split at h4 <;> omega
  refine w_valx rfl rfl rfl (e_appendx (new := [.int .u8 255]) (k := 1) rfl rfl rfl rfl rfl F.u157 F.u157 F.el5 (by rw [AM.get_new_lt hKn]; exact hcur) (by rw [List.length_append, hdl, List.length_replicate])
    (by rcases hK with ⟨_, h2, _⟩ | ⟨_, h2, _⟩; exact Or.inl ⟨h2, rfl⟩; exact Or.inr h2) rfl ?_ rfl rfl (Nat.le_refl _) (by omega) (by unfold maxI; omega)) ?_
  · have hcell : (M'.new (.cells [AV.int .u8 255] false false)).cells M'.nx = some [AV.int .u8 255] := by simp only [AM.cells, AM.get_new_self]
    show afirst (M'.new (.cells [AV.int .u8 255] false false)) 1 1 (.sl M'.nx 0 1 1 none) = _
    simp only [afirst, hcell]; rfl
  rintro v M2 ⟨rfl, hnx, hold2, hcur2⟩
  repeat first | refine w_seq ?_ | refine w_region ?_ | refine w_val rfl rfl rfl rfl ?_ | refine w_valg rfl rfl rfl rfl ?_ | refine w_nil ?_ | refine k_seq ?_ | refine w_skip ?_ | refine w_block ?_ | refine w_exit ?_ | refine k_exit ?_ | refine b_here ?_ | refine b_normal ?_ | refine w_ret ?_ | refine k_ret ?_ | refine b_ret ?_
  refine ⟨n - 0 - (i + 1), by omega, rfl, i + 1, _, _, rfl, by omega, h1, rfl, Or.inr ⟨by omega, rfl, hnx, ?_⟩, fun x hx => ?_, ?_⟩
  · rw [hnx, AM.nx_new]
    rcases hK with ⟨h1, h2, h3, h4⟩ | ⟨h1, h2, h3, h4⟩
    · rw [h4, if_pos (by omega)]; omega
    · rw [h4]; omega
  · rw [hold2 x (by omega) (by rw [AM.nx_new]; omega), AM.get_new_lt (by omega)]; exact hold x hx
  · rw [hcur2, List.append_assoc, List.replicate_succ']
end Go.Abm.Seat
