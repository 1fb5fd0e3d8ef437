/-
  The tables of numbers by which contracts of the library speak of this program. No condition.
-/
import Derived.Test.YtbkefganebmlnaaGreatDoorN40
import Derived.Test.YtbkefganebmlnaaGreatDoorProg
import Derived.KernelRfl
import Derived.WalkKit
import Derived.WalkSpells
import Derived.WalkLawsBesides
import Derived.Deep.QuietTactic
import Derived.BigQuiet
import Derived.ProofKit
import Derived.OpenShut
import Derived.Lib.Hide
namespace Go.Proofs
open Go.Shelf
def Tryz.lays156_ren:Go.Shelf.Ren:=⟨fun | 156 => 76 | 165 => 146 | 166 => 147 | 169 => 148 | 240 => 201 | 241 => 202 | 276 => 233 | 277 => 234 | n => n,fun | 31 => 102 | 9 => 9 | 3 => 3 | 4 => 4 | 0 => 0 | 20 => 20 | 72 => 207 | 76 => 186 | 70 => 205 | 37 => 42 | 75 => 185 | 127 => 249 | 164 => 275 | 5 => 5 | 80 => 209 | n => n,fun | n => n⟩
theorem Tryz.lays156:Go.Proofs.Lays.n156 Tryz.prog Tryz.lays156_ren:={
  mixed:=by kernel_rfl
  f156:=Tryz.func76.trans (congrArg some (by kernel_rfl))
  f165:=Tryz.func146.trans (congrArg some (by kernel_rfl))
  f166:=Tryz.func147.trans (congrArg some (by kernel_rfl))
  f169:=Tryz.func148.trans (congrArg some (by kernel_rfl))
  f240:=Tryz.func201.trans (congrArg some (by kernel_rfl))
  f241:=Tryz.func202.trans (congrArg some (by kernel_rfl))
  f276:=Tryz.func233.trans (congrArg some (by kernel_rfl))
  f277:=Tryz.func234.trans (congrArg some (by kernel_rfl))
  t0:=Tryz.underlying0
  a0:=Tryz.isAgg0
  z0:=Tryz.sizeOf0
  v0:=Tryz.zeroValue0
  t3:=Tryz.underlying3
  a3:=Tryz.isAgg3
  z3:=Tryz.sizeOf3
  v3:=Tryz.zeroValue3
  t4:=Tryz.underlying4
  a4:=Tryz.isAgg4
  z4:=Tryz.sizeOf4
  v4:=Tryz.zeroValue4
  t9:=Tryz.underlying9
  a9:=Tryz.isAgg9
  z9:=Tryz.sizeOf9
  v9:=Tryz.zeroValue9
  t20:=Tryz.underlying20
  a20:=Tryz.isAgg20
  z20:=Tryz.sizeOf20
  v20:=Tryz.zeroValue20
  t31:=Tryz.underlying102
  a31:=Tryz.isAgg102
  z31:=Tryz.sizeOf102
  v31:=Tryz.zeroValue102
  t37:=Tryz.underlying42
  a37:=Tryz.isAgg42
  z37:=Tryz.sizeOf42
  v37:=Tryz.zeroValue42
  t70:=Tryz.underlying205
  a70:=Tryz.isAgg205
  z70:=Tryz.sizeOf205
  v70:=Tryz.zeroValue205
  t72:=Tryz.underlying207
  a72:=Tryz.isAgg207
  z72:=Tryz.sizeOf207
  v72:=Tryz.zeroValue207
  t75:=Tryz.underlying185
  a75:=Tryz.isAgg185
  z75:=Tryz.sizeOf185
  v75:=Tryz.zeroValue185
  t76:=Tryz.underlying186
  a76:=Tryz.isAgg186
  z76:=Tryz.sizeOf186
  v76:=Tryz.zeroValue186
  t127:=Tryz.underlying249
  a127:=Tryz.isAgg249
  z127:=Tryz.sizeOf249
  v127:=Tryz.zeroValue249
  t164:=Tryz.underlying275
  a164:=Tryz.isAgg275
  z164:=Tryz.sizeOf275
  v164:=Tryz.zeroValue275 }
theorem Tryz.Builder_Extra_156:Builder.Extra Tryz.prog Tryz.lays156_ren:={
  sizeBuilder:=by kernel_rfl
  liesBuilder:=by kernel_rfl
  t5:=Tryz.underlying5
  a5:=Tryz.isAgg5
  z5:=Tryz.sizeOf5
  v5:=Tryz.zeroValue5
  infoByte:=by kernel_rfl
  cellsByte:=by kernel_rfl
  sizeByte:=by kernel_rfl
  neB5:=by decide }
def Tryz.laysM171_ren:Go.Shelf.Ren:=⟨fun | 171 => 143 | 243 => 199 | 246 => 232 | 283 => 250 | 284 => 251 | 285 => 252 | 286 => 253 | 129 => 215 | 317 => 259 | 318 => 260 | 319 => 261 | 320 => 262 | 337 => 263 | 338 => 264 | n => n,fun | 3 => 3 | 9 => 9 | 2 => 2 | 4 => 4 | 171 => 290 | 0 => 0 | 53 => 261 | 37 => 42 | 5 => 5 | 173 => 292 | 212 => 304 | 51 => 259 | 20 => 20 | 213 => 305 | 46 => 222 | 232 => 306 | 233 => 307 | n => n,fun | 17 => 3 | 18 => 4 | 19 => 5 | n => n⟩
theorem Tryz.laysM171:Go.Proofs.LaysM.n171 Tryz.prog Tryz.laysM171_ren:={
  mixed:=by kernel_rfl
  f129:=Tryz.func215.trans (congrArg some (by kernel_rfl))
  f171:=Tryz.func143.trans (congrArg some (by kernel_rfl))
  f243:=Tryz.func199.trans (congrArg some (by kernel_rfl))
  f246:=Tryz.func232.trans (congrArg some (by kernel_rfl))
  f283:=Tryz.func250.trans (congrArg some (by kernel_rfl))
  f284:=Tryz.func251.trans (congrArg some (by kernel_rfl))
  f285:=Tryz.func252.trans (congrArg some (by kernel_rfl))
  f286:=Tryz.func253.trans (congrArg some (by kernel_rfl))
  f317:=Tryz.func259.trans (congrArg some (by kernel_rfl))
  f318:=Tryz.func260.trans (congrArg some (by kernel_rfl))
  f319:=Tryz.func261.trans (congrArg some (by kernel_rfl))
  f320:=Tryz.func262.trans (congrArg some (by kernel_rfl))
  f337:=Tryz.func263.trans (congrArg some (by kernel_rfl))
  f338:=Tryz.func264.trans (congrArg some (by kernel_rfl))
  t0:=Tryz.underlying0
  a0:=Tryz.isAgg0
  z0:=Tryz.sizeOf0
  v0:=Tryz.zeroValue0
  t2:=Tryz.underlying2
  a2:=Tryz.isAgg2
  z2:=Tryz.sizeOf2
  v2:=Tryz.zeroValue2
  t3:=Tryz.underlying3
  a3:=Tryz.isAgg3
  z3:=Tryz.sizeOf3
  v3:=Tryz.zeroValue3
  t4:=Tryz.underlying4
  a4:=Tryz.isAgg4
  z4:=Tryz.sizeOf4
  v4:=Tryz.zeroValue4
  t5:=Tryz.underlying5
  a5:=Tryz.isAgg5
  z5:=Tryz.sizeOf5
  v5:=Tryz.zeroValue5
  t9:=Tryz.underlying9
  a9:=Tryz.isAgg9
  z9:=Tryz.sizeOf9
  v9:=Tryz.zeroValue9
  t20:=Tryz.underlying20
  a20:=Tryz.isAgg20
  z20:=Tryz.sizeOf20
  v20:=Tryz.zeroValue20
  t37:=Tryz.underlying42
  a37:=Tryz.isAgg42
  z37:=Tryz.sizeOf42
  v37:=Tryz.zeroValue42
  t46:=Tryz.underlying222
  a46:=Tryz.isAgg222
  z46:=Tryz.sizeOf222
  v46:=Tryz.zeroValue222
  t51:=Tryz.underlying259
  a51:=Tryz.isAgg259
  z51:=Tryz.sizeOf259
  v51:=Tryz.zeroValue259
  t53:=Tryz.underlying261
  a53:=Tryz.isAgg261
  z53:=Tryz.sizeOf261
  v53:=Tryz.zeroValue261
  t171:=Tryz.underlying290
  a171:=Tryz.isAgg290
  z171:=Tryz.sizeOf290
  v171:=Tryz.zeroValue290
  t173:=Tryz.underlying292
  a173:=Tryz.isAgg292
  z173:=Tryz.sizeOf292
  v173:=Tryz.zeroValue292
  t212:=Tryz.underlying304
  a212:=Tryz.isAgg304
  z212:=Tryz.sizeOf304
  v212:=Tryz.zeroValue304
  t213:=Tryz.underlying305
  a213:=Tryz.isAgg305
  z213:=Tryz.sizeOf305
  t232:=Tryz.underlying306
  a232:=Tryz.isAgg306
  z232:=Tryz.sizeOf306
  v232:=Tryz.zeroValue306
  t233:=Tryz.underlying307
  a233:=Tryz.isAgg307
  z233:=Tryz.sizeOf307
  v233:=Tryz.zeroValue307
  g17:=by kernel_rfl
  g18:=by kernel_rfl
  g19:=by kernel_rfl
  i0:=by kernel_rfl
  i2:=by kernel_rfl
  i3:=by kernel_rfl
  i4:=by kernel_rfl
  i5:=by kernel_rfl
  i9:=by kernel_rfl
  i20:=by kernel_rfl
  i37:=by kernel_rfl
  i46:=by kernel_rfl
  i51:=by kernel_rfl
  i53:=by kernel_rfl
  i171:=by kernel_rfl
  i173:=by kernel_rfl
  i212:=by kernel_rfl
  i232:=by kernel_rfl
  i233:=by kernel_rfl
  m17:=by kernel_rfl
  m18:=by kernel_rfl
  m19:=by kernel_rfl }
def Tryz.lays171_ren:Go.Shelf.Ren:=⟨fun | 171 => 143 | 243 => 199 | 246 => 232 | 283 => 250 | 284 => 251 | 285 => 252 | 286 => 253 | 129 => 215 | 317 => 259 | 318 => 260 | 319 => 261 | 320 => 262 | 337 => 263 | 338 => 264 | n => n,fun | 3 => 3 | 9 => 9 | 2 => 2 | 4 => 4 | 171 => 290 | 0 => 0 | 53 => 261 | 37 => 42 | 5 => 5 | 173 => 292 | 212 => 304 | 51 => 259 | 20 => 20 | 213 => 305 | 46 => 222 | 232 => 306 | 233 => 307 | n => n,fun | 17 => 3 | 18 => 4 | 19 => 5 | n => n⟩
theorem Tryz.lays171:Go.Proofs.Lays.n171 Tryz.prog Tryz.lays171_ren:={
  mixed:=by kernel_rfl
  f129:=Tryz.func215.trans (congrArg some (by kernel_rfl))
  f171:=Tryz.func143.trans (congrArg some (by kernel_rfl))
  f243:=Tryz.func199.trans (congrArg some (by kernel_rfl))
  f246:=Tryz.func232.trans (congrArg some (by kernel_rfl))
  f283:=Tryz.func250.trans (congrArg some (by kernel_rfl))
  f284:=Tryz.func251.trans (congrArg some (by kernel_rfl))
  f285:=Tryz.func252.trans (congrArg some (by kernel_rfl))
  f286:=Tryz.func253.trans (congrArg some (by kernel_rfl))
  f317:=Tryz.func259.trans (congrArg some (by kernel_rfl))
  f318:=Tryz.func260.trans (congrArg some (by kernel_rfl))
  f319:=Tryz.func261.trans (congrArg some (by kernel_rfl))
  f320:=Tryz.func262.trans (congrArg some (by kernel_rfl))
  f337:=Tryz.func263.trans (congrArg some (by kernel_rfl))
  f338:=Tryz.func264.trans (congrArg some (by kernel_rfl))
  t0:=Tryz.underlying0
  a0:=Tryz.isAgg0
  z0:=Tryz.sizeOf0
  v0:=Tryz.zeroValue0
  t2:=Tryz.underlying2
  a2:=Tryz.isAgg2
  z2:=Tryz.sizeOf2
  v2:=Tryz.zeroValue2
  t3:=Tryz.underlying3
  a3:=Tryz.isAgg3
  z3:=Tryz.sizeOf3
  v3:=Tryz.zeroValue3
  t4:=Tryz.underlying4
  a4:=Tryz.isAgg4
  z4:=Tryz.sizeOf4
  v4:=Tryz.zeroValue4
  t5:=Tryz.underlying5
  a5:=Tryz.isAgg5
  z5:=Tryz.sizeOf5
  v5:=Tryz.zeroValue5
  t9:=Tryz.underlying9
  a9:=Tryz.isAgg9
  z9:=Tryz.sizeOf9
  v9:=Tryz.zeroValue9
  t20:=Tryz.underlying20
  a20:=Tryz.isAgg20
  z20:=Tryz.sizeOf20
  v20:=Tryz.zeroValue20
  t37:=Tryz.underlying42
  a37:=Tryz.isAgg42
  z37:=Tryz.sizeOf42
  v37:=Tryz.zeroValue42
  t46:=Tryz.underlying222
  a46:=Tryz.isAgg222
  z46:=Tryz.sizeOf222
  v46:=Tryz.zeroValue222
  t51:=Tryz.underlying259
  a51:=Tryz.isAgg259
  z51:=Tryz.sizeOf259
  v51:=Tryz.zeroValue259
  t53:=Tryz.underlying261
  a53:=Tryz.isAgg261
  z53:=Tryz.sizeOf261
  v53:=Tryz.zeroValue261
  t171:=Tryz.underlying290
  a171:=Tryz.isAgg290
  z171:=Tryz.sizeOf290
  v171:=Tryz.zeroValue290
  t173:=Tryz.underlying292
  a173:=Tryz.isAgg292
  z173:=Tryz.sizeOf292
  v173:=Tryz.zeroValue292
  t212:=Tryz.underlying304
  a212:=Tryz.isAgg304
  z212:=Tryz.sizeOf304
  v212:=Tryz.zeroValue304
  t213:=Tryz.underlying305
  a213:=Tryz.isAgg305
  z213:=Tryz.sizeOf305
  t232:=Tryz.underlying306
  a232:=Tryz.isAgg306
  z232:=Tryz.sizeOf306
  v232:=Tryz.zeroValue306
  t233:=Tryz.underlying307
  a233:=Tryz.isAgg307
  z233:=Tryz.sizeOf307
  v233:=Tryz.zeroValue307
  g17:=by kernel_rfl
  g18:=by kernel_rfl
  g19:=by kernel_rfl }
def Tryz.lays137_ren:Go.Shelf.Ren:=⟨fun | 137 => 129 | 217 => 188 | 266 => 224 | n => n,fun | 9 => 9 | 5 => 5 | 3 => 3 | n => n,fun | n => n⟩
theorem Tryz.lays137:Go.Proofs.Lays.n137 Tryz.prog Tryz.lays137_ren:={
  mixed:=by kernel_rfl
  f137:=Tryz.func129.trans (congrArg some (by kernel_rfl))
  f217:=Tryz.func188.trans (congrArg some (by kernel_rfl))
  f266:=Tryz.func224.trans (congrArg some (by kernel_rfl))
  t3:=Tryz.underlying3
  a3:=Tryz.isAgg3
  z3:=Tryz.sizeOf3
  v3:=Tryz.zeroValue3
  t5:=Tryz.underlying5
  a5:=Tryz.isAgg5
  z5:=Tryz.sizeOf5
  v5:=Tryz.zeroValue5
  t9:=Tryz.underlying9
  a9:=Tryz.isAgg9
  z9:=Tryz.sizeOf9
  v9:=Tryz.zeroValue9 }
def Tryz.laysC172_ren:Go.Shelf.Ren:=⟨fun | 172 => 130 | 244 => 189 | 245 => 190 | 247 => 225 | 279 => 226 | 280 => 227 | 281 => 228 | 282 => 229 | 287 => 247 | 316 => 248 | 171 => 143 | 205 => 249 | 321 => 257 | 322 => 258 | 243 => 199 | 246 => 232 | 283 => 250 | 284 => 251 | 285 => 252 | 286 => 253 | 129 => 215 | 317 => 259 | 318 => 260 | 319 => 261 | 320 => 262 | 337 => 263 | 338 => 264 | n => n,fun | 9 => 9 | 3 => 3 | 75 => 185 | 76 => 186 | 4 => 4 | 5 => 5 | 167 => 267 | 37 => 42 | 0 => 0 | 85 => 268 | 2 => 2 | 168 => 270 | 53 => 261 | 175 => 284 | 46 => 222 | 210 => 288 | 127 => 249 | 145 => 302 | 143 => 300 | 21 => 21 | 171 => 290 | 173 => 292 | 212 => 304 | 51 => 259 | 20 => 20 | 213 => 305 | 232 => 306 | 233 => 307 | 80 => 209 | n => n,fun | 15 => 1 | 16 => 2 | 17 => 3 | 18 => 4 | 19 => 5 | n => n⟩
theorem Tryz.laysC172:Go.Proofs.LaysC.n172 Tryz.prog Tryz.laysC172_ren:={
  mixed:=by kernel_rfl
  f129:=Tryz.func215.trans (congrArg some (by kernel_rfl))
  f171:=Tryz.func143.trans (congrArg some (by kernel_rfl))
  f172:=Tryz.func130.trans (congrArg some (by kernel_rfl))
  f205:=Tryz.func249.trans (congrArg some (by kernel_rfl))
  f243:=Tryz.func199.trans (congrArg some (by kernel_rfl))
  f244:=Tryz.func189.trans (congrArg some (by kernel_rfl))
  f245:=Tryz.func190.trans (congrArg some (by kernel_rfl))
  f246:=Tryz.func232.trans (congrArg some (by kernel_rfl))
  f247:=Tryz.func225.trans (congrArg some (by kernel_rfl))
  f279:=Tryz.func226.trans (congrArg some (by kernel_rfl))
  f280:=Tryz.func227.trans (congrArg some (by kernel_rfl))
  f281:=Tryz.func228.trans (congrArg some (by kernel_rfl))
  f282:=Tryz.func229.trans (congrArg some (by kernel_rfl))
  f283:=Tryz.func250.trans (congrArg some (by kernel_rfl))
  f284:=Tryz.func251.trans (congrArg some (by kernel_rfl))
  f285:=Tryz.func252.trans (congrArg some (by kernel_rfl))
  f286:=Tryz.func253.trans (congrArg some (by kernel_rfl))
  f287:=Tryz.func247.trans (congrArg some (by kernel_rfl))
  f316:=Tryz.func248.trans (congrArg some (by kernel_rfl))
  f317:=Tryz.func259.trans (congrArg some (by kernel_rfl))
  f318:=Tryz.func260.trans (congrArg some (by kernel_rfl))
  f319:=Tryz.func261.trans (congrArg some (by kernel_rfl))
  f320:=Tryz.func262.trans (congrArg some (by kernel_rfl))
  f321:=Tryz.func257.trans (congrArg some (by kernel_rfl))
  f322:=Tryz.func258.trans (congrArg some (by kernel_rfl))
  f337:=Tryz.func263.trans (congrArg some (by kernel_rfl))
  f338:=Tryz.func264.trans (congrArg some (by kernel_rfl))
  t0:=Tryz.underlying0
  a0:=Tryz.isAgg0
  z0:=Tryz.sizeOf0
  v0:=Tryz.zeroValue0
  t2:=Tryz.underlying2
  a2:=Tryz.isAgg2
  z2:=Tryz.sizeOf2
  v2:=Tryz.zeroValue2
  t3:=Tryz.underlying3
  a3:=Tryz.isAgg3
  z3:=Tryz.sizeOf3
  v3:=Tryz.zeroValue3
  t4:=Tryz.underlying4
  a4:=Tryz.isAgg4
  z4:=Tryz.sizeOf4
  v4:=Tryz.zeroValue4
  t5:=Tryz.underlying5
  a5:=Tryz.isAgg5
  z5:=Tryz.sizeOf5
  v5:=Tryz.zeroValue5
  t9:=Tryz.underlying9
  a9:=Tryz.isAgg9
  z9:=Tryz.sizeOf9
  v9:=Tryz.zeroValue9
  t20:=Tryz.underlying20
  a20:=Tryz.isAgg20
  z20:=Tryz.sizeOf20
  v20:=Tryz.zeroValue20
  t21:=Tryz.underlying21
  a21:=Tryz.isAgg21
  z21:=Tryz.sizeOf21
  v21:=Tryz.zeroValue21
  t37:=Tryz.underlying42
  a37:=Tryz.isAgg42
  z37:=Tryz.sizeOf42
  v37:=Tryz.zeroValue42
  t46:=Tryz.underlying222
  a46:=Tryz.isAgg222
  z46:=Tryz.sizeOf222
  v46:=Tryz.zeroValue222
  t51:=Tryz.underlying259
  a51:=Tryz.isAgg259
  z51:=Tryz.sizeOf259
  v51:=Tryz.zeroValue259
  t53:=Tryz.underlying261
  a53:=Tryz.isAgg261
  z53:=Tryz.sizeOf261
  v53:=Tryz.zeroValue261
  t75:=Tryz.underlying185
  a75:=Tryz.isAgg185
  z75:=Tryz.sizeOf185
  v75:=Tryz.zeroValue185
  t76:=Tryz.underlying186
  a76:=Tryz.isAgg186
  z76:=Tryz.sizeOf186
  v76:=Tryz.zeroValue186
  t85:=Tryz.underlying268
  a85:=Tryz.isAgg268
  z85:=Tryz.sizeOf268
  v85:=Tryz.zeroValue268
  t127:=Tryz.underlying249
  a127:=Tryz.isAgg249
  z127:=Tryz.sizeOf249
  v127:=Tryz.zeroValue249
  t143:=Tryz.underlying300
  a143:=Tryz.isAgg300
  z143:=Tryz.sizeOf300
  v143:=Tryz.zeroValue300
  t145:=Tryz.underlying302
  a145:=Tryz.isAgg302
  z145:=Tryz.sizeOf302
  v145:=Tryz.zeroValue302
  t167:=Tryz.underlying267
  a167:=Tryz.isAgg267
  z167:=Tryz.sizeOf267
  v167:=Tryz.zeroValue267
  t168:=Tryz.underlying270
  a168:=Tryz.isAgg270
  z168:=Tryz.sizeOf270
  v168:=Tryz.zeroValue270
  t171:=Tryz.underlying290
  a171:=Tryz.isAgg290
  z171:=Tryz.sizeOf290
  v171:=Tryz.zeroValue290
  t173:=Tryz.underlying292
  a173:=Tryz.isAgg292
  z173:=Tryz.sizeOf292
  v173:=Tryz.zeroValue292
  t175:=Tryz.underlying284
  a175:=Tryz.isAgg284
  z175:=Tryz.sizeOf284
  v175:=Tryz.zeroValue284
  t210:=Tryz.underlying288
  a210:=Tryz.isAgg288
  z210:=Tryz.sizeOf288
  v210:=Tryz.zeroValue288
  t212:=Tryz.underlying304
  a212:=Tryz.isAgg304
  z212:=Tryz.sizeOf304
  v212:=Tryz.zeroValue304
  t213:=Tryz.underlying305
  a213:=Tryz.isAgg305
  z213:=Tryz.sizeOf305
  t232:=Tryz.underlying306
  a232:=Tryz.isAgg306
  z232:=Tryz.sizeOf306
  v232:=Tryz.zeroValue306
  t233:=Tryz.underlying307
  a233:=Tryz.isAgg307
  z233:=Tryz.sizeOf307
  v233:=Tryz.zeroValue307
  g15:=by kernel_rfl
  g16:=by kernel_rfl
  g17:=by kernel_rfl
  g18:=by kernel_rfl
  g19:=by kernel_rfl
  t80:=Tryz.underlying209
  a80:=Tryz.isAgg209
  z80:=Tryz.sizeOf209
  v80:=Tryz.zeroValue209
  i0:=by kernel_rfl
  i2:=by kernel_rfl
  i3:=by kernel_rfl
  i4:=by kernel_rfl
  i5:=by kernel_rfl
  i9:=by kernel_rfl
  i20:=by kernel_rfl
  i21:=by kernel_rfl
  i37:=by kernel_rfl
  i46:=by kernel_rfl
  i51:=by kernel_rfl
  i53:=by kernel_rfl
  i75:=by kernel_rfl
  i76:=by kernel_rfl
  i80:=by kernel_rfl
  i85:=by kernel_rfl
  i127:=by kernel_rfl
  i143:=by kernel_rfl
  i145:=by kernel_rfl
  i167:=by kernel_rfl
  i168:=by kernel_rfl
  i171:=by kernel_rfl
  i173:=by kernel_rfl
  i175:=by kernel_rfl
  i210:=by kernel_rfl
  i212:=by kernel_rfl
  i232:=by kernel_rfl
  i233:=by kernel_rfl
  m15:=by kernel_rfl
  m16:=by kernel_rfl
  m17:=by kernel_rfl
  m18:=by kernel_rfl
  m19:=by kernel_rfl
  c0:=by kernel_rfl
  c2:=by kernel_rfl
  c3:=by kernel_rfl
  c4:=by kernel_rfl
  c5:=by kernel_rfl
  c9:=by kernel_rfl
  c20:=by kernel_rfl
  c21:=by kernel_rfl
  c37:=by kernel_rfl
  c46:=by kernel_rfl
  c51:=by kernel_rfl
  c53:=by kernel_rfl
  c75:=by kernel_rfl
  c76:=by kernel_rfl
  c80:=by kernel_rfl
  c85:=by kernel_rfl
  c127:=by kernel_rfl
  c143:=by kernel_rfl
  c145:=by kernel_rfl
  c167:=by kernel_rfl
  c168:=by kernel_rfl
  c171:=by kernel_rfl
  c173:=by kernel_rfl
  c175:=by kernel_rfl
  c210:=by kernel_rfl
  c212:=by kernel_rfl
  c213:=by kernel_rfl
  c232:=by kernel_rfl
  c233:=by kernel_rfl }
open Go.ChangeShapes Go.WideShapes Go.ChangeAt Go.RowKit Go.Abs in
theorem Tryz.within_anyP (n lo hi:Int) (w:World) :
    Calls Tryz.prog 90 #[.int .i64 n,.int .i64 lo,.int .i64 hi] w fun e w' => e = .returned (.bool (decide (lo <= n) && decide (n <= hi))) /\ w = w':=by
  by_cases h1:lo <= n
  · by_cases h2:n <= hi <;>
    · go_enter Tryz.func90,Tryz.ntmps90
      go_wp2
      go_ret
      exact ⟨by congr 2; simp; omega,rfl⟩
  · go_enter Tryz.func90,Tryz.ntmps90
    go_wp2
    go_ret
    exact ⟨by congr 2; simp; omega,rfl⟩
def fmtP (n:Int):List UInt8:=if -100000 <= n /\ n <= 100000 then Lib.itoa n else []
open Go.ChangeShapes Go.WideShapes Go.ChangeAt Go.RowKit Go.Abs in
set_option maxHeartbeats 1000000 in
theorem Tryz.formatInt_any (n : Int) (w : World) (ht : Lib.TabIs Tryz.prog w "internal/strconv.uint64pow10" .u64 Lib.pow10Tab) :
    Calls Tryz.prog 70 #[.int .i64 n] w fun e w' => e = .returned (.string ⟨(fmtP n).toArray⟩) /\ Below w.heap.size w w':=by
  by_cases h:-100000 <= n /\ n <= 100000
  · have hb:(decide ((-100000:Int) <= n) && decide (n <= 100000)) = true:=by simp; exact h
    have hi:=Any.strconv_Itoa Tryz.laysM171 n (by omega) (by omega) w ht
    have HN:=Lib.hid (show fmtP n = Lib.itoa n from if_pos h)
    clear h ht
    go_enter Tryz.func70,Tryz.ntmps70
    go_wp2_with (first
      | (go_at_call 90; refine (Tryz.within_anyP _ _ _ _).mono ?_; rintro e w' ⟨rfl,rfl⟩)
      | (go_at_call 143; refine hi.mono ?_; rintro e w' ⟨rfl,k,os,rfl⟩))
    go_ret
    exact ⟨by rw [HN.out]; rfl,Yd w k os⟩
  · have hb:(decide ((-100000:Int) <= n) && decide (n <= 100000)) = false:=by simp; omega
    have HN:=Lib.hid (show fmtP n = [] from if_neg h)
    clear h
    go_enter Tryz.func70,Tryz.ntmps70
    go_wp2_with (go_at_call 90; refine (Tryz.within_anyP _ _ _ _).mono ?_; rintro e w' ⟨rfl,rfl⟩)
    go_ret
    exact ⟨by rw [HN.out]; rfl,Below.refl _ _⟩
open Go.ChangeShapes Go.WideShapes Go.ChangeAt Go.RowKit Go.Abs in
set_option maxHeartbeats 4000000 in
theorem Tryz.parseInt_any (s : List UInt8) (w : World) (ht : Lib.TabIs Tryz.prog w "internal/strconv.uint64pow10" .u64 Lib.pow10Tab) (h1 : ∃ t p, w.cell? ⟨1, 0, none⟩ = some (.iface t p)) (h2 : ∃ t p, w.cell? ⟨2, 0, none⟩ = some (.iface t p)) (hl : s.length ≤ 1099511627776) :
    Calls Tryz.prog 59 #[.string ⟨s.toArray⟩] w fun e w' => e = .returned (.tuple #[.int .i64 (pI s).1,.bool (pI s).2]) /\ Below w.heap.size w w':=by
  obtain ⟨t1,p1,h1⟩:=h1
  obtain ⟨t2,p2,h2⟩:=h2
  have hsz:(⟨s.toArray⟩:ByteArray).size = s.length:=by simp [ByteArray.size]
  cases hA:Lib.atoiAll s
  case ok n =>
    have hat:=Any.strconv_Atoi_ok Tryz.laysC172 ⟨s.toArray⟩ (by omega) n hA w
    have hne:s ≠ []:=fun e => by rw [e] at hA; cases hA
    by_cases hq:fmtP n = s
    · have HN:=Lib.hid (show pI s = (n,true) by
        unfold pI
        rw [hA]
        unfold fmtP at hq
        split at hq
        · rename_i hr
          simp only
          rw [if_pos ⟨hr.1,hr.2,hq⟩]
        · exact absurd hq.symm hne)
      have hfm:=fun w' (hb:Below w.heap.size w w') => Tryz.formatInt_any n w' (Aaj ht hb)
      have X:AsideP ((∀ w',Below w.heap.size w w' -> Calls Tryz.prog 70 #[.int .i64 n] w' fun e w2 => e = .returned (.string ⟨(fmtP n).toArray⟩) /\ Below w'.heap.size w' w2) /\ fmtP n = s /\ s ≠ []):=⟨hfm,hq,hne⟩
      clear hA h1 h2 ht hsz hl hq hne hfm
      go_enter Tryz.func59,Tryz.ntmps59
      go_wp2_with (first
        | (go_at_call 130; refine hat.mono ?_; rintro e w' ⟨rfl,hW⟩)
        | (go_at_call 70; refine (X.out.1 _ (by
            rcases hW with rfl | ⟨t,rfl⟩
            · exact Below.refl _ _
            · exact Lib.bytesWorld_below _ _ _)).mono ?_; rintro e w2 ⟨rfl,hb⟩))
      · exact absurd ‹s = []› X.out.2.2
      · rename_i h
        exfalso
        rcases h with h | h
        · exact X.out.2.2 (List.isEmpty_iff.1 h)
        · rw [X.out.2.1] at h
          simp at h
      · go_ret2
        exact ⟨by rw [HN.out]; rfl,by
          have hb1:Below w.heap.size w w':=by
            rcases hW with rfl | ⟨t,rfl⟩
            · exact Below.refl _ _
            · exact Lib.bytesWorld_below _ _ _
          exact hb1.trans (hb.mono hb1.size)⟩
    · have HN:=Lib.hid (show pI s = (0,false) by
        unfold pI
        rw [hA]
        unfold fmtP at hq
        split at hq
        · rename_i hr
          simp only
          rw [if_neg fun h => hq h.2.2]
        · rename_i hr
          simp only
          rw [if_neg fun h => hr ⟨h.1,h.2.1⟩])
      have hfm:=fun w' (hb:Below w.heap.size w w') => Tryz.formatInt_any n w' (Aaj ht hb)
      have X:AsideP ((∀ w',Below w.heap.size w w' -> Calls Tryz.prog 70 #[.int .i64 n] w' fun e w2 => e = .returned (.string ⟨(fmtP n).toArray⟩) /\ Below w'.heap.size w' w2) /\ ¬ fmtP n = s /\ s ≠ []):=⟨hfm,hq,hne⟩
      clear hA h1 h2 ht hsz hl hq hne hfm
      go_enter Tryz.func59,Tryz.ntmps59
      go_wp2_with (first
        | (go_at_call 130; refine hat.mono ?_; rintro e w' ⟨rfl,hW⟩)
        | (go_at_call 70; refine (X.out.1 _ (by
            rcases hW with rfl | ⟨t,rfl⟩
            · exact Below.refl _ _
            · exact Lib.bytesWorld_below _ _ _)).mono ?_; rintro e w2 ⟨rfl,hb⟩))
      · exact absurd ‹s = []› X.out.2.2
      · go_ret2
        exact ⟨by rw [HN.out]; rfl,by
          have hb1:Below w.heap.size w w':=by
            rcases hW with rfl | ⟨t,rfl⟩
            · exact Below.refl _ _
            · exact Lib.bytesWorld_below _ _ _
          exact hb1.trans (hb.mono hb1.size)⟩
      · rename_i h
        exfalso
        refine X.out.2.1 ?_
        have:=h.2
        simpa using this
  case range =>
    have hat:=Any.strconv_Atoi_range Tryz.laysC172 ⟨s.toArray⟩ (by omega) hA _ w h2 (.inr ⟨t2,p2,rfl⟩)
    have HN:=Lib.hid (show pI s = (0,false) by unfold pI; rw [hA])
    clear hA h1 h2 ht hsz hl
    go_enter Tryz.func59,Tryz.ntmps59
    go_wp2_with (go_at_call 130; refine hat.mono ?_; rintro e w' ⟨N,rfl,k1,k2,k3⟩)
    go_ret2
    exact ⟨by rw [HN.out]; rfl,k3⟩
  next =>
    have hat:=Any.strconv_Atoi_syntax Tryz.laysC172 ⟨s.toArray⟩ (by omega) hA _ w h1 (.inr ⟨t1,p1,rfl⟩)
    have HN:=Lib.hid (show pI s = (0,false) by unfold pI; rw [hA])
    clear hA h1 h2 ht hsz hl
    go_enter Tryz.func59,Tryz.ntmps59
    go_wp2_with (go_at_call 130; refine hat.mono ?_; rintro e w' ⟨N,rfl,k1,k2,k3⟩)
    go_ret2
    exact ⟨by rw [HN.out]; rfl,k3⟩
end Go.Proofs
