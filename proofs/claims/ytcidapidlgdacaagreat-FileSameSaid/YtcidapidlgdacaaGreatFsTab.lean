import Derived.Test.YtcidapidlgdacaaGreatProg
import Derived.Test.YtcidapidlgdacaaGreatFlH
import Derived.KernelRfl
set_option linter.unusedVariables false
namespace Go.Proofs.YtcidapidlgdacaaGreat
open Go.FL
@[go_sem] theorem tb_info102 : tinfo Tryz.prog 102 = some (1, false) := by kernel_rfl
@[go_sem] theorem tb_arr102 : tarr Tryz.prog 102 = none := by kernel_rfl
@[go_sem] theorem tb_info106 : tinfo Tryz.prog 106 = some (1, false) := by kernel_rfl
@[go_sem] theorem tb_arr106 : tarr Tryz.prog 106 = none := by kernel_rfl
@[go_sem] theorem tb_info118 : tinfo Tryz.prog 118 = some (1, false) := by kernel_rfl
@[go_sem] theorem tb_arr118 : tarr Tryz.prog 118 = none := by kernel_rfl
@[go_sem] theorem tb_info119 : tinfo Tryz.prog 119 = some (1, false) := by kernel_rfl
@[go_sem] theorem tb_arr119 : tarr Tryz.prog 119 = none := by kernel_rfl
@[go_sem] theorem tb_info122 : tinfo Tryz.prog 122 = some (1, false) := by kernel_rfl
@[go_sem] theorem tb_arr122 : tarr Tryz.prog 122 = none := by kernel_rfl
@[go_sem] theorem tb_info126 : tinfo Tryz.prog 126 = some (1, false) := by kernel_rfl
@[go_sem] theorem tb_arr126 : tarr Tryz.prog 126 = none := by kernel_rfl
@[go_sem] theorem tb_info157 : tinfo Tryz.prog 157 = some (1, false) := by kernel_rfl
@[go_sem] theorem tb_arr157 : tarr Tryz.prog 157 = none := by kernel_rfl
@[go_sem] theorem tb_info216 : tinfo Tryz.prog 216 = some (1, false) := by kernel_rfl
@[go_sem] theorem tb_arr216 : tarr Tryz.prog 216 = none := by kernel_rfl
@[go_sem] theorem tb_info226 : tinfo Tryz.prog 226 = some (16, true) := by kernel_rfl
@[go_sem] theorem tb_arr226 : tarr Tryz.prog 226 = some (4, 48, 4) := by kernel_rfl
@[go_sem] theorem tb_info48 : tinfo Tryz.prog 48 = some (4, true) := by kernel_rfl
@[go_sem] theorem tb_info23 : tinfo Tryz.prog 23 = some (1, false) := by kernel_rfl
@[go_sem] theorem tb_arr23 : tarr Tryz.prog 23 = none := by kernel_rfl
@[go_sem] theorem tb_info235 : tinfo Tryz.prog 235 = some (1, false) := by kernel_rfl
@[go_sem] theorem tb_arr235 : tarr Tryz.prog 235 = none := by kernel_rfl
@[go_sem] theorem tb_info236 : tinfo Tryz.prog 236 = some (1, false) := by kernel_rfl
@[go_sem] theorem tb_arr236 : tarr Tryz.prog 236 = none := by kernel_rfl
@[go_sem] theorem tb_info24 : tinfo Tryz.prog 24 = some (1, false) := by kernel_rfl
@[go_sem] theorem tb_arr24 : tarr Tryz.prog 24 = none := by kernel_rfl
@[go_sem] theorem tb_info246 : tinfo Tryz.prog 246 = some (1, false) := by kernel_rfl
@[go_sem] theorem tb_arr246 : tarr Tryz.prog 246 = none := by kernel_rfl
@[go_sem] theorem tb_info255 : tinfo Tryz.prog 255 = some (1, false) := by kernel_rfl
@[go_sem] theorem tb_arr255 : tarr Tryz.prog 255 = none := by kernel_rfl
@[go_sem] theorem tb_info27 : tinfo Tryz.prog 27 = some (1, false) := by kernel_rfl
@[go_sem] theorem tb_arr27 : tarr Tryz.prog 27 = none := by kernel_rfl
@[go_sem] theorem tb_info28 : tinfo Tryz.prog 28 = some (1, false) := by kernel_rfl
@[go_sem] theorem tb_arr28 : tarr Tryz.prog 28 = none := by kernel_rfl
@[go_sem] theorem tb_info283 : tinfo Tryz.prog 283 = some (1, false) := by kernel_rfl
@[go_sem] theorem tb_arr283 : tarr Tryz.prog 283 = none := by kernel_rfl
@[go_sem] theorem tb_info286 : tinfo Tryz.prog 286 = some (1, false) := by kernel_rfl
@[go_sem] theorem tb_arr286 : tarr Tryz.prog 286 = none := by kernel_rfl
@[go_sem] theorem tb_info292 : tinfo Tryz.prog 292 = some (6, true) := by kernel_rfl
@[go_sem] theorem tb_arr292 : tarr Tryz.prog 292 = some (6, 3, 1) := by kernel_rfl
@[go_sem] theorem tb_info3 : tinfo Tryz.prog 3 = some (1, false) := by kernel_rfl
@[go_sem] theorem tb_info321 : tinfo Tryz.prog 321 = some (1, false) := by kernel_rfl
@[go_sem] theorem tb_arr321 : tarr Tryz.prog 321 = none := by kernel_rfl
@[go_sem] theorem tb_info44 : tinfo Tryz.prog 44 = some (1, false) := by kernel_rfl
@[go_sem] theorem tb_arr44 : tarr Tryz.prog 44 = none := by kernel_rfl
@[go_sem] theorem tb_info49 : tinfo Tryz.prog 49 = some (1, false) := by kernel_rfl
@[go_sem] theorem tb_arr49 : tarr Tryz.prog 49 = none := by kernel_rfl
@[go_sem] theorem tb_info58 : tinfo Tryz.prog 58 = some (1, false) := by kernel_rfl
@[go_sem] theorem tb_arr58 : tarr Tryz.prog 58 = none := by kernel_rfl
@[go_sem] theorem tb_info71 : tinfo Tryz.prog 71 = some (1, false) := by kernel_rfl
@[go_sem] theorem tb_arr71 : tarr Tryz.prog 71 = none := by kernel_rfl
@[go_sem] theorem tb_info72 : tinfo Tryz.prog 72 = some (1, false) := by kernel_rfl
@[go_sem] theorem tb_arr72 : tarr Tryz.prog 72 = none := by kernel_rfl
@[go_sem] theorem tb_info9 : tinfo Tryz.prog 9 = some (1, false) := by kernel_rfl
@[go_sem] theorem tb_arr9 : tarr Tryz.prog 9 = none := by kernel_rfl
@[go_sem] theorem tb_elem102 : telem Tryz.prog 102 = some (48, 4, 32) := by kernel_rfl
@[go_sem] theorem tb_sl102 : tslice Tryz.prog 102 = true := by kernel_rfl
@[go_sem] theorem tb_str102 : tstr Tryz.prog 102 = false := by kernel_rfl
@[go_sem] theorem tb_elem106 : telem Tryz.prog 106 = some (111, 3, 64) := by kernel_rfl
@[go_sem] theorem tb_sl106 : tslice Tryz.prog 106 = true := by kernel_rfl
@[go_sem] theorem tb_str106 : tstr Tryz.prog 106 = false := by kernel_rfl
@[go_sem] theorem tb_elem118 : telem Tryz.prog 118 = some (119, 1, 24) := by kernel_rfl
@[go_sem] theorem tb_sl118 : tslice Tryz.prog 118 = true := by kernel_rfl
@[go_sem] theorem tb_str118 : tstr Tryz.prog 118 = false := by kernel_rfl
@[go_sem] theorem tb_elem119 : telem Tryz.prog 119 = some (161, 1, 8) := by kernel_rfl
@[go_sem] theorem tb_sl119 : tslice Tryz.prog 119 = true := by kernel_rfl
@[go_sem] theorem tb_str119 : tstr Tryz.prog 119 = false := by kernel_rfl
@[go_sem] theorem tb_elem122 : telem Tryz.prog 122 = some (125, 5, 40) := by kernel_rfl
@[go_sem] theorem tb_sl122 : tslice Tryz.prog 122 = true := by kernel_rfl
@[go_sem] theorem tb_str122 : tstr Tryz.prog 122 = false := by kernel_rfl
@[go_sem] theorem tb_elem126 : telem Tryz.prog 126 = some (215, 6, 80) := by kernel_rfl
@[go_sem] theorem tb_sl126 : tslice Tryz.prog 126 = true := by kernel_rfl
@[go_sem] theorem tb_str126 : tstr Tryz.prog 126 = false := by kernel_rfl
@[go_sem] theorem tb_info130 : tinfo Tryz.prog 130 = some (1, false) := by kernel_rfl
@[go_sem] theorem tb_elem130 : telem Tryz.prog 130 = none := by kernel_rfl
@[go_sem] theorem tb_sl130 : tslice Tryz.prog 130 = false := by kernel_rfl
@[go_sem] theorem tb_str130 : tstr Tryz.prog 130 = false := by kernel_rfl
@[go_sem] theorem tb_elem157 : telem Tryz.prog 157 = some (160, 4, 32) := by kernel_rfl
@[go_sem] theorem tb_sl157 : tslice Tryz.prog 157 = true := by kernel_rfl
@[go_sem] theorem tb_str157 : tstr Tryz.prog 157 = false := by kernel_rfl
@[go_sem] theorem tb_info21 : tinfo Tryz.prog 21 = some (1, false) := by kernel_rfl
@[go_sem] theorem tb_elem21 : telem Tryz.prog 21 = none := by kernel_rfl
@[go_sem] theorem tb_sl21 : tslice Tryz.prog 21 = false := by kernel_rfl
@[go_sem] theorem tb_str21 : tstr Tryz.prog 21 = false := by kernel_rfl
@[go_sem] theorem tb_elem216 : telem Tryz.prog 216 = some (266, 3, 40) := by kernel_rfl
@[go_sem] theorem tb_sl216 : tslice Tryz.prog 216 = true := by kernel_rfl
@[go_sem] theorem tb_str216 : tstr Tryz.prog 216 = false := by kernel_rfl
@[go_sem] theorem tb_info22 : tinfo Tryz.prog 22 = some (1, false) := by kernel_rfl
@[go_sem] theorem tb_elem22 : telem Tryz.prog 22 = none := by kernel_rfl
@[go_sem] theorem tb_sl22 : tslice Tryz.prog 22 = false := by kernel_rfl
@[go_sem] theorem tb_str22 : tstr Tryz.prog 22 = false := by kernel_rfl
@[go_sem] theorem tb_elem226 : telem Tryz.prog 226 = none := by kernel_rfl
@[go_sem] theorem tb_sl226 : tslice Tryz.prog 226 = false := by kernel_rfl
@[go_sem] theorem tb_str226 : tstr Tryz.prog 226 = false := by kernel_rfl
@[go_sem] theorem tb_elem23 : telem Tryz.prog 23 = some (3, 1, 8) := by kernel_rfl
@[go_sem] theorem tb_sl23 : tslice Tryz.prog 23 = true := by kernel_rfl
@[go_sem] theorem tb_str23 : tstr Tryz.prog 23 = false := by kernel_rfl
@[go_sem] theorem tb_elem235 : telem Tryz.prog 235 = some (241, 3, 24) := by kernel_rfl
@[go_sem] theorem tb_sl235 : tslice Tryz.prog 235 = true := by kernel_rfl
@[go_sem] theorem tb_str235 : tstr Tryz.prog 235 = false := by kernel_rfl
@[go_sem] theorem tb_elem236 : telem Tryz.prog 236 = some (245, 10, 80) := by kernel_rfl
@[go_sem] theorem tb_sl236 : tslice Tryz.prog 236 = true := by kernel_rfl
@[go_sem] theorem tb_str236 : tstr Tryz.prog 236 = false := by kernel_rfl
@[go_sem] theorem tb_elem24 : telem Tryz.prog 24 = some (23, 1, 24) := by kernel_rfl
@[go_sem] theorem tb_sl24 : tslice Tryz.prog 24 = true := by kernel_rfl
@[go_sem] theorem tb_str24 : tstr Tryz.prog 24 = false := by kernel_rfl
@[go_sem] theorem tb_elem246 : telem Tryz.prog 246 = some (249, 6, 48) := by kernel_rfl
@[go_sem] theorem tb_sl246 : tslice Tryz.prog 246 = true := by kernel_rfl
@[go_sem] theorem tb_str246 : tstr Tryz.prog 246 = false := by kernel_rfl
@[go_sem] theorem tb_elem255 : telem Tryz.prog 255 = some (319, 9, 72) := by kernel_rfl
@[go_sem] theorem tb_sl255 : tslice Tryz.prog 255 = true := by kernel_rfl
@[go_sem] theorem tb_str255 : tstr Tryz.prog 255 = false := by kernel_rfl
@[go_sem] theorem tb_elem27 : telem Tryz.prog 27 = some (36, 2, 32) := by kernel_rfl
@[go_sem] theorem tb_sl27 : tslice Tryz.prog 27 = true := by kernel_rfl
@[go_sem] theorem tb_str27 : tstr Tryz.prog 27 = false := by kernel_rfl
@[go_sem] theorem tb_elem28 : telem Tryz.prog 28 = some (5, 1, 1) := by kernel_rfl
@[go_sem] theorem tb_sl28 : tslice Tryz.prog 28 = true := by kernel_rfl
@[go_sem] theorem tb_str28 : tstr Tryz.prog 28 = false := by kernel_rfl
@[go_sem] theorem tb_info281 : tinfo Tryz.prog 281 = some (1, false) := by kernel_rfl
@[go_sem] theorem tb_elem281 : telem Tryz.prog 281 = none := by kernel_rfl
@[go_sem] theorem tb_sl281 : tslice Tryz.prog 281 = false := by kernel_rfl
@[go_sem] theorem tb_str281 : tstr Tryz.prog 281 = false := by kernel_rfl
@[go_sem] theorem tb_elem283 : telem Tryz.prog 283 = some (288, 3, 40) := by kernel_rfl
@[go_sem] theorem tb_sl283 : tslice Tryz.prog 283 = true := by kernel_rfl
@[go_sem] theorem tb_str283 : tstr Tryz.prog 283 = false := by kernel_rfl
@[go_sem] theorem tb_elem286 : telem Tryz.prog 286 = some (354, 3, 24) := by kernel_rfl
@[go_sem] theorem tb_sl286 : tslice Tryz.prog 286 = true := by kernel_rfl
@[go_sem] theorem tb_str286 : tstr Tryz.prog 286 = false := by kernel_rfl
@[go_sem] theorem tb_elem292 : telem Tryz.prog 292 = none := by kernel_rfl
@[go_sem] theorem tb_sl292 : tslice Tryz.prog 292 = false := by kernel_rfl
@[go_sem] theorem tb_str292 : tstr Tryz.prog 292 = false := by kernel_rfl
@[go_sem] theorem tb_elem3 : telem Tryz.prog 3 = none := by kernel_rfl
@[go_sem] theorem tb_sl3 : tslice Tryz.prog 3 = false := by kernel_rfl
@[go_sem] theorem tb_str3 : tstr Tryz.prog 3 = false := by kernel_rfl
@[go_sem] theorem tb_info311 : tinfo Tryz.prog 311 = some (1, false) := by kernel_rfl
@[go_sem] theorem tb_elem311 : telem Tryz.prog 311 = none := by kernel_rfl
@[go_sem] theorem tb_sl311 : tslice Tryz.prog 311 = false := by kernel_rfl
@[go_sem] theorem tb_str311 : tstr Tryz.prog 311 = false := by kernel_rfl
@[go_sem] theorem tb_elem321 : telem Tryz.prog 321 = some (255, 1, 24) := by kernel_rfl
@[go_sem] theorem tb_sl321 : tslice Tryz.prog 321 = true := by kernel_rfl
@[go_sem] theorem tb_str321 : tstr Tryz.prog 321 = false := by kernel_rfl
@[go_sem] theorem tb_info331 : tinfo Tryz.prog 331 = some (1, false) := by kernel_rfl
@[go_sem] theorem tb_elem331 : telem Tryz.prog 331 = none := by kernel_rfl
@[go_sem] theorem tb_sl331 : tslice Tryz.prog 331 = false := by kernel_rfl
@[go_sem] theorem tb_str331 : tstr Tryz.prog 331 = false := by kernel_rfl
@[go_sem] theorem tb_elem44 : telem Tryz.prog 44 = some (55, 2, 32) := by kernel_rfl
@[go_sem] theorem tb_sl44 : tslice Tryz.prog 44 = true := by kernel_rfl
@[go_sem] theorem tb_str44 : tstr Tryz.prog 44 = false := by kernel_rfl
@[go_sem] theorem tb_elem49 : telem Tryz.prog 49 = some (96, 4, 32) := by kernel_rfl
@[go_sem] theorem tb_sl49 : tslice Tryz.prog 49 = true := by kernel_rfl
@[go_sem] theorem tb_str49 : tstr Tryz.prog 49 = false := by kernel_rfl
@[go_sem] theorem tb_info5 : tinfo Tryz.prog 5 = some (1, false) := by kernel_rfl
@[go_sem] theorem tb_elem5 : telem Tryz.prog 5 = none := by kernel_rfl
@[go_sem] theorem tb_sl5 : tslice Tryz.prog 5 = false := by kernel_rfl
@[go_sem] theorem tb_str5 : tstr Tryz.prog 5 = false := by kernel_rfl
@[go_sem] theorem tb_info56 : tinfo Tryz.prog 56 = some (1, false) := by kernel_rfl
@[go_sem] theorem tb_elem56 : telem Tryz.prog 56 = none := by kernel_rfl
@[go_sem] theorem tb_sl56 : tslice Tryz.prog 56 = false := by kernel_rfl
@[go_sem] theorem tb_str56 : tstr Tryz.prog 56 = false := by kernel_rfl
@[go_sem] theorem tb_info57 : tinfo Tryz.prog 57 = some (1, false) := by kernel_rfl
@[go_sem] theorem tb_elem57 : telem Tryz.prog 57 = none := by kernel_rfl
@[go_sem] theorem tb_sl57 : tslice Tryz.prog 57 = false := by kernel_rfl
@[go_sem] theorem tb_str57 : tstr Tryz.prog 57 = false := by kernel_rfl
@[go_sem] theorem tb_elem58 : telem Tryz.prog 58 = some (99, 2, 16) := by kernel_rfl
@[go_sem] theorem tb_sl58 : tslice Tryz.prog 58 = true := by kernel_rfl
@[go_sem] theorem tb_str58 : tstr Tryz.prog 58 = false := by kernel_rfl
@[go_sem] theorem tb_info59 : tinfo Tryz.prog 59 = some (1, false) := by kernel_rfl
@[go_sem] theorem tb_elem59 : telem Tryz.prog 59 = none := by kernel_rfl
@[go_sem] theorem tb_sl59 : tslice Tryz.prog 59 = false := by kernel_rfl
@[go_sem] theorem tb_str59 : tstr Tryz.prog 59 = false := by kernel_rfl
@[go_sem] theorem tb_elem71 : telem Tryz.prog 71 = some (9, 1, 16) := by kernel_rfl
@[go_sem] theorem tb_sl71 : tslice Tryz.prog 71 = true := by kernel_rfl
@[go_sem] theorem tb_str71 : tstr Tryz.prog 71 = false := by kernel_rfl
@[go_sem] theorem tb_elem72 : telem Tryz.prog 72 = some (126, 1, 24) := by kernel_rfl
@[go_sem] theorem tb_sl72 : tslice Tryz.prog 72 = true := by kernel_rfl
@[go_sem] theorem tb_str72 : tstr Tryz.prog 72 = false := by kernel_rfl
@[go_sem] theorem tb_elem9 : telem Tryz.prog 9 = none := by kernel_rfl
@[go_sem] theorem tb_sl9 : tslice Tryz.prog 9 = false := by kernel_rfl
@[go_sem] theorem tb_str9 : tstr Tryz.prog 9 = true := by kernel_rfl
@[go_sem] theorem tb_scal130 : tscal Tryz.prog 130 = some 0 := by kernel_rfl
@[go_sem] theorem tb_scal21 : tscal Tryz.prog 21 = some 0 := by kernel_rfl
@[go_sem] theorem tb_scal22 : tscal Tryz.prog 22 = some 0 := by kernel_rfl
@[go_sem] theorem tb_scal223 : tscal Tryz.prog 223 = some 0 := by kernel_rfl
@[go_sem] theorem tb_scal281 : tscal Tryz.prog 281 = some 0 := by kernel_rfl
@[go_sem] theorem tb_scal3 : tscal Tryz.prog 3 = some 0 := by kernel_rfl
@[go_sem] theorem tb_scal303 : tscal Tryz.prog 303 = some 0 := by kernel_rfl
@[go_sem] theorem tb_scal311 : tscal Tryz.prog 311 = some 0 := by kernel_rfl
@[go_sem] theorem tb_scal331 : tscal Tryz.prog 331 = some 0 := by kernel_rfl
@[go_sem] theorem tb_eq36 : teq Tryz.prog 36 = some [(0, 2), (1, 2)] := by kernel_rfl
@[go_sem] theorem tb_scal37 : tscal Tryz.prog 37 = some 0 := by kernel_rfl
@[go_sem] theorem tb_scal4 : tscal Tryz.prog 4 = some 1 := by kernel_rfl
@[go_sem] theorem tb_eq48 : teq Tryz.prog 48 = some [(0, 0), (1, 0), (2, 0), (3, 0)] := by kernel_rfl
@[go_sem] theorem tb_scal5 : tscal Tryz.prog 5 = some 0 := by kernel_rfl
@[go_sem] theorem tb_scal56 : tscal Tryz.prog 56 = some 0 := by kernel_rfl
@[go_sem] theorem tb_scal57 : tscal Tryz.prog 57 = some 0 := by kernel_rfl
@[go_sem] theorem tb_scal59 : tscal Tryz.prog 59 = some 0 := by kernel_rfl
@[go_sem] theorem tb_scal9 : tscal Tryz.prog 9 = some 2 := by kernel_rfl
@[go_sem] theorem tb_eq96 : teq Tryz.prog 96 = some [(0, 0), (1, 1), (2, 0), (3, 0)] := by kernel_rfl
@[go_sem] theorem tb_field111_0 : tfield Tryz.prog 111 0 = some (0, 1) := by kernel_rfl
@[go_sem] theorem tb_field111_1 : tfield Tryz.prog 111 1 = some (1, 1) := by kernel_rfl
@[go_sem] theorem tb_field111_2 : tfield Tryz.prog 111 2 = some (2, 1) := by kernel_rfl
@[go_sem] theorem tb_field115_0 : tfield Tryz.prog 115 0 = some (0, 7) := by kernel_rfl
@[go_sem] theorem tb_field115_1 : tfield Tryz.prog 115 1 = some (7, 19) := by kernel_rfl
@[go_sem] theorem tb_field115_2 : tfield Tryz.prog 115 2 = some (26, 1) := by kernel_rfl
@[go_sem] theorem tb_field115_3 : tfield Tryz.prog 115 3 = some (27, 1) := by kernel_rfl
@[go_sem] theorem tb_field115_4 : tfield Tryz.prog 115 4 = some (28, 1) := by kernel_rfl
@[go_sem] theorem tb_field125_0 : tfield Tryz.prog 125 0 = some (0, 1) := by kernel_rfl
@[go_sem] theorem tb_field125_1 : tfield Tryz.prog 125 1 = some (1, 1) := by kernel_rfl
@[go_sem] theorem tb_field125_2 : tfield Tryz.prog 125 2 = some (2, 1) := by kernel_rfl
@[go_sem] theorem tb_field125_3 : tfield Tryz.prog 125 3 = some (3, 1) := by kernel_rfl
@[go_sem] theorem tb_field125_4 : tfield Tryz.prog 125 4 = some (4, 1) := by kernel_rfl
@[go_sem] theorem tb_field153_0 : tfield Tryz.prog 153 0 = some (0, 1) := by kernel_rfl
@[go_sem] theorem tb_field160_0 : tfield Tryz.prog 160 0 = some (0, 1) := by kernel_rfl
@[go_sem] theorem tb_field160_1 : tfield Tryz.prog 160 1 = some (1, 1) := by kernel_rfl
@[go_sem] theorem tb_field160_2 : tfield Tryz.prog 160 2 = some (2, 1) := by kernel_rfl
@[go_sem] theorem tb_field160_3 : tfield Tryz.prog 160 3 = some (3, 1) := by kernel_rfl
@[go_sem] theorem tb_field211_0 : tfield Tryz.prog 211 0 = some (0, 1) := by kernel_rfl
@[go_sem] theorem tb_field211_1 : tfield Tryz.prog 211 1 = some (1, 1) := by kernel_rfl
@[go_sem] theorem tb_field211_2 : tfield Tryz.prog 211 2 = some (2, 1) := by kernel_rfl
@[go_sem] theorem tb_field211_3 : tfield Tryz.prog 211 3 = some (3, 1) := by kernel_rfl
@[go_sem] theorem tb_field215_1 : tfield Tryz.prog 215 1 = some (4, 1) := by kernel_rfl
@[go_sem] theorem tb_field215_2 : tfield Tryz.prog 215 2 = some (5, 1) := by kernel_rfl
@[go_sem] theorem tb_field231_0 : tfield Tryz.prog 231 0 = some (0, 1) := by kernel_rfl
@[go_sem] theorem tb_field231_1 : tfield Tryz.prog 231 1 = some (1, 1) := by kernel_rfl
@[go_sem] theorem tb_field231_2 : tfield Tryz.prog 231 2 = some (2, 1) := by kernel_rfl
@[go_sem] theorem tb_field238_0 : tfield Tryz.prog 238 0 = some (0, 1) := by kernel_rfl
@[go_sem] theorem tb_field238_1 : tfield Tryz.prog 238 1 = some (1, 1) := by kernel_rfl
@[go_sem] theorem tb_field238_2 : tfield Tryz.prog 238 2 = some (2, 1) := by kernel_rfl
@[go_sem] theorem tb_field238_3 : tfield Tryz.prog 238 3 = some (3, 5) := by kernel_rfl
@[go_sem] theorem tb_field238_4 : tfield Tryz.prog 238 4 = some (8, 1) := by kernel_rfl
@[go_sem] theorem tb_field238_5 : tfield Tryz.prog 238 5 = some (9, 1) := by kernel_rfl
@[go_sem] theorem tb_field238_6 : tfield Tryz.prog 238 6 = some (10, 1) := by kernel_rfl
@[go_sem] theorem tb_field241_0 : tfield Tryz.prog 241 0 = some (0, 1) := by kernel_rfl
@[go_sem] theorem tb_field241_1 : tfield Tryz.prog 241 1 = some (1, 1) := by kernel_rfl
@[go_sem] theorem tb_field241_2 : tfield Tryz.prog 241 2 = some (2, 1) := by kernel_rfl
@[go_sem] theorem tb_field245_0 : tfield Tryz.prog 245 0 = some (0, 1) := by kernel_rfl
@[go_sem] theorem tb_field245_1 : tfield Tryz.prog 245 1 = some (1, 1) := by kernel_rfl
@[go_sem] theorem tb_field245_2 : tfield Tryz.prog 245 2 = some (2, 1) := by kernel_rfl
@[go_sem] theorem tb_field245_3 : tfield Tryz.prog 245 3 = some (3, 1) := by kernel_rfl
@[go_sem] theorem tb_field245_4 : tfield Tryz.prog 245 4 = some (4, 1) := by kernel_rfl
@[go_sem] theorem tb_field245_5 : tfield Tryz.prog 245 5 = some (5, 1) := by kernel_rfl
@[go_sem] theorem tb_field245_6 : tfield Tryz.prog 245 6 = some (6, 1) := by kernel_rfl
@[go_sem] theorem tb_field245_7 : tfield Tryz.prog 245 7 = some (7, 1) := by kernel_rfl
@[go_sem] theorem tb_field249_0 : tfield Tryz.prog 249 0 = some (0, 4) := by kernel_rfl
@[go_sem] theorem tb_field249_1 : tfield Tryz.prog 249 1 = some (4, 2) := by kernel_rfl
@[go_sem] theorem tb_field251_0 : tfield Tryz.prog 251 0 = some (0, 1) := by kernel_rfl
@[go_sem] theorem tb_field254_0 : tfield Tryz.prog 254 0 = some (0, 1) := by kernel_rfl
@[go_sem] theorem tb_field254_1 : tfield Tryz.prog 254 1 = some (1, 1) := by kernel_rfl
@[go_sem] theorem tb_field259_0 : tfield Tryz.prog 259 0 = some (0, 1) := by kernel_rfl
@[go_sem] theorem tb_field259_1 : tfield Tryz.prog 259 1 = some (1, 1) := by kernel_rfl
@[go_sem] theorem tb_field26_0 : tfield Tryz.prog 26 0 = some (0, 1) := by kernel_rfl
@[go_sem] theorem tb_field26_1 : tfield Tryz.prog 26 1 = some (1, 1) := by kernel_rfl
@[go_sem] theorem tb_field26_2 : tfield Tryz.prog 26 2 = some (2, 1) := by kernel_rfl
@[go_sem] theorem tb_field266_0 : tfield Tryz.prog 266 0 = some (0, 1) := by kernel_rfl
@[go_sem] theorem tb_field266_1 : tfield Tryz.prog 266 1 = some (1, 1) := by kernel_rfl
@[go_sem] theorem tb_field266_2 : tfield Tryz.prog 266 2 = some (2, 1) := by kernel_rfl
@[go_sem] theorem tb_field285_0 : tfield Tryz.prog 285 0 = some (0, 1) := by kernel_rfl
@[go_sem] theorem tb_field285_1 : tfield Tryz.prog 285 1 = some (1, 1) := by kernel_rfl
@[go_sem] theorem tb_field285_2 : tfield Tryz.prog 285 2 = some (2, 1) := by kernel_rfl
@[go_sem] theorem tb_field288_0 : tfield Tryz.prog 288 0 = some (0, 1) := by kernel_rfl
@[go_sem] theorem tb_field288_1 : tfield Tryz.prog 288 1 = some (1, 1) := by kernel_rfl
@[go_sem] theorem tb_field288_2 : tfield Tryz.prog 288 2 = some (2, 1) := by kernel_rfl
@[go_sem] theorem tb_field30_0 : tfield Tryz.prog 30 0 = some (0, 3) := by kernel_rfl
@[go_sem] theorem tb_field30_1 : tfield Tryz.prog 30 1 = some (3, 1) := by kernel_rfl
@[go_sem] theorem tb_field30_2 : tfield Tryz.prog 30 2 = some (4, 1) := by kernel_rfl
@[go_sem] theorem tb_field330_0 : tfield Tryz.prog 330 0 = some (0, 1) := by kernel_rfl
@[go_sem] theorem tb_field330_1 : tfield Tryz.prog 330 1 = some (1, 1) := by kernel_rfl
@[go_sem] theorem tb_field330_2 : tfield Tryz.prog 330 2 = some (2, 1) := by kernel_rfl
@[go_sem] theorem tb_field330_3 : tfield Tryz.prog 330 3 = some (3, 1) := by kernel_rfl
@[go_sem] theorem tb_field354_1 : tfield Tryz.prog 354 1 = some (1, 1) := by kernel_rfl
@[go_sem] theorem tb_field354_2 : tfield Tryz.prog 354 2 = some (2, 1) := by kernel_rfl
@[go_sem] theorem tb_field36_0 : tfield Tryz.prog 36 0 = some (0, 1) := by kernel_rfl
@[go_sem] theorem tb_field36_1 : tfield Tryz.prog 36 1 = some (1, 1) := by kernel_rfl
@[go_sem] theorem tb_field48_0 : tfield Tryz.prog 48 0 = some (0, 1) := by kernel_rfl
@[go_sem] theorem tb_field48_1 : tfield Tryz.prog 48 1 = some (1, 1) := by kernel_rfl
@[go_sem] theorem tb_field48_2 : tfield Tryz.prog 48 2 = some (2, 1) := by kernel_rfl
@[go_sem] theorem tb_field48_3 : tfield Tryz.prog 48 3 = some (3, 1) := by kernel_rfl
@[go_sem] theorem tb_field51_0 : tfield Tryz.prog 51 0 = some (0, 4) := by kernel_rfl
@[go_sem] theorem tb_field51_1 : tfield Tryz.prog 51 1 = some (4, 1) := by kernel_rfl
@[go_sem] theorem tb_field51_2 : tfield Tryz.prog 51 2 = some (5, 1) := by kernel_rfl
@[go_sem] theorem tb_field51_3 : tfield Tryz.prog 51 3 = some (6, 1) := by kernel_rfl
@[go_sem] theorem tb_field55_0 : tfield Tryz.prog 55 0 = some (0, 1) := by kernel_rfl
@[go_sem] theorem tb_field55_1 : tfield Tryz.prog 55 1 = some (1, 1) := by kernel_rfl
@[go_sem] theorem tb_field61_0 : tfield Tryz.prog 61 0 = some (0, 1) := by kernel_rfl
@[go_sem] theorem tb_field61_1 : tfield Tryz.prog 61 1 = some (1, 1) := by kernel_rfl
@[go_sem] theorem tb_field63_0 : tfield Tryz.prog 63 0 = some (0, 1) := by kernel_rfl
@[go_sem] theorem tb_field63_1 : tfield Tryz.prog 63 1 = some (1, 1) := by kernel_rfl
@[go_sem] theorem tb_field63_10 : tfield Tryz.prog 63 10 = some (14, 1) := by kernel_rfl
@[go_sem] theorem tb_field63_11 : tfield Tryz.prog 63 11 = some (15, 1) := by kernel_rfl
@[go_sem] theorem tb_field63_12 : tfield Tryz.prog 63 12 = some (16, 1) := by kernel_rfl
@[go_sem] theorem tb_field63_13 : tfield Tryz.prog 63 13 = some (17, 1) := by kernel_rfl
@[go_sem] theorem tb_field63_14 : tfield Tryz.prog 63 14 = some (18, 1) := by kernel_rfl
@[go_sem] theorem tb_field63_2 : tfield Tryz.prog 63 2 = some (2, 1) := by kernel_rfl
@[go_sem] theorem tb_field63_3 : tfield Tryz.prog 63 3 = some (3, 1) := by kernel_rfl
@[go_sem] theorem tb_field63_4 : tfield Tryz.prog 63 4 = some (4, 1) := by kernel_rfl
@[go_sem] theorem tb_field63_5 : tfield Tryz.prog 63 5 = some (5, 1) := by kernel_rfl
@[go_sem] theorem tb_field63_6 : tfield Tryz.prog 63 6 = some (6, 1) := by kernel_rfl
@[go_sem] theorem tb_field63_7 : tfield Tryz.prog 63 7 = some (7, 1) := by kernel_rfl
@[go_sem] theorem tb_field63_8 : tfield Tryz.prog 63 8 = some (8, 5) := by kernel_rfl
@[go_sem] theorem tb_field63_9 : tfield Tryz.prog 63 9 = some (13, 1) := by kernel_rfl
@[go_sem] theorem tb_field74_0 : tfield Tryz.prog 74 0 = some (0, 7) := by kernel_rfl
@[go_sem] theorem tb_field74_3 : tfield Tryz.prog 74 3 = some (27, 1) := by kernel_rfl
@[go_sem] theorem tb_field96_0 : tfield Tryz.prog 96 0 = some (0, 1) := by kernel_rfl
@[go_sem] theorem tb_field96_1 : tfield Tryz.prog 96 1 = some (1, 1) := by kernel_rfl
@[go_sem] theorem tb_field96_2 : tfield Tryz.prog 96 2 = some (2, 1) := by kernel_rfl
@[go_sem] theorem tb_field96_3 : tfield Tryz.prog 96 3 = some (3, 1) := by kernel_rfl
@[go_sem] theorem tb_field99_0 : tfield Tryz.prog 99 0 = some (0, 1) := by kernel_rfl
@[go_sem] theorem tb_field99_1 : tfield Tryz.prog 99 1 = some (1, 1) := by kernel_rfl
@[go_sem] theorem tb_info111 : tinfo Tryz.prog 111 = some (3, true) := by kernel_rfl
@[go_sem] theorem tb_fields111 : tfields Tryz.prog 111 = some [(0, 1), (1, 1), (2, 1)] := by kernel_rfl
@[go_sem] theorem tb_info115 : tinfo Tryz.prog 115 = some (29, true) := by kernel_rfl
@[go_sem] theorem tb_fields115 : tfields Tryz.prog 115 = some [(0, 7), (7, 19), (26, 1), (27, 1), (28, 1)] := by kernel_rfl
@[go_sem] theorem tb_info125 : tinfo Tryz.prog 125 = some (5, true) := by kernel_rfl
@[go_sem] theorem tb_fields125 : tfields Tryz.prog 125 = some [(0, 1), (1, 1), (2, 1), (3, 1), (4, 1)] := by kernel_rfl
@[go_sem] theorem tb_info160 : tinfo Tryz.prog 160 = some (4, true) := by kernel_rfl
@[go_sem] theorem tb_fields160 : tfields Tryz.prog 160 = some [(0, 1), (1, 1), (2, 1), (3, 1)] := by kernel_rfl
@[go_sem] theorem tb_info211 : tinfo Tryz.prog 211 = some (4, true) := by kernel_rfl
@[go_sem] theorem tb_fields211 : tfields Tryz.prog 211 = some [(0, 1), (1, 1), (2, 1), (3, 1)] := by kernel_rfl
@[go_sem] theorem tb_info215 : tinfo Tryz.prog 215 = some (6, true) := by kernel_rfl
@[go_sem] theorem tb_fields215 : tfields Tryz.prog 215 = some [(0, 4), (4, 1), (5, 1)] := by kernel_rfl
@[go_sem] theorem tb_fields226 : tfields Tryz.prog 226 = none := by kernel_rfl
@[go_sem] theorem tb_info231 : tinfo Tryz.prog 231 = some (3, true) := by kernel_rfl
@[go_sem] theorem tb_fields231 : tfields Tryz.prog 231 = some [(0, 1), (1, 1), (2, 1)] := by kernel_rfl
@[go_sem] theorem tb_info238 : tinfo Tryz.prog 238 = some (11, true) := by kernel_rfl
@[go_sem] theorem tb_fields238 : tfields Tryz.prog 238 = some [(0, 1), (1, 1), (2, 1), (3, 5), (8, 1), (9, 1), (10, 1)] := by kernel_rfl
@[go_sem] theorem tb_info241 : tinfo Tryz.prog 241 = some (3, true) := by kernel_rfl
@[go_sem] theorem tb_fields241 : tfields Tryz.prog 241 = some [(0, 1), (1, 1), (2, 1)] := by kernel_rfl
@[go_sem] theorem tb_info245 : tinfo Tryz.prog 245 = some (10, true) := by kernel_rfl
@[go_sem] theorem tb_fields245 : tfields Tryz.prog 245 = some [(0, 1), (1, 1), (2, 1), (3, 1), (4, 1), (5, 1), (6, 1), (7, 1), (8, 1), (9, 1)] := by kernel_rfl
@[go_sem] theorem tb_info249 : tinfo Tryz.prog 249 = some (6, true) := by kernel_rfl
@[go_sem] theorem tb_fields249 : tfields Tryz.prog 249 = some [(0, 4), (4, 2)] := by kernel_rfl
@[go_sem] theorem tb_info251 : tinfo Tryz.prog 251 = some (1, true) := by kernel_rfl
@[go_sem] theorem tb_fields251 : tfields Tryz.prog 251 = some [(0, 1)] := by kernel_rfl
@[go_sem] theorem tb_info254 : tinfo Tryz.prog 254 = some (2, true) := by kernel_rfl
@[go_sem] theorem tb_fields254 : tfields Tryz.prog 254 = some [(0, 1), (1, 1)] := by kernel_rfl
@[go_sem] theorem tb_info259 : tinfo Tryz.prog 259 = some (2, true) := by kernel_rfl
@[go_sem] theorem tb_fields259 : tfields Tryz.prog 259 = some [(0, 1), (1, 1)] := by kernel_rfl
@[go_sem] theorem tb_info26 : tinfo Tryz.prog 26 = some (3, true) := by kernel_rfl
@[go_sem] theorem tb_fields26 : tfields Tryz.prog 26 = some [(0, 1), (1, 1), (2, 1)] := by kernel_rfl
@[go_sem] theorem tb_info266 : tinfo Tryz.prog 266 = some (3, true) := by kernel_rfl
@[go_sem] theorem tb_fields266 : tfields Tryz.prog 266 = some [(0, 1), (1, 1), (2, 1)] := by kernel_rfl
@[go_sem] theorem tb_info285 : tinfo Tryz.prog 285 = some (3, true) := by kernel_rfl
@[go_sem] theorem tb_fields285 : tfields Tryz.prog 285 = some [(0, 1), (1, 1), (2, 1)] := by kernel_rfl
@[go_sem] theorem tb_info288 : tinfo Tryz.prog 288 = some (3, true) := by kernel_rfl
@[go_sem] theorem tb_fields288 : tfields Tryz.prog 288 = some [(0, 1), (1, 1), (2, 1)] := by kernel_rfl
@[go_sem] theorem tb_fields292 : tfields Tryz.prog 292 = none := by kernel_rfl
@[go_sem] theorem tb_info30 : tinfo Tryz.prog 30 = some (5, true) := by kernel_rfl
@[go_sem] theorem tb_fields30 : tfields Tryz.prog 30 = some [(0, 3), (3, 1), (4, 1)] := by kernel_rfl
@[go_sem] theorem tb_info319 : tinfo Tryz.prog 319 = some (9, true) := by kernel_rfl
@[go_sem] theorem tb_fields319 : tfields Tryz.prog 319 = some [(0, 1), (1, 1), (2, 1), (3, 1), (4, 1), (5, 4)] := by kernel_rfl
@[go_sem] theorem tb_info330 : tinfo Tryz.prog 330 = some (4, true) := by kernel_rfl
@[go_sem] theorem tb_fields330 : tfields Tryz.prog 330 = some [(0, 1), (1, 1), (2, 1), (3, 1)] := by kernel_rfl
@[go_sem] theorem tb_info36 : tinfo Tryz.prog 36 = some (2, true) := by kernel_rfl
@[go_sem] theorem tb_fields36 : tfields Tryz.prog 36 = some [(0, 1), (1, 1)] := by kernel_rfl
@[go_sem] theorem tb_fields48 : tfields Tryz.prog 48 = some [(0, 1), (1, 1), (2, 1), (3, 1)] := by kernel_rfl
@[go_sem] theorem tb_info51 : tinfo Tryz.prog 51 = some (7, true) := by kernel_rfl
@[go_sem] theorem tb_fields51 : tfields Tryz.prog 51 = some [(0, 4), (4, 1), (5, 1), (6, 1)] := by kernel_rfl
@[go_sem] theorem tb_info55 : tinfo Tryz.prog 55 = some (2, true) := by kernel_rfl
@[go_sem] theorem tb_fields55 : tfields Tryz.prog 55 = some [(0, 1), (1, 1)] := by kernel_rfl
@[go_sem] theorem tb_info61 : tinfo Tryz.prog 61 = some (5, true) := by kernel_rfl
@[go_sem] theorem tb_fields61 : tfields Tryz.prog 61 = some [(0, 1), (1, 1), (2, 1), (3, 1), (4, 1)] := by kernel_rfl
@[go_sem] theorem tb_info63 : tinfo Tryz.prog 63 = some (19, true) := by kernel_rfl
@[go_sem] theorem tb_fields63 : tfields Tryz.prog 63 = some [(0, 1), (1, 1), (2, 1), (3, 1), (4, 1), (5, 1), (6, 1), (7, 1), (8, 5), (13, 1), (14, 1), (15, 1), (16, 1), (17, 1), (18, 1)] := by kernel_rfl
@[go_sem] theorem tb_info74 : tinfo Tryz.prog 74 = some (28, true) := by kernel_rfl
@[go_sem] theorem tb_fields74 : tfields Tryz.prog 74 = some [(0, 7), (7, 19), (26, 1), (27, 1)] := by kernel_rfl
@[go_sem] theorem tb_info96 : tinfo Tryz.prog 96 = some (4, true) := by kernel_rfl
@[go_sem] theorem tb_fields96 : tfields Tryz.prog 96 = some [(0, 1), (1, 1), (2, 1), (3, 1)] := by kernel_rfl
@[go_sem] theorem tb_info99 : tinfo Tryz.prog 99 = some (2, true) := by kernel_rfl
@[go_sem] theorem tb_fields99 : tfields Tryz.prog 99 = some [(0, 1), (1, 1)] := by kernel_rfl
@[go_sem] theorem tb_ftype231_2 : tftype Tryz.prog 231 2 = some (2, 1, false) := by kernel_rfl
@[go_sem] theorem tb_info153 : tinfo Tryz.prog 153 = some (1, true) := by kernel_rfl
@[go_sem] theorem tb_info161 : tinfo Tryz.prog 161 = some (1, false) := by kernel_rfl
@[go_sem] theorem tb_info209 : tinfo Tryz.prog 209 = some (1, false) := by kernel_rfl
@[go_sem] theorem tb_info239 : tinfo Tryz.prog 239 = some (1, false) := by kernel_rfl
@[go_sem] theorem tb_info300 : tinfo Tryz.prog 300 = some (1, false) := by kernel_rfl
@[go_sem] theorem tb_info324 : tinfo Tryz.prog 324 = some (1, false) := by kernel_rfl
@[go_sem] theorem tb_info354 : tinfo Tryz.prog 354 = some (3, true) := by kernel_rfl
@[go_sem] theorem tb_info37 : tinfo Tryz.prog 37 = some (1, false) := by kernel_rfl
@[go_sem] theorem tb_info4 : tinfo Tryz.prog 4 = some (1, false) := by kernel_rfl
@[go_sem] theorem tb_int130 : tint Tryz.prog 130 = some .u64 := by kernel_rfl
@[go_sem] theorem tb_und130 : (Tryz.prog.underlying 130).isSome = true := by kernel_rfl
@[go_sem] theorem tb_int21 : tint Tryz.prog 21 = some .i32 := by kernel_rfl
@[go_sem] theorem tb_und21 : (Tryz.prog.underlying 21).isSome = true := by kernel_rfl
@[go_sem] theorem tb_int22 : tint Tryz.prog 22 = some .i64 := by kernel_rfl
@[go_sem] theorem tb_und22 : (Tryz.prog.underlying 22).isSome = true := by kernel_rfl
@[go_sem] theorem tb_int28 : tint Tryz.prog 28 = none := by kernel_rfl
@[go_sem] theorem tb_und28 : (Tryz.prog.underlying 28).isSome = true := by kernel_rfl
@[go_sem] theorem tb_bytes28 : tbytes Tryz.prog 28 = true := by kernel_rfl
@[go_sem] theorem tb_int281 : tint Tryz.prog 281 = some .u64 := by kernel_rfl
@[go_sem] theorem tb_und281 : (Tryz.prog.underlying 281).isSome = true := by kernel_rfl
@[go_sem] theorem tb_int3 : tint Tryz.prog 3 = some .i64 := by kernel_rfl
@[go_sem] theorem tb_und3 : (Tryz.prog.underlying 3).isSome = true := by kernel_rfl
@[go_sem] theorem tb_int311 : tint Tryz.prog 311 = some .u32 := by kernel_rfl
@[go_sem] theorem tb_und311 : (Tryz.prog.underlying 311).isSome = true := by kernel_rfl
@[go_sem] theorem tb_int331 : tint Tryz.prog 331 = some .u64 := by kernel_rfl
@[go_sem] theorem tb_und331 : (Tryz.prog.underlying 331).isSome = true := by kernel_rfl
@[go_sem] theorem tb_int5 : tint Tryz.prog 5 = some .u8 := by kernel_rfl
@[go_sem] theorem tb_und5 : (Tryz.prog.underlying 5).isSome = true := by kernel_rfl
@[go_sem] theorem tb_int56 : tint Tryz.prog 56 = some .i64 := by kernel_rfl
@[go_sem] theorem tb_und56 : (Tryz.prog.underlying 56).isSome = true := by kernel_rfl
@[go_sem] theorem tb_int57 : tint Tryz.prog 57 = some .i64 := by kernel_rfl
@[go_sem] theorem tb_und57 : (Tryz.prog.underlying 57).isSome = true := by kernel_rfl
@[go_sem] theorem tb_int59 : tint Tryz.prog 59 = some .i64 := by kernel_rfl
@[go_sem] theorem tb_und59 : (Tryz.prog.underlying 59).isSome = true := by kernel_rfl
@[go_sem] theorem tb_int9 : tint Tryz.prog 9 = none := by kernel_rfl
@[go_sem] theorem tb_und9 : (Tryz.prog.underlying 9).isSome = true := by kernel_rfl
@[go_sem] theorem tb_ptr130 : tptr Tryz.prog 130 = false := by kernel_rfl
@[go_sem] theorem tb_ptr161 : tptr Tryz.prog 161 = true := by kernel_rfl
@[go_sem] theorem tb_ptr21 : tptr Tryz.prog 21 = false := by kernel_rfl
@[go_sem] theorem tb_ptr22 : tptr Tryz.prog 22 = false := by kernel_rfl
@[go_sem] theorem tb_ptr223 : tptr Tryz.prog 223 = false := by kernel_rfl
@[go_sem] theorem tb_ptr23 : tptr Tryz.prog 23 = false := by kernel_rfl
@[go_sem] theorem tb_ptr239 : tptr Tryz.prog 239 = true := by kernel_rfl
@[go_sem] theorem tb_ptr281 : tptr Tryz.prog 281 = false := by kernel_rfl
@[go_sem] theorem tb_ptr3 : tptr Tryz.prog 3 = false := by kernel_rfl
@[go_sem] theorem tb_ptr300 : tptr Tryz.prog 300 = true := by kernel_rfl
@[go_sem] theorem tb_ptr303 : tptr Tryz.prog 303 = false := by kernel_rfl
@[go_sem] theorem tb_ptr311 : tptr Tryz.prog 311 = false := by kernel_rfl
@[go_sem] theorem tb_ptr331 : tptr Tryz.prog 331 = false := by kernel_rfl
@[go_sem] theorem tb_ptr36 : tptr Tryz.prog 36 = false := by kernel_rfl
@[go_sem] theorem tb_ptr37 : tptr Tryz.prog 37 = false := by kernel_rfl
@[go_sem] theorem tb_ptr4 : tptr Tryz.prog 4 = false := by kernel_rfl
@[go_sem] theorem tb_ptr48 : tptr Tryz.prog 48 = false := by kernel_rfl
@[go_sem] theorem tb_ptr49 : tptr Tryz.prog 49 = false := by kernel_rfl
@[go_sem] theorem tb_ptr5 : tptr Tryz.prog 5 = false := by kernel_rfl
@[go_sem] theorem tb_ptr56 : tptr Tryz.prog 56 = false := by kernel_rfl
@[go_sem] theorem tb_ptr57 : tptr Tryz.prog 57 = false := by kernel_rfl
@[go_sem] theorem tb_ptr58 : tptr Tryz.prog 58 = false := by kernel_rfl
@[go_sem] theorem tb_ptr59 : tptr Tryz.prog 59 = false := by kernel_rfl
@[go_sem] theorem tb_ptr9 : tptr Tryz.prog 9 = false := by kernel_rfl
@[go_sem] theorem tb_ptr96 : tptr Tryz.prog 96 = false := by kernel_rfl
@[go_sem] theorem tb_zero111 : tzero Tryz.prog 111 = some [(.string ByteArray.empty), (.slice none 0 0), (.slice none 0 0)] := by kernel_rfl
@[go_sem] theorem tb_zero115 : tzero Tryz.prog 115 = some [(.int .i64 0), (.int .i64 0), (.int .i64 0), (.int .i64 0), (.int .i64 0), (.int .i64 0), (.slice none 0 0), (.int .i64 0), (.int .i64 0), (.int .i64 0), (.int .i64 0), (.int .i64 0), (.slice none 0 0), (.int .i64 0), (.int .i64 0), (.bool false), (.bool false), (.bool false), (.bool false), (.bool false), (.bool false), (.bool false), (.bool false), (.slice none 0 0), (.int .i64 0), (.int .i64 0), (.slice none 0 0), (.slice none 0 0), (.int .i64 0)] := by kernel_rfl
@[go_sem] theorem tb_zero125 : tzero Tryz.prog 125 = some [(.int .i64 0), (.int .i64 0), (.int .i64 0), (.int .i64 0), (.int .i64 0)] := by kernel_rfl
@[go_sem] theorem tb_zero153 : tzero Tryz.prog 153 = some [(.int .i64 0)] := by kernel_rfl
@[go_sem] theorem tb_zero160 : tzero Tryz.prog 160 = some [(.int .i64 0), (.int .i64 0), (.int .i64 0), (.int .i64 0)] := by kernel_rfl
@[go_sem] theorem tb_zero211 : tzero Tryz.prog 211 = some [(.slice none 0 0), (.map none), (.slice none 0 0), (.int .i64 0)] := by kernel_rfl
@[go_sem] theorem tb_zero215 : tzero Tryz.prog 215 = some [(.int .i64 0), (.int .i64 0), (.int .i64 0), (.int .i64 0), (.slice none 0 0), (.slice none 0 0)] := by kernel_rfl
@[go_sem] theorem tb_zero226 : tzero Tryz.prog 226 = some [(.int .i64 0), (.int .i64 0), (.int .i64 0), (.int .i64 0), (.int .i64 0), (.int .i64 0), (.int .i64 0), (.int .i64 0), (.int .i64 0), (.int .i64 0), (.int .i64 0), (.int .i64 0), (.int .i64 0), (.int .i64 0), (.int .i64 0), (.int .i64 0)] := by kernel_rfl
@[go_sem] theorem tb_zero231 : tzero Tryz.prog 231 = some [(.int .i64 0), (.int .i64 0), (.slice none 0 0)] := by kernel_rfl
@[go_sem] theorem tb_zero238 : tzero Tryz.prog 238 = some [(.bool false), (.bool false), (.bool false), (.bool false), (.bool false), (.bool false), (.bool false), (.bool false), (.slice none 0 0), (.slice none 0 0), (.int .i64 0)] := by kernel_rfl
@[go_sem] theorem tb_zero241 : tzero Tryz.prog 241 = some [(.int .i64 0), (.pointer none), (.pointer none)] := by kernel_rfl
@[go_sem] theorem tb_zero245 : tzero Tryz.prog 245 = some [(.int .i64 0), (.int .i64 0), (.int .i64 0), (.bool false), (.int .i64 0), (.int .i64 0), (.int .i64 0), (.int .i64 0), (.int .i64 0), (.int .i64 0)] := by kernel_rfl
@[go_sem] theorem tb_zero249 : tzero Tryz.prog 249 = some [(.int .i64 0), (.int .i64 0), (.int .i64 0), (.int .i64 0), (.int .i64 0), (.int .i64 0)] := by kernel_rfl
@[go_sem] theorem tb_zero251 : tzero Tryz.prog 251 = some [(.int .i64 0)] := by kernel_rfl
@[go_sem] theorem tb_zero254 : tzero Tryz.prog 254 = some [(.slice none 0 0), (.int .i64 0)] := by kernel_rfl
@[go_sem] theorem tb_zero259 : tzero Tryz.prog 259 = some [(.int .i64 0), (.int .i64 0)] := by kernel_rfl
@[go_sem] theorem tb_zero26 : tzero Tryz.prog 26 = some [(.int .i64 0), (.slice none 0 0), (.slice none 0 0)] := by kernel_rfl
@[go_sem] theorem tb_zero266 : tzero Tryz.prog 266 = some [(.int .i64 0), (.int .i64 0), (.slice none 0 0)] := by kernel_rfl
@[go_sem] theorem tb_zero28 : tzero Tryz.prog 28 = some [(.slice none 0 0)] := by kernel_rfl
@[go_sem] theorem tb_zero285 : tzero Tryz.prog 285 = some [(.slice none 0 0), (.bool false), (.bool false)] := by kernel_rfl
@[go_sem] theorem tb_zero288 : tzero Tryz.prog 288 = some [(.int .i64 0), (.int .i64 0), (.slice none 0 0)] := by kernel_rfl
@[go_sem] theorem tb_zero292 : tzero Tryz.prog 292 = some [(.int .i64 0), (.int .i64 0), (.int .i64 0), (.int .i64 0), (.int .i64 0), (.int .i64 0)] := by kernel_rfl
@[go_sem] theorem tb_zero3 : tzero Tryz.prog 3 = some [(.int .i64 0)] := by kernel_rfl
@[go_sem] theorem tb_zero30 : tzero Tryz.prog 30 = some [(.int .i64 0), (.slice none 0 0), (.slice none 0 0), (.slice none 0 0), (.slice none 0 0)] := by kernel_rfl
@[go_sem] theorem tb_zero319 : tzero Tryz.prog 319 = some [(.int .i64 0), (.int .i64 0), (.int .i64 0), (.int .i64 0), (.int .i64 0), (.int .i64 0), (.int .i64 0), (.int .i64 0), (.int .i64 0)] := by kernel_rfl
@[go_sem] theorem tb_zero330 : tzero Tryz.prog 330 = some [(.bool false), (.slice none 0 0), (.int .i64 0), (.int .i64 0)] := by kernel_rfl
@[go_sem] theorem tb_zero331 : tzero Tryz.prog 331 = some [(.int .u64 0)] := by kernel_rfl
@[go_sem] theorem tb_zero354 : tzero Tryz.prog 354 = some [(.int .i64 0), (.int .i64 0), (.bool false)] := by kernel_rfl
@[go_sem] theorem tb_zero36 : tzero Tryz.prog 36 = some [(.string ByteArray.empty), (.string ByteArray.empty)] := by kernel_rfl
@[go_sem] theorem tb_zero37 : tzero Tryz.prog 37 = some [(.int .i64 0)] := by kernel_rfl
@[go_sem] theorem tb_zero48 : tzero Tryz.prog 48 = some [(.int .i64 0), (.int .i64 0), (.int .i64 0), (.int .i64 0)] := by kernel_rfl
@[go_sem] theorem tb_zero51 : tzero Tryz.prog 51 = some [(.int .i64 0), (.int .i64 0), (.int .i64 0), (.int .i64 0), (.int .i64 0), (.int .i64 0), (.slice none 0 0)] := by kernel_rfl
@[go_sem] theorem tb_zero55 : tzero Tryz.prog 55 = some [(.int .i64 0), (.slice none 0 0)] := by kernel_rfl
@[go_sem] theorem tb_zero61 : tzero Tryz.prog 61 = some [(.bool false), (.bool false), (.bool false), (.bool false), (.bool false)] := by kernel_rfl
@[go_sem] theorem tb_zero63 : tzero Tryz.prog 63 = some [(.int .i64 0), (.int .i64 0), (.int .i64 0), (.int .i64 0), (.int .i64 0), (.slice none 0 0), (.int .i64 0), (.int .i64 0), (.bool false), (.bool false), (.bool false), (.bool false), (.bool false), (.bool false), (.bool false), (.bool false), (.slice none 0 0), (.int .i64 0), (.int .i64 0)] := by kernel_rfl
@[go_sem] theorem tb_zero74 : tzero Tryz.prog 74 = some [(.int .i64 0), (.int .i64 0), (.int .i64 0), (.int .i64 0), (.int .i64 0), (.int .i64 0), (.slice none 0 0), (.int .i64 0), (.int .i64 0), (.int .i64 0), (.int .i64 0), (.int .i64 0), (.slice none 0 0), (.int .i64 0), (.int .i64 0), (.bool false), (.bool false), (.bool false), (.bool false), (.bool false), (.bool false), (.bool false), (.bool false), (.slice none 0 0), (.int .i64 0), (.int .i64 0), (.slice none 0 0), (.slice none 0 0)] := by kernel_rfl
@[go_sem] theorem tb_zero96 : tzero Tryz.prog 96 = some [(.int .i64 0), (.bool false), (.int .i64 0), (.int .i64 0)] := by kernel_rfl
@[go_sem] theorem tb_zero99 : tzero Tryz.prog 99 = some [(.int .i64 0), (.int .i64 0)] := by kernel_rfl
end Go.Proofs.YtcidapidlgdacaaGreat
