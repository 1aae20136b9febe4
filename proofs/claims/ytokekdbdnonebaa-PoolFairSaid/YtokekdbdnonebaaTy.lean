/- What the program's tables say, as instances. Printed by a program of this claim (mkty.py). -/
import Derived.Test.YtokekdbdnonebaaEngT
import Derived.Test.YtokekdbdnonebaaRows
namespace Go.Proofs.Ytokekdbdnonebaa
open Sc
instance qu3 : TyU Try.prog 3 (.int .i64) := ⟨Try.runUnderlying3⟩
instance qs3 : TyS Try.prog 3 1 := ⟨Try.sizeOf3⟩
instance qa3 : TyA Try.prog 3 false := ⟨Try.isAgg3⟩
instance qb3 : TyB Try.prog 3 8 := ⟨fun w => ⟨Try.t3, Try.typeInfo3 w, rfl⟩⟩
instance qu4 : TyU Try.prog 4 .bool := ⟨Try.runUnderlying4⟩
instance qs4 : TyS Try.prog 4 1 := ⟨Try.sizeOf4⟩
instance qa4 : TyA Try.prog 4 false := ⟨Try.isAgg4⟩
instance qb4 : TyB Try.prog 4 1 := ⟨fun w => ⟨Try.t4, Try.typeInfo4 w, rfl⟩⟩
instance qu5 : TyU Try.prog 5 (.int .u8) := ⟨Try.runUnderlying5⟩
instance qs5 : TyS Try.prog 5 1 := ⟨Try.sizeOf5⟩
instance qa5 : TyA Try.prog 5 false := ⟨Try.isAgg5⟩
instance qb5 : TyB Try.prog 5 1 := ⟨fun w => ⟨Try.t5, Try.typeInfo5 w, rfl⟩⟩
instance qu9 : TyU Try.prog 9 .string := ⟨Try.runUnderlying9⟩
instance qs9 : TyS Try.prog 9 1 := ⟨Try.sizeOf9⟩
instance qa9 : TyA Try.prog 9 false := ⟨Try.isAgg9⟩
instance qb9 : TyB Try.prog 9 16 := ⟨fun w => ⟨Try.t9, Try.typeInfo9 w, rfl⟩⟩
instance qu22 : TyU Try.prog 22 (.slice 3) := ⟨Try.runUnderlying22⟩
instance qs22 : TyS Try.prog 22 1 := ⟨Try.sizeOf22⟩
instance qa22 : TyA Try.prog 22 false := ⟨Try.isAgg22⟩
instance qb22 : TyB Try.prog 22 24 := ⟨fun w => ⟨Try.t22, Try.typeInfo22 w, rfl⟩⟩
instance qu24 : TyU Try.prog 24 (.pointer 88) := ⟨Try.runUnderlying24⟩
instance qs24 : TyS Try.prog 24 1 := ⟨Try.sizeOf24⟩
instance qa24 : TyA Try.prog 24 false := ⟨Try.isAgg24⟩
instance qb24 : TyB Try.prog 24 8 := ⟨fun w => ⟨Try.t24, Try.typeInfo24 w, rfl⟩⟩
instance qu26 : TyU Try.prog 26 (.pointer 94) := ⟨Try.runUnderlying26⟩
instance qs26 : TyS Try.prog 26 1 := ⟨Try.sizeOf26⟩
instance qa26 : TyA Try.prog 26 false := ⟨Try.isAgg26⟩
instance qb26 : TyB Try.prog 26 8 := ⟨fun w => ⟨Try.t26, Try.typeInfo26 w, rfl⟩⟩
instance qu28 : TyU Try.prog 28 (.map 3 3) := ⟨Try.runUnderlying28⟩
instance qs28 : TyS Try.prog 28 1 := ⟨Try.sizeOf28⟩
instance qa28 : TyA Try.prog 28 false := ⟨Try.isAgg28⟩
instance qb28 : TyB Try.prog 28 8 := ⟨fun w => ⟨Try.t28, Try.typeInfo28 w, rfl⟩⟩
instance qu29 : TyU Try.prog 29 (.slice 5) := ⟨Try.runUnderlying29⟩
instance qs29 : TyS Try.prog 29 1 := ⟨Try.sizeOf29⟩
instance qa29 : TyA Try.prog 29 false := ⟨Try.isAgg29⟩
instance qb29 : TyB Try.prog 29 24 := ⟨fun w => ⟨Try.t29, Try.typeInfo29 w, rfl⟩⟩
instance qu30 : TyU Try.prog 30 (.int .i64) := ⟨Try.runUnderlying30⟩
instance qs30 : TyS Try.prog 30 1 := ⟨Try.sizeOf30⟩
instance qa30 : TyA Try.prog 30 false := ⟨Try.isAgg30⟩
instance qb30 : TyB Try.prog 30 8 := ⟨fun w => ⟨Try.t30, Try.typeInfo30 w, rfl⟩⟩
instance qu39 : TyU Try.prog 39 (.slice 29) := ⟨Try.runUnderlying39⟩
instance qs39 : TyS Try.prog 39 1 := ⟨Try.sizeOf39⟩
instance qa39 : TyA Try.prog 39 false := ⟨Try.isAgg39⟩
instance qb39 : TyB Try.prog 39 24 := ⟨fun w => ⟨Try.t39, Try.typeInfo39 w, rfl⟩⟩
instance qu40 : TyU Try.prog 40 (.slice 9) := ⟨Try.runUnderlying40⟩
instance qs40 : TyS Try.prog 40 1 := ⟨Try.sizeOf40⟩
instance qa40 : TyA Try.prog 40 false := ⟨Try.isAgg40⟩
instance qb40 : TyB Try.prog 40 24 := ⟨fun w => ⟨Try.t40, Try.typeInfo40 w, rfl⟩⟩
instance qu43 : TyU Try.prog 43 (.pointer 134) := ⟨Try.runUnderlying43⟩
instance qs43 : TyS Try.prog 43 1 := ⟨Try.sizeOf43⟩
instance qa43 : TyA Try.prog 43 false := ⟨Try.isAgg43⟩
instance qb43 : TyB Try.prog 43 8 := ⟨fun w => ⟨Try.t43, Try.typeInfo43 w, rfl⟩⟩
instance qu46 : TyU Try.prog 46 (.slice 54) := ⟨Try.runUnderlying46⟩
instance qs46 : TyS Try.prog 46 1 := ⟨Try.sizeOf46⟩
instance qa46 : TyA Try.prog 46 false := ⟨Try.isAgg46⟩
instance qb46 : TyB Try.prog 46 24 := ⟨fun w => ⟨Try.t46, Try.typeInfo46 w, rfl⟩⟩
instance qu49 : TyU Try.prog 49 (.array 32 5) := ⟨Try.runUnderlying49⟩
instance qs49 : TyS Try.prog 49 32 := ⟨Try.sizeOf49⟩
instance qa49 : TyA Try.prog 49 true := ⟨Try.isAgg49⟩
instance qb49 : TyB Try.prog 49 32 := ⟨fun w => ⟨Try.t49, Try.typeInfo49 w, rfl⟩⟩
instance qu51 : TyU Try.prog 51 (.slice 49) := ⟨Try.runUnderlying51⟩
instance qs51 : TyS Try.prog 51 1 := ⟨Try.sizeOf51⟩
instance qa51 : TyA Try.prog 51 false := ⟨Try.isAgg51⟩
instance qb51 : TyB Try.prog 51 24 := ⟨fun w => ⟨Try.t51, Try.typeInfo51 w, rfl⟩⟩
instance qs54 : TyS Try.prog 54 41 := ⟨Try.sizeOf54⟩
instance qa54 : TyA Try.prog 54 true := ⟨Try.isAgg54⟩
instance qb54 : TyB Try.prog 54 152 := ⟨fun w => ⟨Try.t54, Try.typeInfo54 w, rfl⟩⟩
instance qu62 : TyU Try.prog 62 (.slice 64) := ⟨Try.runUnderlying62⟩
instance qs62 : TyS Try.prog 62 1 := ⟨Try.sizeOf62⟩
instance qa62 : TyA Try.prog 62 false := ⟨Try.isAgg62⟩
instance qb62 : TyB Try.prog 62 24 := ⟨fun w => ⟨Try.t62, Try.typeInfo62 w, rfl⟩⟩
instance qs64 : TyS Try.prog 64 44 := ⟨Try.sizeOf64⟩
instance qa64 : TyA Try.prog 64 true := ⟨Try.isAgg64⟩
instance qb64 : TyB Try.prog 64 176 := ⟨fun w => ⟨Try.t64, Try.typeInfo64 w, rfl⟩⟩
instance qu65 : TyU Try.prog 65 (.pointer 74) := ⟨Try.runUnderlying65⟩
instance qs65 : TyS Try.prog 65 1 := ⟨Try.sizeOf65⟩
instance qa65 : TyA Try.prog 65 false := ⟨Try.isAgg65⟩
instance qb65 : TyB Try.prog 65 8 := ⟨fun w => ⟨Try.t65, Try.typeInfo65 w, rfl⟩⟩
instance qu70 : TyU Try.prog 70 (.slice 43) := ⟨Try.runUnderlying70⟩
instance qs70 : TyS Try.prog 70 1 := ⟨Try.sizeOf70⟩
instance qa70 : TyA Try.prog 70 false := ⟨Try.isAgg70⟩
instance qb70 : TyB Try.prog 70 24 := ⟨fun w => ⟨Try.t70, Try.typeInfo70 w, rfl⟩⟩
instance qu71 : TyU Try.prog 71 (.slice 151) := ⟨Try.runUnderlying71⟩
instance qs71 : TyS Try.prog 71 1 := ⟨Try.sizeOf71⟩
instance qa71 : TyA Try.prog 71 false := ⟨Try.isAgg71⟩
instance qb71 : TyB Try.prog 71 24 := ⟨fun w => ⟨Try.t71, Try.typeInfo71 w, rfl⟩⟩
instance qu72 : TyU Try.prog 72 (.slice 46) := ⟨Try.runUnderlying72⟩
instance qs72 : TyS Try.prog 72 1 := ⟨Try.sizeOf72⟩
instance qa72 : TyA Try.prog 72 false := ⟨Try.isAgg72⟩
instance qb72 : TyB Try.prog 72 24 := ⟨fun w => ⟨Try.t72, Try.typeInfo72 w, rfl⟩⟩
instance qs74 : TyS Try.prog 74 6 := ⟨Try.sizeOf74⟩
instance qa74 : TyA Try.prog 74 true := ⟨Try.isAgg74⟩
instance qb74 : TyB Try.prog 74 112 := ⟨fun w => ⟨Try.t74, Try.typeInfo74 w, rfl⟩⟩
instance qu76 : TyU Try.prog 76 (.array 2 3) := ⟨Try.runUnderlying76⟩
instance qs76 : TyS Try.prog 76 2 := ⟨Try.sizeOf76⟩
instance qa76 : TyA Try.prog 76 true := ⟨Try.isAgg76⟩
instance qb76 : TyB Try.prog 76 16 := ⟨fun w => ⟨Try.t76, Try.typeInfo76 w, rfl⟩⟩
instance qu77 : TyU Try.prog 77 (.slice 81) := ⟨Try.runUnderlying77⟩
instance qs77 : TyS Try.prog 77 1 := ⟨Try.sizeOf77⟩
instance qa77 : TyA Try.prog 77 false := ⟨Try.isAgg77⟩
instance qb77 : TyB Try.prog 77 24 := ⟨fun w => ⟨Try.t77, Try.typeInfo77 w, rfl⟩⟩
instance qs81 : TyS Try.prog 81 43 := ⟨Try.sizeOf81⟩
instance qa81 : TyA Try.prog 81 true := ⟨Try.isAgg81⟩
instance qb81 : TyB Try.prog 81 168 := ⟨fun w => ⟨Try.t81, Try.typeInfo81 w, rfl⟩⟩
instance qu86 : TyU Try.prog 86 (.slice 102) := ⟨Try.runUnderlying86⟩
instance qs86 : TyS Try.prog 86 1 := ⟨Try.sizeOf86⟩
instance qa86 : TyA Try.prog 86 false := ⟨Try.isAgg86⟩
instance qb86 : TyB Try.prog 86 24 := ⟨fun w => ⟨Try.t86, Try.typeInfo86 w, rfl⟩⟩
instance qs88 : TyS Try.prog 88 1 := ⟨Try.sizeOf88⟩
instance qa88 : TyA Try.prog 88 true := ⟨Try.isAgg88⟩
instance qb88 : TyB Try.prog 88 24 := ⟨fun w => ⟨Try.t88, Try.typeInfo88 w, rfl⟩⟩
instance qu89 : TyU Try.prog 89 (.map 108 3) := ⟨Try.runUnderlying89⟩
instance qs89 : TyS Try.prog 89 1 := ⟨Try.sizeOf89⟩
instance qa89 : TyA Try.prog 89 false := ⟨Try.isAgg89⟩
instance qb89 : TyB Try.prog 89 8 := ⟨fun w => ⟨Try.t89, Try.typeInfo89 w, rfl⟩⟩
instance qu90 : TyU Try.prog 90 (.pointer 170) := ⟨Try.runUnderlying90⟩
instance qs90 : TyS Try.prog 90 1 := ⟨Try.sizeOf90⟩
instance qa90 : TyA Try.prog 90 false := ⟨Try.isAgg90⟩
instance qb90 : TyB Try.prog 90 8 := ⟨fun w => ⟨Try.t90, Try.typeInfo90 w, rfl⟩⟩
instance qu92 : TyU Try.prog 92 (.slice 114) := ⟨Try.runUnderlying92⟩
instance qs92 : TyS Try.prog 92 1 := ⟨Try.sizeOf92⟩
instance qa92 : TyA Try.prog 92 false := ⟨Try.isAgg92⟩
instance qb92 : TyB Try.prog 92 24 := ⟨fun w => ⟨Try.t92, Try.typeInfo92 w, rfl⟩⟩
instance qs94 : TyS Try.prog 94 4 := ⟨Try.sizeOf94⟩
instance qa94 : TyA Try.prog 94 true := ⟨Try.isAgg94⟩
instance qb94 : TyB Try.prog 94 64 := ⟨fun w => ⟨Try.t94, Try.typeInfo94 w, rfl⟩⟩
instance qs102 : TyS Try.prog 102 3 := ⟨Try.sizeOf102⟩
instance qa102 : TyA Try.prog 102 true := ⟨Try.isAgg102⟩
instance qb102 : TyB Try.prog 102 40 := ⟨fun w => ⟨Try.t102, Try.typeInfo102 w, rfl⟩⟩
instance qs108 : TyS Try.prog 108 2 := ⟨Try.sizeOf108⟩
instance qa108 : TyA Try.prog 108 true := ⟨Try.isAgg108⟩
instance qb108 : TyB Try.prog 108 16 := ⟨fun w => ⟨Try.t108, Try.typeInfo108 w, rfl⟩⟩
instance qs114 : TyS Try.prog 114 34 := ⟨Try.sizeOf114⟩
instance qa114 : TyA Try.prog 114 true := ⟨Try.isAgg114⟩
instance qb114 : TyB Try.prog 114 48 := ⟨fun w => ⟨Try.t114, Try.typeInfo114 w, rfl⟩⟩
instance qs118 : TyS Try.prog 118 1 := ⟨Try.sizeOf118⟩
instance qa118 : TyA Try.prog 118 false := ⟨Try.isAgg118⟩
instance qb118 : TyB Try.prog 118 8 := ⟨fun w => ⟨Try.t118, Try.typeInfo118 w, rfl⟩⟩
instance qs121 : TyS Try.prog 121 1 := ⟨Try.sizeOf121⟩
instance qa121 : TyA Try.prog 121 false := ⟨Try.isAgg121⟩
instance qb121 : TyB Try.prog 121 8 := ⟨fun w => ⟨Try.t121, Try.typeInfo121 w, rfl⟩⟩
instance qs122 : TyS Try.prog 122 1 := ⟨Try.sizeOf122⟩
instance qa122 : TyA Try.prog 122 false := ⟨Try.isAgg122⟩
instance qb122 : TyB Try.prog 122 8 := ⟨fun w => ⟨Try.t122, Try.typeInfo122 w, rfl⟩⟩
instance qs124 : TyS Try.prog 124 1 := ⟨Try.sizeOf124⟩
instance qa124 : TyA Try.prog 124 true := ⟨Try.isAgg124⟩
instance qb124 : TyB Try.prog 124 8 := ⟨fun w => ⟨Try.t124, Try.typeInfo124 w, rfl⟩⟩
instance qu125 : TyU Try.prog 125 (.pointer 192) := ⟨Try.runUnderlying125⟩
instance qs125 : TyS Try.prog 125 1 := ⟨Try.sizeOf125⟩
instance qa125 : TyA Try.prog 125 false := ⟨Try.isAgg125⟩
instance qb125 : TyB Try.prog 125 8 := ⟨fun w => ⟨Try.t125, Try.typeInfo125 w, rfl⟩⟩
instance qu128 : TyU Try.prog 128 (.map 49 29) := ⟨Try.runUnderlying128⟩
instance qs128 : TyS Try.prog 128 1 := ⟨Try.sizeOf128⟩
instance qa128 : TyA Try.prog 128 false := ⟨Try.isAgg128⟩
instance qb128 : TyB Try.prog 128 8 := ⟨fun w => ⟨Try.t128, Try.typeInfo128 w, rfl⟩⟩
instance qu129 : TyU Try.prog 129 (.map 3 4) := ⟨Try.runUnderlying129⟩
instance qs129 : TyS Try.prog 129 1 := ⟨Try.sizeOf129⟩
instance qa129 : TyA Try.prog 129 false := ⟨Try.isAgg129⟩
instance qb129 : TyB Try.prog 129 8 := ⟨fun w => ⟨Try.t129, Try.typeInfo129 w, rfl⟩⟩
instance qu130 : TyU Try.prog 130 (.slice 200) := ⟨Try.runUnderlying130⟩
instance qs130 : TyS Try.prog 130 1 := ⟨Try.sizeOf130⟩
instance qa130 : TyA Try.prog 130 false := ⟨Try.isAgg130⟩
instance qb130 : TyB Try.prog 130 24 := ⟨fun w => ⟨Try.t130, Try.typeInfo130 w, rfl⟩⟩
instance qs132 : TyS Try.prog 132 2 := ⟨Try.sizeOf132⟩
instance qa132 : TyA Try.prog 132 true := ⟨Try.isAgg132⟩
instance qb132 : TyB Try.prog 132 32 := ⟨fun w => ⟨Try.t132, Try.typeInfo132 w, rfl⟩⟩
instance qs134 : TyS Try.prog 134 10 := ⟨Try.sizeOf134⟩
instance qa134 : TyA Try.prog 134 true := ⟨Try.isAgg134⟩
instance qb134 : TyB Try.prog 134 112 := ⟨fun w => ⟨Try.t134, Try.typeInfo134 w, rfl⟩⟩
instance qu136 : TyU Try.prog 136 (.slice 166) := ⟨Try.runUnderlying136⟩
instance qs136 : TyS Try.prog 136 1 := ⟨Try.sizeOf136⟩
instance qa136 : TyA Try.prog 136 false := ⟨Try.isAgg136⟩
instance qb136 : TyB Try.prog 136 24 := ⟨fun w => ⟨Try.t136, Try.typeInfo136 w, rfl⟩⟩
instance qs141 : TyS Try.prog 141 34 := ⟨Try.sizeOf141⟩
instance qa141 : TyA Try.prog 141 true := ⟨Try.isAgg141⟩
instance qb141 : TyB Try.prog 141 48 := ⟨fun w => ⟨Try.t141, Try.typeInfo141 w, rfl⟩⟩
instance qu147 : TyU Try.prog 147 (.array 2 49) := ⟨Try.runUnderlying147⟩
instance qs147 : TyS Try.prog 147 64 := ⟨Try.sizeOf147⟩
instance qa147 : TyA Try.prog 147 true := ⟨Try.isAgg147⟩
instance qb147 : TyB Try.prog 147 64 := ⟨fun w => ⟨Try.t147, Try.typeInfo147 w, rfl⟩⟩
instance qu151 : TyU Try.prog 151 (.slice 153) := ⟨Try.runUnderlying151⟩
instance qs151 : TyS Try.prog 151 1 := ⟨Try.sizeOf151⟩
instance qa151 : TyA Try.prog 151 false := ⟨Try.isAgg151⟩
instance qb151 : TyB Try.prog 151 24 := ⟨fun w => ⟨Try.t151, Try.typeInfo151 w, rfl⟩⟩
instance qs153 : TyS Try.prog 153 42 := ⟨Try.sizeOf153⟩
instance qa153 : TyA Try.prog 153 true := ⟨Try.isAgg153⟩
instance qb153 : TyB Try.prog 153 160 := ⟨fun w => ⟨Try.t153, Try.typeInfo153 w, rfl⟩⟩
instance qs166 : TyS Try.prog 166 36 := ⟨Try.sizeOf166⟩
instance qa166 : TyA Try.prog 166 true := ⟨Try.isAgg166⟩
instance qb166 : TyB Try.prog 166 64 := ⟨fun w => ⟨Try.t166, Try.typeInfo166 w, rfl⟩⟩
instance qu167 : TyU Try.prog 167 (.map 3 49) := ⟨Try.runUnderlying167⟩
instance qs167 : TyS Try.prog 167 1 := ⟨Try.sizeOf167⟩
instance qa167 : TyA Try.prog 167 false := ⟨Try.isAgg167⟩
instance qb167 : TyB Try.prog 167 8 := ⟨fun w => ⟨Try.t167, Try.typeInfo167 w, rfl⟩⟩
instance qs170 : TyS Try.prog 170 2 := ⟨Try.sizeOf170⟩
instance qa170 : TyA Try.prog 170 true := ⟨Try.isAgg170⟩
instance qb170 : TyB Try.prog 170 32 := ⟨fun w => ⟨Try.t170, Try.typeInfo170 w, rfl⟩⟩
instance qs176 : TyS Try.prog 176 2 := ⟨Try.sizeOf176⟩
instance qa176 : TyA Try.prog 176 true := ⟨Try.isAgg176⟩
instance qb176 : TyB Try.prog 176 32 := ⟨fun w => ⟨Try.t176, Try.typeInfo176 w, rfl⟩⟩
instance qu178 : TyU Try.prog 178 (.int .u64) := ⟨Try.runUnderlying178⟩
instance qs178 : TyS Try.prog 178 1 := ⟨Try.sizeOf178⟩
instance qa178 : TyA Try.prog 178 false := ⟨Try.isAgg178⟩
instance qb178 : TyB Try.prog 178 8 := ⟨fun w => ⟨Try.t178, Try.typeInfo178 w, rfl⟩⟩
instance qu185 : TyU Try.prog 185 (.pointer 227) := ⟨Try.runUnderlying185⟩
instance qs185 : TyS Try.prog 185 1 := ⟨Try.sizeOf185⟩
instance qa185 : TyA Try.prog 185 false := ⟨Try.isAgg185⟩
instance qb185 : TyB Try.prog 185 8 := ⟨fun w => ⟨Try.t185, Try.typeInfo185 w, rfl⟩⟩
instance qu188 : TyU Try.prog 188 (.array 12 141) := ⟨Try.runUnderlying188⟩
instance qs188 : TyS Try.prog 188 408 := ⟨Try.sizeOf188⟩
instance qa188 : TyA Try.prog 188 true := ⟨Try.isAgg188⟩
instance qb188 : TyB Try.prog 188 576 := ⟨fun w => ⟨Try.t188, Try.typeInfo188 w, rfl⟩⟩
instance qu189 : TyU Try.prog 189 (.array 3 4) := ⟨Try.runUnderlying189⟩
instance qs189 : TyS Try.prog 189 3 := ⟨Try.sizeOf189⟩
instance qa189 : TyA Try.prog 189 true := ⟨Try.isAgg189⟩
instance qb189 : TyB Try.prog 189 3 := ⟨fun w => ⟨Try.t189, Try.typeInfo189 w, rfl⟩⟩
instance qu190 : TyU Try.prog 190 (.array 12 189) := ⟨Try.runUnderlying190⟩
instance qs190 : TyS Try.prog 190 36 := ⟨Try.sizeOf190⟩
instance qa190 : TyA Try.prog 190 true := ⟨Try.isAgg190⟩
instance qb190 : TyB Try.prog 190 36 := ⟨fun w => ⟨Try.t190, Try.typeInfo190 w, rfl⟩⟩
instance qs192 : TyS Try.prog 192 550 := ⟨Try.sizeOf192⟩
instance qa192 : TyA Try.prog 192 true := ⟨Try.isAgg192⟩
instance qb192 : TyB Try.prog 192 824 := ⟨fun w => ⟨Try.t192, Try.typeInfo192 w, rfl⟩⟩
instance qu197 : TyU Try.prog 197 (.pointer 132) := ⟨Try.runUnderlying197⟩
instance qs197 : TyS Try.prog 197 1 := ⟨Try.sizeOf197⟩
instance qa197 : TyA Try.prog 197 false := ⟨Try.isAgg197⟩
instance qb197 : TyB Try.prog 197 8 := ⟨fun w => ⟨Try.t197, Try.typeInfo197 w, rfl⟩⟩
instance qs200 : TyS Try.prog 200 3 := ⟨Try.sizeOf200⟩
instance qa200 : TyA Try.prog 200 true := ⟨Try.isAgg200⟩
instance qb200 : TyB Try.prog 200 24 := ⟨fun w => ⟨Try.t200, Try.typeInfo200 w, rfl⟩⟩
instance qs201 : TyS Try.prog 201 1 := ⟨Try.sizeOf201⟩
instance qa201 : TyA Try.prog 201 false := ⟨Try.isAgg201⟩
instance qb201 : TyB Try.prog 201 8 := ⟨fun w => ⟨Try.t201, Try.typeInfo201 w, rfl⟩⟩
instance qu204 : TyU Try.prog 204 (.array 5 3) := ⟨Try.runUnderlying204⟩
instance qs204 : TyS Try.prog 204 5 := ⟨Try.sizeOf204⟩
instance qa204 : TyA Try.prog 204 true := ⟨Try.isAgg204⟩
instance qb204 : TyB Try.prog 204 40 := ⟨fun w => ⟨Try.t204, Try.typeInfo204 w, rfl⟩⟩
instance qu206 : TyU Try.prog 206 (.pointer 208) := ⟨Try.runUnderlying206⟩
instance qs206 : TyS Try.prog 206 1 := ⟨Try.sizeOf206⟩
instance qa206 : TyA Try.prog 206 false := ⟨Try.isAgg206⟩
instance qb206 : TyB Try.prog 206 8 := ⟨fun w => ⟨Try.t206, Try.typeInfo206 w, rfl⟩⟩
instance qs208 : TyS Try.prog 208 2 := ⟨Try.sizeOf208⟩
instance qa208 : TyA Try.prog 208 true := ⟨Try.isAgg208⟩
instance qb208 : TyB Try.prog 208 32 := ⟨fun w => ⟨Try.t208, Try.typeInfo208 w, rfl⟩⟩
instance qu209 : TyU Try.prog 209 (.pointer 3) := ⟨Try.runUnderlying209⟩
instance qs209 : TyS Try.prog 209 1 := ⟨Try.sizeOf209⟩
instance qa209 : TyA Try.prog 209 false := ⟨Try.isAgg209⟩
instance qb209 : TyB Try.prog 209 8 := ⟨fun w => ⟨Try.t209, Try.typeInfo209 w, rfl⟩⟩
instance qu210 : TyU Try.prog 210 (.array 5 209) := ⟨Try.runUnderlying210⟩
instance qs210 : TyS Try.prog 210 5 := ⟨Try.sizeOf210⟩
instance qa210 : TyA Try.prog 210 true := ⟨Try.isAgg210⟩
instance qb210 : TyB Try.prog 210 40 := ⟨fun w => ⟨Try.t210, Try.typeInfo210 w, rfl⟩⟩
instance qu214 : TyU Try.prog 214 (.int .u32) := ⟨Try.runUnderlying214⟩
instance qs214 : TyS Try.prog 214 1 := ⟨Try.sizeOf214⟩
instance qa214 : TyA Try.prog 214 false := ⟨Try.isAgg214⟩
instance qb214 : TyB Try.prog 214 4 := ⟨fun w => ⟨Try.t214, Try.typeInfo214 w, rfl⟩⟩
instance qu216 : TyU Try.prog 216 (.array 8 214) := ⟨Try.runUnderlying216⟩
instance qs216 : TyS Try.prog 216 8 := ⟨Try.sizeOf216⟩
instance qa216 : TyA Try.prog 216 true := ⟨Try.isAgg216⟩
instance qb216 : TyB Try.prog 216 32 := ⟨fun w => ⟨Try.t216, Try.typeInfo216 w, rfl⟩⟩
instance qu220 : TyU Try.prog 220 (.array 64 5) := ⟨Try.runUnderlying220⟩
instance qs220 : TyS Try.prog 220 64 := ⟨Try.sizeOf220⟩
instance qa220 : TyA Try.prog 220 true := ⟨Try.isAgg220⟩
instance qb220 : TyB Try.prog 220 64 := ⟨fun w => ⟨Try.t220, Try.typeInfo220 w, rfl⟩⟩
instance qu222 : TyU Try.prog 222 (.pointer 220) := ⟨Try.runUnderlying222⟩
instance qs222 : TyS Try.prog 222 1 := ⟨Try.sizeOf222⟩
instance qa222 : TyA Try.prog 222 false := ⟨Try.isAgg222⟩
instance qb222 : TyB Try.prog 222 8 := ⟨fun w => ⟨Try.t222, Try.typeInfo222 w, rfl⟩⟩
instance qu223 : TyU Try.prog 223 (.slice 230) := ⟨Try.runUnderlying223⟩
instance qs223 : TyS Try.prog 223 1 := ⟨Try.sizeOf223⟩
instance qa223 : TyA Try.prog 223 false := ⟨Try.isAgg223⟩
instance qb223 : TyB Try.prog 223 24 := ⟨fun w => ⟨Try.t223, Try.typeInfo223 w, rfl⟩⟩
instance qu224 : TyU Try.prog 224 (.array 2 223) := ⟨Try.runUnderlying224⟩
instance qs224 : TyS Try.prog 224 2 := ⟨Try.sizeOf224⟩
instance qa224 : TyA Try.prog 224 true := ⟨Try.isAgg224⟩
instance qb224 : TyB Try.prog 224 48 := ⟨fun w => ⟨Try.t224, Try.typeInfo224 w, rfl⟩⟩
instance qu225 : TyU Try.prog 225 (.array 12 224) := ⟨Try.runUnderlying225⟩
instance qs225 : TyS Try.prog 225 24 := ⟨Try.sizeOf225⟩
instance qa225 : TyA Try.prog 225 true := ⟨Try.isAgg225⟩
instance qb225 : TyB Try.prog 225 576 := ⟨fun w => ⟨Try.t225, Try.typeInfo225 w, rfl⟩⟩
instance qs227 : TyS Try.prog 227 25 := ⟨Try.sizeOf227⟩
instance qa227 : TyA Try.prog 227 true := ⟨Try.isAgg227⟩
instance qb227 : TyB Try.prog 227 584 := ⟨fun w => ⟨Try.t227, Try.typeInfo227 w, rfl⟩⟩
instance qs230 : TyS Try.prog 230 33 := ⟨Try.sizeOf230⟩
instance qa230 : TyA Try.prog 230 true := ⟨Try.isAgg230⟩
instance qb230 : TyB Try.prog 230 33 := ⟨fun w => ⟨Try.t230, Try.typeInfo230 w, rfl⟩⟩
instance qu234 : TyU Try.prog 234 (.int .u64) := ⟨Try.runUnderlying234⟩
instance qs234 : TyS Try.prog 234 1 := ⟨Try.sizeOf234⟩
instance qa234 : TyA Try.prog 234 false := ⟨Try.isAgg234⟩
instance qb234 : TyB Try.prog 234 8 := ⟨fun w => ⟨Try.t234, Try.typeInfo234 w, rfl⟩⟩
instance qu236 : TyU Try.prog 236 (.array 64 214) := ⟨Try.runUnderlying236⟩
instance qs236 : TyS Try.prog 236 64 := ⟨Try.sizeOf236⟩
instance qa236 : TyA Try.prog 236 true := ⟨Try.isAgg236⟩
instance qb236 : TyB Try.prog 236 256 := ⟨fun w => ⟨Try.t236, Try.typeInfo236 w, rfl⟩⟩
instance qs243 : TyS Try.prog 243 1 := ⟨Try.sizeOf243⟩
instance qa243 : TyA Try.prog 243 false := ⟨Try.isAgg243⟩
instance qb243 : TyB Try.prog 243 8 := ⟨fun w => ⟨Try.t243, Try.typeInfo243 w, rfl⟩⟩
instance qz3 : TyZ Try.prog 3 [.one (.int .i64 0)] := ⟨fun w => ⟨_, Try.zeroValue3 w, rfl⟩, ⟨rfl, trivial⟩⟩
instance qz4 : TyZ Try.prog 4 [.one (.bool false)] := ⟨fun w => ⟨_, Try.zeroValue4 w, rfl⟩, ⟨rfl, trivial⟩⟩
instance qz5 : TyZ Try.prog 5 [.one (.int .u8 0)] := ⟨fun w => ⟨_, Try.zeroValue5 w, rfl⟩, ⟨rfl, trivial⟩⟩
instance qz9 : TyZ Try.prog 9 [.one (.string ⟨#[]⟩)] := ⟨fun w => ⟨_, Try.zeroValue9 w, rfl⟩, ⟨rfl, trivial⟩⟩
instance qz29 : TyZ Try.prog 29 [.one (.slice none 0 0)] := ⟨fun w => ⟨_, Try.zeroValue29 w, rfl⟩, ⟨rfl, trivial⟩⟩
instance qz30 : TyZ Try.prog 30 [.one (.int .i64 0)] := ⟨fun w => ⟨_, Try.zeroValue30 w, rfl⟩, ⟨rfl, trivial⟩⟩
instance qz43 : TyZ Try.prog 43 [.one (.pointer none)] := ⟨fun w => ⟨_, Try.zeroValue43 w, rfl⟩, ⟨rfl, trivial⟩⟩
instance qz46 : TyZ Try.prog 46 [.one (.slice none 0 0)] := ⟨fun w => ⟨_, Try.zeroValue46 w, rfl⟩, ⟨rfl, trivial⟩⟩
instance qz49 : TyZ Try.prog 49 [.row 32 (zID.cs)] := ⟨fun w => ⟨_, Try.zeroValue49 w, rfl⟩, ⟨⟨rfl, all_one rfl⟩, trivial⟩⟩
instance qz54 : TyZ Try.prog 54 [.one (.int .i64 0), .one (.int .i64 0), .one (.int .i64 0), .one (.int .i64 0), .one (.int .i64 0), .one (.int .i64 0), .row 32 (zID.cs), .one (.slice none 0 0), .one (.slice none 0 0), .one (.slice none 0 0)] := ⟨fun w => ⟨_, Try.zeroValue54 w, rfl⟩, ⟨rfl, ⟨rfl, ⟨rfl, ⟨rfl, ⟨rfl, ⟨rfl, ⟨⟨rfl, all_one rfl⟩, ⟨rfl, ⟨rfl, ⟨rfl, trivial⟩⟩⟩⟩⟩⟩⟩⟩⟩⟩⟩
instance qz64 : TyZ Try.prog 64 [.one (.int .i64 0), .one (.int .i64 0), .one (.int .i64 0), .one (.int .i64 0), .one (.int .i64 0), .one (.int .i64 0), .one (.int .i64 0), .one (.int .i64 0), .one (.int .i64 0), .row 32 (zID.cs), .one (.slice none 0 0), .one (.slice none 0 0), .one (.slice none 0 0)] := ⟨fun w => ⟨_, Try.zeroValue64 w, rfl⟩, ⟨rfl, ⟨rfl, ⟨rfl, ⟨rfl, ⟨rfl, ⟨rfl, ⟨rfl, ⟨rfl, ⟨rfl, ⟨⟨rfl, all_one rfl⟩, ⟨rfl, ⟨rfl, ⟨rfl, trivial⟩⟩⟩⟩⟩⟩⟩⟩⟩⟩⟩⟩⟩⟩
instance qz74 : TyZ Try.prog 74 [.one (.int .i64 0), .one (.int .i64 0), .one (.slice none 0 0), .one (.slice none 0 0), .one (.slice none 0 0), .one (.slice none 0 0)] := ⟨fun w => ⟨_, Try.zeroValue74 w, rfl⟩, ⟨rfl, ⟨rfl, ⟨rfl, ⟨rfl, ⟨rfl, ⟨rfl, trivial⟩⟩⟩⟩⟩⟩⟩
instance qz81 : TyZ Try.prog 81 [.one (.int .i64 0), .one (.int .i64 0), .one (.int .i64 0), .one (.int .i64 0), .one (.int .i64 0), .one (.int .i64 0), .one (.int .i64 0), .one (.int .i64 0), .row 32 (zID.cs), .one (.slice none 0 0), .one (.slice none 0 0), .one (.slice none 0 0)] := ⟨fun w => ⟨_, Try.zeroValue81 w, rfl⟩, ⟨rfl, ⟨rfl, ⟨rfl, ⟨rfl, ⟨rfl, ⟨rfl, ⟨rfl, ⟨rfl, ⟨⟨rfl, all_one rfl⟩, ⟨rfl, ⟨rfl, ⟨rfl, trivial⟩⟩⟩⟩⟩⟩⟩⟩⟩⟩⟩⟩⟩
instance qz88 : TyZ Try.prog 88 [.one (.slice none 0 0)] := ⟨fun w => ⟨_, Try.zeroValue88 w, rfl⟩, ⟨rfl, trivial⟩⟩
instance qz94 : TyZ Try.prog 94 [.one (.slice none 0 0), .one (.map none), .one (.pointer none), .one (.slice none 0 0)] := ⟨fun w => ⟨_, Try.zeroValue94 w, rfl⟩, ⟨rfl, ⟨rfl, ⟨rfl, ⟨rfl, trivial⟩⟩⟩⟩⟩
instance qz102 : TyZ Try.prog 102 [.one (.int .i64 0), .one (.int .i64 0), .one (.slice none 0 0)] := ⟨fun w => ⟨_, Try.zeroValue102 w, rfl⟩, ⟨rfl, ⟨rfl, ⟨rfl, trivial⟩⟩⟩⟩
instance qz108 : TyZ Try.prog 108 [.one (.int .i64 0), .one (.int .i64 0)] := ⟨fun w => ⟨_, Try.zeroValue108 w, rfl⟩, ⟨rfl, ⟨rfl, trivial⟩⟩⟩
instance qz114 : TyZ Try.prog 114 [.one (.int .i64 0), .one (.int .i64 0), .row 32 (zID.cs)] := ⟨fun w => ⟨_, Try.zeroValue114 w, rfl⟩, ⟨rfl, ⟨rfl, ⟨⟨rfl, all_one rfl⟩, trivial⟩⟩⟩⟩
instance qz124 : TyZ Try.prog 124 [.one .nilFunc] := ⟨fun w => ⟨_, Try.zeroValue124 w, rfl⟩, ⟨rfl, trivial⟩⟩
instance qz130 : TyZ Try.prog 130 [.one (.slice none 0 0)] := ⟨fun w => ⟨_, Try.zeroValue130 w, rfl⟩, ⟨rfl, trivial⟩⟩
instance qz134 : TyZ Try.prog 134 [.one (.pointer none), .one (.int .i64 0), .one (.slice none 0 0), .one (.int .i64 0), .one (.int .i64 0), .one (.int .i64 0), .one (.map none), .one (.map none), .one (.slice none 0 0), .one (.bool false)] := ⟨fun w => ⟨_, Try.zeroValue134 w, rfl⟩, ⟨rfl, ⟨rfl, ⟨rfl, ⟨rfl, ⟨rfl, ⟨rfl, ⟨rfl, ⟨rfl, ⟨rfl, ⟨rfl, trivial⟩⟩⟩⟩⟩⟩⟩⟩⟩⟩⟩
instance qz136 : TyZ Try.prog 136 [.one (.slice none 0 0)] := ⟨fun w => ⟨_, Try.zeroValue136 w, rfl⟩, ⟨rfl, trivial⟩⟩
instance qz141 : TyZ Try.prog 141 [.one (.bool false), .one (.int .i64 0), .row 32 (zID.cs)] := ⟨fun w => ⟨_, Try.zeroValue141 w, rfl⟩, ⟨rfl, ⟨rfl, ⟨⟨rfl, all_one rfl⟩, trivial⟩⟩⟩⟩
set_option maxRecDepth 100000 in
instance qz147 : TyZ Try.prog 147 [.row 64 ((List.replicate 2 (flat [.row 32 (zID.cs)])).flatten)] := ⟨fun w => ⟨_, Try.zeroValue147 w, rfl⟩, ⟨⟨rfl, all_one rfl⟩, trivial⟩⟩
instance qz151 : TyZ Try.prog 151 [.one (.slice none 0 0)] := ⟨fun w => ⟨_, Try.zeroValue151 w, rfl⟩, ⟨rfl, trivial⟩⟩
instance qz153 : TyZ Try.prog 153 [.one (.int .i64 0), .one (.int .i64 0), .one (.int .i64 0), .one (.int .i64 0), .one (.int .i64 0), .one (.int .i64 0), .one (.int .i64 0), .row 32 (zID.cs), .one (.slice none 0 0), .one (.slice none 0 0), .one (.slice none 0 0)] := ⟨fun w => ⟨_, Try.zeroValue153 w, rfl⟩, ⟨rfl, ⟨rfl, ⟨rfl, ⟨rfl, ⟨rfl, ⟨rfl, ⟨rfl, ⟨⟨rfl, all_one rfl⟩, ⟨rfl, ⟨rfl, ⟨rfl, trivial⟩⟩⟩⟩⟩⟩⟩⟩⟩⟩⟩⟩
instance qz166 : TyZ Try.prog 166 [.one (.int .i64 0), .one (.int .i64 0), .one (.int .i64 0), .one (.int .i64 0), .row 32 (zID.cs)] := ⟨fun w => ⟨_, Try.zeroValue166 w, rfl⟩, ⟨rfl, ⟨rfl, ⟨rfl, ⟨rfl, ⟨⟨rfl, all_one rfl⟩, trivial⟩⟩⟩⟩⟩⟩
instance qz170 : TyZ Try.prog 170 [.one (.int .i64 0), .one (.slice none 0 0)] := ⟨fun w => ⟨_, Try.zeroValue170 w, rfl⟩, ⟨rfl, ⟨rfl, trivial⟩⟩⟩
instance qz176 : TyZ Try.prog 176 [.one (.int .u8 0), .one (.slice none 0 0)] := ⟨fun w => ⟨_, Try.zeroValue176 w, rfl⟩, ⟨rfl, ⟨rfl, trivial⟩⟩⟩
set_option maxRecDepth 100000 in
instance qz192 : TyZ Try.prog 192 [.one (.int .i64 0), .one (.int .i64 0), .one (.int .i64 0), .one (.int .i64 0), .one (.int .i64 0), .one (.int .i64 0), .one (.int .i64 0), .row 32 (zID.cs), .row 32 (zID.cs), .row 32 (zID.cs), .row 408 ((List.replicate 12 (flat [.one (.bool false), .one (.int .i64 0), .row 32 (zID.cs)])).flatten), .one (.slice none 0 0), .one (.pointer none), .row 36 ((List.replicate 12 (flat [.one (.bool false), .one (.bool false), .one (.bool false)])).flatten), .one (.slice none 0 0)] := ⟨fun w => ⟨_, Try.zeroValue192 w, rfl⟩, ⟨rfl, ⟨rfl, ⟨rfl, ⟨rfl, ⟨rfl, ⟨rfl, ⟨rfl, ⟨⟨rfl, all_one rfl⟩, ⟨⟨rfl, all_one rfl⟩, ⟨⟨rfl, all_one rfl⟩, ⟨⟨rfl, all_one rfl⟩, ⟨rfl, ⟨rfl, ⟨⟨rfl, all_one rfl⟩, ⟨rfl, trivial⟩⟩⟩⟩⟩⟩⟩⟩⟩⟩⟩⟩⟩⟩⟩⟩
instance qz200 : TyZ Try.prog 200 [.one (.int .i64 0), .one (.int .i64 0), .one (.int .i64 0)] := ⟨fun w => ⟨_, Try.zeroValue200 w, rfl⟩, ⟨rfl, ⟨rfl, ⟨rfl, trivial⟩⟩⟩⟩
instance qz204 : TyZ Try.prog 204 [.one (.int .i64 0), .one (.int .i64 0), .one (.int .i64 0), .one (.int .i64 0), .one (.int .i64 0)] := ⟨fun w => ⟨_, Try.zeroValue204 w, rfl⟩, ⟨rfl, ⟨rfl, ⟨rfl, ⟨rfl, ⟨rfl, trivial⟩⟩⟩⟩⟩⟩
instance qz206 : TyZ Try.prog 206 [.one (.pointer none)] := ⟨fun w => ⟨_, Try.zeroValue206 w, rfl⟩, ⟨rfl, trivial⟩⟩
instance qz208 : TyZ Try.prog 208 [.one (.slice none 0 0), .one (.int .i64 0)] := ⟨fun w => ⟨_, Try.zeroValue208 w, rfl⟩, ⟨rfl, ⟨rfl, trivial⟩⟩⟩
instance qz210 : TyZ Try.prog 210 [.one (.pointer none), .one (.pointer none), .one (.pointer none), .one (.pointer none), .one (.pointer none)] := ⟨fun w => ⟨_, Try.zeroValue210 w, rfl⟩, ⟨rfl, ⟨rfl, ⟨rfl, ⟨rfl, ⟨rfl, trivial⟩⟩⟩⟩⟩⟩
instance qz216 : TyZ Try.prog 216 [.one (.int .u32 0), .one (.int .u32 0), .one (.int .u32 0), .one (.int .u32 0), .one (.int .u32 0), .one (.int .u32 0), .one (.int .u32 0), .one (.int .u32 0)] := ⟨fun w => ⟨_, Try.zeroValue216 w, rfl⟩, ⟨rfl, ⟨rfl, ⟨rfl, ⟨rfl, ⟨rfl, ⟨rfl, ⟨rfl, ⟨rfl, trivial⟩⟩⟩⟩⟩⟩⟩⟩⟩
set_option maxRecDepth 100000 in
instance qz220 : TyZ Try.prog 220 [.row 64 (cBs (List.replicate 64 0))] := ⟨fun w => ⟨_, Try.zeroValue220 w, rfl⟩, ⟨⟨rfl, all_one rfl⟩, trivial⟩⟩
instance qz227 : TyZ Try.prog 227 [.one (.int .i64 0), .row 24 ((List.replicate 12 (flat [.one (.slice none 0 0), .one (.slice none 0 0)])).flatten)] := ⟨fun w => ⟨_, Try.zeroValue227 w, rfl⟩, ⟨rfl, ⟨⟨rfl, all_one rfl⟩, trivial⟩⟩⟩
instance qz230 : TyZ Try.prog 230 [.one (.bool false), .row 32 (zID.cs)] := ⟨fun w => ⟨_, Try.zeroValue230 w, rfl⟩, ⟨rfl, ⟨⟨rfl, all_one rfl⟩, trivial⟩⟩⟩
set_option maxRecDepth 100000 in
instance qz236 : TyZ Try.prog 236 [.row 64 (cWs (List.replicate 64 0))] := ⟨fun w => ⟨_, Try.zeroValue236 w, rfl⟩, ⟨⟨rfl, all_one rfl⟩, trivial⟩⟩
instance qv3 : TyV Try.prog 3 (.int .i64 0) := ⟨fun w => Try.zeroValue3 w⟩
instance qv4 : TyV Try.prog 4 (.bool false) := ⟨fun w => Try.zeroValue4 w⟩
instance qv29 : TyV Try.prog 29 (.slice none 0 0) := ⟨fun w => Try.zeroValue29 w⟩
instance qg49 : TyG Try.prog 49 := ⟨Try.eqGuardType49⟩
instance qg54 : TyG Try.prog 54 := ⟨Try.eqGuardType54⟩
instance qg64 : TyG Try.prog 64 := ⟨Try.eqGuardType64⟩
instance qg74 : TyG Try.prog 74 := ⟨Try.eqGuardType74⟩
instance qg76 : TyG Try.prog 76 := ⟨Try.eqGuardType76⟩
instance qg81 : TyG Try.prog 81 := ⟨Try.eqGuardType81⟩
instance qg88 : TyG Try.prog 88 := ⟨Try.eqGuardType88⟩
instance qg94 : TyG Try.prog 94 := ⟨Try.eqGuardType94⟩
instance qg102 : TyG Try.prog 102 := ⟨Try.eqGuardType102⟩
instance qg108 : TyG Try.prog 108 := ⟨Try.eqGuardType108⟩
instance qg114 : TyG Try.prog 114 := ⟨Try.eqGuardType114⟩
instance qg124 : TyG Try.prog 124 := ⟨Try.eqGuardType124⟩
instance qg132 : TyG Try.prog 132 := ⟨Try.eqGuardType132⟩
instance qg134 : TyG Try.prog 134 := ⟨Try.eqGuardType134⟩
instance qg141 : TyG Try.prog 141 := ⟨Try.eqGuardType141⟩
instance qg147 : TyG Try.prog 147 := ⟨Try.eqGuardType147⟩
instance qg153 : TyG Try.prog 153 := ⟨Try.eqGuardType153⟩
instance qg166 : TyG Try.prog 166 := ⟨Try.eqGuardType166⟩
instance qg170 : TyG Try.prog 170 := ⟨Try.eqGuardType170⟩
instance qg176 : TyG Try.prog 176 := ⟨Try.eqGuardType176⟩
instance qg188 : TyG Try.prog 188 := ⟨Try.eqGuardType188⟩
instance qg189 : TyG Try.prog 189 := ⟨Try.eqGuardType189⟩
instance qg190 : TyG Try.prog 190 := ⟨Try.eqGuardType190⟩
instance qg192 : TyG Try.prog 192 := ⟨Try.eqGuardType192⟩
instance qg200 : TyG Try.prog 200 := ⟨Try.eqGuardType200⟩
instance qg204 : TyG Try.prog 204 := ⟨Try.eqGuardType204⟩
instance qg208 : TyG Try.prog 208 := ⟨Try.eqGuardType208⟩
instance qg210 : TyG Try.prog 210 := ⟨Try.eqGuardType210⟩
instance qg216 : TyG Try.prog 216 := ⟨Try.eqGuardType216⟩
instance qg220 : TyG Try.prog 220 := ⟨Try.eqGuardType220⟩
instance qg224 : TyG Try.prog 224 := ⟨Try.eqGuardType224⟩
instance qg225 : TyG Try.prog 225 := ⟨Try.eqGuardType225⟩
instance qg227 : TyG Try.prog 227 := ⟨Try.eqGuardType227⟩
instance qg230 : TyG Try.prog 230 := ⟨Try.eqGuardType230⟩
instance qg236 : TyG Try.prog 236 := ⟨Try.eqGuardType236⟩
instance qf54_0 : TyF Try.prog 54 0 0 := ⟨fun a w => by simp [Instr.fieldAt, Try.runUnderlying54, Instr.sureAddr, fieldPlace, Try.sizeOf3]⟩
instance qf54_1 : TyF Try.prog 54 1 1 := ⟨fun a w => by simp [Instr.fieldAt, Try.runUnderlying54, Instr.sureAddr, fieldPlace, Try.sizeOf3]⟩
instance qf54_2 : TyF Try.prog 54 2 2 := ⟨fun a w => by simp [Instr.fieldAt, Try.runUnderlying54, Instr.sureAddr, fieldPlace, Try.sizeOf3]⟩
instance qf54_3 : TyF Try.prog 54 3 3 := ⟨fun a w => by simp [Instr.fieldAt, Try.runUnderlying54, Instr.sureAddr, fieldPlace, Try.sizeOf3]⟩
instance qf54_4 : TyF Try.prog 54 4 4 := ⟨fun a w => by simp [Instr.fieldAt, Try.runUnderlying54, Instr.sureAddr, fieldPlace, Try.sizeOf3]⟩
instance qf54_5 : TyF Try.prog 54 5 5 := ⟨fun a w => by simp [Instr.fieldAt, Try.runUnderlying54, Instr.sureAddr, fieldPlace, Try.sizeOf3]⟩
instance qf54_6 : TyF Try.prog 54 6 6 := ⟨fun a w => by simp [Instr.fieldAt, Try.runUnderlying54, Instr.sureAddr, fieldPlace, Try.sizeOf49]⟩
instance qf54_7 : TyF Try.prog 54 7 38 := ⟨fun a w => by simp [Instr.fieldAt, Try.runUnderlying54, Instr.sureAddr, fieldPlace, Try.sizeOf29]⟩
instance qf54_8 : TyF Try.prog 54 8 39 := ⟨fun a w => by simp [Instr.fieldAt, Try.runUnderlying54, Instr.sureAddr, fieldPlace, Try.sizeOf51]⟩
instance qf54_9 : TyF Try.prog 54 9 40 := ⟨fun a w => by simp [Instr.fieldAt, Try.runUnderlying54, Instr.sureAddr, fieldPlace, Try.sizeOf39]⟩
instance qf64_0 : TyF Try.prog 64 0 0 := ⟨fun a w => by simp [Instr.fieldAt, Try.runUnderlying64, Instr.sureAddr, fieldPlace, Try.sizeOf3]⟩
instance qf64_1 : TyF Try.prog 64 1 1 := ⟨fun a w => by simp [Instr.fieldAt, Try.runUnderlying64, Instr.sureAddr, fieldPlace, Try.sizeOf3]⟩
instance qf64_2 : TyF Try.prog 64 2 2 := ⟨fun a w => by simp [Instr.fieldAt, Try.runUnderlying64, Instr.sureAddr, fieldPlace, Try.sizeOf3]⟩
instance qf64_3 : TyF Try.prog 64 3 3 := ⟨fun a w => by simp [Instr.fieldAt, Try.runUnderlying64, Instr.sureAddr, fieldPlace, Try.sizeOf54]⟩
instance qf74_0 : TyF Try.prog 74 0 0 := ⟨fun a w => by simp [Instr.fieldAt, Try.runUnderlying74, Instr.sureAddr, fieldPlace, Try.sizeOf3]⟩
instance qf74_1 : TyF Try.prog 74 1 1 := ⟨fun a w => by simp [Instr.fieldAt, Try.runUnderlying74, Instr.sureAddr, fieldPlace, Try.sizeOf3]⟩
instance qf74_2 : TyF Try.prog 74 2 2 := ⟨fun a w => by simp [Instr.fieldAt, Try.runUnderlying74, Instr.sureAddr, fieldPlace, Try.sizeOf70]⟩
instance qf74_3 : TyF Try.prog 74 3 3 := ⟨fun a w => by simp [Instr.fieldAt, Try.runUnderlying74, Instr.sureAddr, fieldPlace, Try.sizeOf71]⟩
instance qf74_4 : TyF Try.prog 74 4 4 := ⟨fun a w => by simp [Instr.fieldAt, Try.runUnderlying74, Instr.sureAddr, fieldPlace, Try.sizeOf72]⟩
instance qf74_5 : TyF Try.prog 74 5 5 := ⟨fun a w => by simp [Instr.fieldAt, Try.runUnderlying74, Instr.sureAddr, fieldPlace, Try.sizeOf72]⟩
instance qf81_0 : TyF Try.prog 81 0 0 := ⟨fun a w => by simp [Instr.fieldAt, Try.runUnderlying81, Instr.sureAddr, fieldPlace, Try.sizeOf3]⟩
instance qf81_1 : TyF Try.prog 81 1 1 := ⟨fun a w => by simp [Instr.fieldAt, Try.runUnderlying81, Instr.sureAddr, fieldPlace, Try.sizeOf3]⟩
instance qf81_2 : TyF Try.prog 81 2 2 := ⟨fun a w => by simp [Instr.fieldAt, Try.runUnderlying81, Instr.sureAddr, fieldPlace, Try.sizeOf54]⟩
instance qf88_0 : TyF Try.prog 88 0 0 := ⟨fun a w => by simp [Instr.fieldAt, Try.runUnderlying88, Instr.sureAddr, fieldPlace, Try.sizeOf86]⟩
instance qf94_0 : TyF Try.prog 94 0 0 := ⟨fun a w => by simp [Instr.fieldAt, Try.runUnderlying94, Instr.sureAddr, fieldPlace, Try.sizeOf39]⟩
instance qf94_1 : TyF Try.prog 94 1 1 := ⟨fun a w => by simp [Instr.fieldAt, Try.runUnderlying94, Instr.sureAddr, fieldPlace, Try.sizeOf89]⟩
instance qf94_2 : TyF Try.prog 94 2 2 := ⟨fun a w => by simp [Instr.fieldAt, Try.runUnderlying94, Instr.sureAddr, fieldPlace, Try.sizeOf90]⟩
instance qf94_3 : TyF Try.prog 94 3 3 := ⟨fun a w => by simp [Instr.fieldAt, Try.runUnderlying94, Instr.sureAddr, fieldPlace, Try.sizeOf92]⟩
instance qf102_0 : TyF Try.prog 102 0 0 := ⟨fun a w => by simp [Instr.fieldAt, Try.runUnderlying102, Instr.sureAddr, fieldPlace, Try.sizeOf3]⟩
instance qf102_1 : TyF Try.prog 102 1 1 := ⟨fun a w => by simp [Instr.fieldAt, Try.runUnderlying102, Instr.sureAddr, fieldPlace, Try.sizeOf3]⟩
instance qf102_2 : TyF Try.prog 102 2 2 := ⟨fun a w => by simp [Instr.fieldAt, Try.runUnderlying102, Instr.sureAddr, fieldPlace, Try.sizeOf29]⟩
instance qf124_0 : TyF Try.prog 124 0 0 := ⟨fun a w => by simp [Instr.fieldAt, Try.runUnderlying124, Instr.sureAddr, fieldPlace, Try.sizeOf122]⟩
instance qf132_0 : TyF Try.prog 132 0 0 := ⟨fun a w => by simp [Instr.fieldAt, Try.runUnderlying132, Instr.sureAddr, fieldPlace, Try.sizeOf3]⟩
instance qf132_1 : TyF Try.prog 132 1 1 := ⟨fun a w => by simp [Instr.fieldAt, Try.runUnderlying132, Instr.sureAddr, fieldPlace, Try.sizeOf130]⟩
instance qf134_0 : TyF Try.prog 134 0 0 := ⟨fun a w => by simp [Instr.fieldAt, Try.runUnderlying134, Instr.sureAddr, fieldPlace, Try.sizeOf125]⟩
instance qf134_1 : TyF Try.prog 134 1 1 := ⟨fun a w => by simp [Instr.fieldAt, Try.runUnderlying134, Instr.sureAddr, fieldPlace, Try.sizeOf132]⟩
instance qf134_2 : TyF Try.prog 134 2 3 := ⟨fun a w => by simp [Instr.fieldAt, Try.runUnderlying134, Instr.sureAddr, fieldPlace, Try.sizeOf3]⟩
instance qf134_3 : TyF Try.prog 134 3 4 := ⟨fun a w => by simp [Instr.fieldAt, Try.runUnderlying134, Instr.sureAddr, fieldPlace, Try.sizeOf3]⟩
instance qf134_4 : TyF Try.prog 134 4 5 := ⟨fun a w => by simp [Instr.fieldAt, Try.runUnderlying134, Instr.sureAddr, fieldPlace, Try.sizeOf3]⟩
instance qf134_5 : TyF Try.prog 134 5 6 := ⟨fun a w => by simp [Instr.fieldAt, Try.runUnderlying134, Instr.sureAddr, fieldPlace, Try.sizeOf128]⟩
instance qf134_6 : TyF Try.prog 134 6 7 := ⟨fun a w => by simp [Instr.fieldAt, Try.runUnderlying134, Instr.sureAddr, fieldPlace, Try.sizeOf129]⟩
instance qf134_7 : TyF Try.prog 134 7 8 := ⟨fun a w => by simp [Instr.fieldAt, Try.runUnderlying134, Instr.sureAddr, fieldPlace, Try.sizeOf29]⟩
instance qf134_8 : TyF Try.prog 134 8 9 := ⟨fun a w => by simp [Instr.fieldAt, Try.runUnderlying134, Instr.sureAddr, fieldPlace, Try.sizeOf4]⟩
instance qf141_0 : TyF Try.prog 141 0 0 := ⟨fun a w => by simp [Instr.fieldAt, Try.runUnderlying141, Instr.sureAddr, fieldPlace, Try.sizeOf4]⟩
instance qf141_1 : TyF Try.prog 141 1 1 := ⟨fun a w => by simp [Instr.fieldAt, Try.runUnderlying141, Instr.sureAddr, fieldPlace, Try.sizeOf3]⟩
instance qf141_2 : TyF Try.prog 141 2 2 := ⟨fun a w => by simp [Instr.fieldAt, Try.runUnderlying141, Instr.sureAddr, fieldPlace, Try.sizeOf49]⟩
instance qf153_0 : TyF Try.prog 153 0 0 := ⟨fun a w => by simp [Instr.fieldAt, Try.runUnderlying153, Instr.sureAddr, fieldPlace, Try.sizeOf3]⟩
instance qf153_1 : TyF Try.prog 153 1 1 := ⟨fun a w => by simp [Instr.fieldAt, Try.runUnderlying153, Instr.sureAddr, fieldPlace, Try.sizeOf54]⟩
instance qf166_0 : TyF Try.prog 166 0 0 := ⟨fun a w => by simp [Instr.fieldAt, Try.runUnderlying166, Instr.sureAddr, fieldPlace, Try.sizeOf3]⟩
instance qf166_1 : TyF Try.prog 166 1 1 := ⟨fun a w => by simp [Instr.fieldAt, Try.runUnderlying166, Instr.sureAddr, fieldPlace, Try.sizeOf3]⟩
instance qf166_2 : TyF Try.prog 166 2 2 := ⟨fun a w => by simp [Instr.fieldAt, Try.runUnderlying166, Instr.sureAddr, fieldPlace, Try.sizeOf3]⟩
instance qf166_3 : TyF Try.prog 166 3 3 := ⟨fun a w => by simp [Instr.fieldAt, Try.runUnderlying166, Instr.sureAddr, fieldPlace, Try.sizeOf3]⟩
instance qf166_4 : TyF Try.prog 166 4 4 := ⟨fun a w => by simp [Instr.fieldAt, Try.runUnderlying166, Instr.sureAddr, fieldPlace, Try.sizeOf49]⟩
instance qf170_0 : TyF Try.prog 170 0 0 := ⟨fun a w => by simp [Instr.fieldAt, Try.runUnderlying170, Instr.sureAddr, fieldPlace, Try.sizeOf3]⟩
instance qf170_1 : TyF Try.prog 170 1 1 := ⟨fun a w => by simp [Instr.fieldAt, Try.runUnderlying170, Instr.sureAddr, fieldPlace, Try.sizeOf51]⟩
instance qf176_0 : TyF Try.prog 176 0 0 := ⟨fun a w => by simp [Instr.fieldAt, Try.runUnderlying176, Instr.sureAddr, fieldPlace, Try.sizeOf5]⟩
instance qf176_1 : TyF Try.prog 176 1 1 := ⟨fun a w => by simp [Instr.fieldAt, Try.runUnderlying176, Instr.sureAddr, fieldPlace, Try.sizeOf29]⟩
instance qf192_0 : TyF Try.prog 192 0 0 := ⟨fun a w => by simp [Instr.fieldAt, Try.runUnderlying192, Instr.sureAddr, fieldPlace, Try.sizeOf3]⟩
instance qf192_1 : TyF Try.prog 192 1 1 := ⟨fun a w => by simp [Instr.fieldAt, Try.runUnderlying192, Instr.sureAddr, fieldPlace, Try.sizeOf3]⟩
instance qf192_2 : TyF Try.prog 192 2 2 := ⟨fun a w => by simp [Instr.fieldAt, Try.runUnderlying192, Instr.sureAddr, fieldPlace, Try.sizeOf3]⟩
instance qf192_3 : TyF Try.prog 192 3 3 := ⟨fun a w => by simp [Instr.fieldAt, Try.runUnderlying192, Instr.sureAddr, fieldPlace, Try.sizeOf3]⟩
instance qf192_4 : TyF Try.prog 192 4 4 := ⟨fun a w => by simp [Instr.fieldAt, Try.runUnderlying192, Instr.sureAddr, fieldPlace, Try.sizeOf3]⟩
instance qf192_5 : TyF Try.prog 192 5 5 := ⟨fun a w => by simp [Instr.fieldAt, Try.runUnderlying192, Instr.sureAddr, fieldPlace, Try.sizeOf3]⟩
instance qf192_6 : TyF Try.prog 192 6 6 := ⟨fun a w => by simp [Instr.fieldAt, Try.runUnderlying192, Instr.sureAddr, fieldPlace, Try.sizeOf3]⟩
instance qf192_7 : TyF Try.prog 192 7 7 := ⟨fun a w => by simp [Instr.fieldAt, Try.runUnderlying192, Instr.sureAddr, fieldPlace, Try.sizeOf49]⟩
instance qf192_8 : TyF Try.prog 192 8 39 := ⟨fun a w => by simp [Instr.fieldAt, Try.runUnderlying192, Instr.sureAddr, fieldPlace, Try.sizeOf49]⟩
instance qf192_9 : TyF Try.prog 192 9 71 := ⟨fun a w => by simp [Instr.fieldAt, Try.runUnderlying192, Instr.sureAddr, fieldPlace, Try.sizeOf49]⟩
instance qf192_10 : TyF Try.prog 192 10 103 := ⟨fun a w => by simp [Instr.fieldAt, Try.runUnderlying192, Instr.sureAddr, fieldPlace, Try.sizeOf188]⟩
instance qf192_11 : TyF Try.prog 192 11 511 := ⟨fun a w => by simp [Instr.fieldAt, Try.runUnderlying192, Instr.sureAddr, fieldPlace, Try.sizeOf51]⟩
instance qf192_12 : TyF Try.prog 192 12 512 := ⟨fun a w => by simp [Instr.fieldAt, Try.runUnderlying192, Instr.sureAddr, fieldPlace, Try.sizeOf185]⟩
instance qf192_13 : TyF Try.prog 192 13 513 := ⟨fun a w => by simp [Instr.fieldAt, Try.runUnderlying192, Instr.sureAddr, fieldPlace, Try.sizeOf190]⟩
instance qf192_14 : TyF Try.prog 192 14 549 := ⟨fun a w => by simp [Instr.fieldAt, Try.runUnderlying192, Instr.sureAddr, fieldPlace, Try.sizeOf136]⟩
instance qf200_0 : TyF Try.prog 200 0 0 := ⟨fun a w => by simp [Instr.fieldAt, Try.runUnderlying200, Instr.sureAddr, fieldPlace, Try.sizeOf3]⟩
instance qf200_1 : TyF Try.prog 200 1 1 := ⟨fun a w => by simp [Instr.fieldAt, Try.runUnderlying200, Instr.sureAddr, fieldPlace, Try.sizeOf3]⟩
instance qf200_2 : TyF Try.prog 200 2 2 := ⟨fun a w => by simp [Instr.fieldAt, Try.runUnderlying200, Instr.sureAddr, fieldPlace, Try.sizeOf3]⟩
instance qf208_0 : TyF Try.prog 208 0 0 := ⟨fun a w => by simp [Instr.fieldAt, Try.runUnderlying208, Instr.sureAddr, fieldPlace, Try.sizeOf29]⟩
instance qf208_1 : TyF Try.prog 208 1 1 := ⟨fun a w => by simp [Instr.fieldAt, Try.runUnderlying208, Instr.sureAddr, fieldPlace, Try.sizeOf30]⟩
instance qf227_0 : TyF Try.prog 227 0 0 := ⟨fun a w => by simp [Instr.fieldAt, Try.runUnderlying227, Instr.sureAddr, fieldPlace, Try.sizeOf3]⟩
instance qf227_1 : TyF Try.prog 227 1 1 := ⟨fun a w => by simp [Instr.fieldAt, Try.runUnderlying227, Instr.sureAddr, fieldPlace, Try.sizeOf225]⟩
instance qf230_0 : TyF Try.prog 230 0 0 := ⟨fun a w => by simp [Instr.fieldAt, Try.runUnderlying230, Instr.sureAddr, fieldPlace, Try.sizeOf4]⟩
instance qf230_1 : TyF Try.prog 230 1 1 := ⟨fun a w => by simp [Instr.fieldAt, Try.runUnderlying230, Instr.sureAddr, fieldPlace, Try.sizeOf49]⟩
instance qp49 : TyP Try.prog 49 ((List.range 32).map fun i => (i * 1, 1)) := tyP_array Try.runUnderlying49 Try.sizeOf5
instance qp54 : TyP Try.prog 54 [(0, 1), (1, 1), (2, 1), (3, 1), (4, 1), (5, 1), (6, 32), (38, 1), (39, 1), (40, 1)] := ⟨fun w ps z cells hz hf => by simp [Instr.build, hz, hf, Try.runUnderlying54, Try.sizeOf29, Try.sizeOf3, Try.sizeOf39, Try.sizeOf49, Try.sizeOf51]⟩
instance qp74 : TyP Try.prog 74 [(0, 1), (1, 1), (2, 1), (3, 1), (4, 1), (5, 1)] := ⟨fun w ps z cells hz hf => by simp [Instr.build, hz, hf, Try.runUnderlying74, Try.sizeOf3, Try.sizeOf70, Try.sizeOf71, Try.sizeOf72]⟩
instance qp88 : TyP Try.prog 88 [(0, 1)] := ⟨fun w ps z cells hz hf => by simp [Instr.build, hz, hf, Try.runUnderlying88, Try.sizeOf86]⟩
instance qp94 : TyP Try.prog 94 [(0, 1), (1, 1), (2, 1), (3, 1)] := ⟨fun w ps z cells hz hf => by simp [Instr.build, hz, hf, Try.runUnderlying94, Try.sizeOf39, Try.sizeOf89, Try.sizeOf90, Try.sizeOf92]⟩
instance qp102 : TyP Try.prog 102 [(0, 1), (1, 1), (2, 1)] := ⟨fun w ps z cells hz hf => by simp [Instr.build, hz, hf, Try.runUnderlying102, Try.sizeOf29, Try.sizeOf3]⟩
instance qp108 : TyP Try.prog 108 [(0, 1), (1, 1)] := ⟨fun w ps z cells hz hf => by simp [Instr.build, hz, hf, Try.runUnderlying108, Try.sizeOf3]⟩
instance qp114 : TyP Try.prog 114 [(0, 1), (1, 1), (2, 32)] := ⟨fun w ps z cells hz hf => by simp [Instr.build, hz, hf, Try.runUnderlying114, Try.sizeOf3, Try.sizeOf49]⟩
instance qp124 : TyP Try.prog 124 [(0, 1)] := ⟨fun w ps z cells hz hf => by simp [Instr.build, hz, hf, Try.runUnderlying124, Try.sizeOf122]⟩
instance qp134 : TyP Try.prog 134 [(0, 1), (1, 2), (3, 1), (4, 1), (5, 1), (6, 1), (7, 1), (8, 1), (9, 1)] := ⟨fun w ps z cells hz hf => by simp [Instr.build, hz, hf, Try.runUnderlying134, Try.sizeOf125, Try.sizeOf128, Try.sizeOf129, Try.sizeOf132, Try.sizeOf29, Try.sizeOf3, Try.sizeOf4]⟩
instance qp141 : TyP Try.prog 141 [(0, 1), (1, 1), (2, 32)] := ⟨fun w ps z cells hz hf => by simp [Instr.build, hz, hf, Try.runUnderlying141, Try.sizeOf3, Try.sizeOf4, Try.sizeOf49]⟩
instance qp147 : TyP Try.prog 147 ((List.range 2).map fun i => (i * 32, 32)) := tyP_array Try.runUnderlying147 Try.sizeOf49
instance qp153 : TyP Try.prog 153 [(0, 1), (1, 41)] := ⟨fun w ps z cells hz hf => by simp [Instr.build, hz, hf, Try.runUnderlying153, Try.sizeOf3, Try.sizeOf54]⟩
instance qp166 : TyP Try.prog 166 [(0, 1), (1, 1), (2, 1), (3, 1), (4, 32)] := ⟨fun w ps z cells hz hf => by simp [Instr.build, hz, hf, Try.runUnderlying166, Try.sizeOf3, Try.sizeOf49]⟩
instance qp170 : TyP Try.prog 170 [(0, 1), (1, 1)] := ⟨fun w ps z cells hz hf => by simp [Instr.build, hz, hf, Try.runUnderlying170, Try.sizeOf3, Try.sizeOf51]⟩
instance qp176 : TyP Try.prog 176 [(0, 1), (1, 1)] := ⟨fun w ps z cells hz hf => by simp [Instr.build, hz, hf, Try.runUnderlying176, Try.sizeOf29, Try.sizeOf5]⟩
instance qp192 : TyP Try.prog 192 [(0, 1), (1, 1), (2, 1), (3, 1), (4, 1), (5, 1), (6, 1), (7, 32), (39, 32), (71, 32), (103, 408), (511, 1), (512, 1), (513, 36), (549, 1)] := ⟨fun w ps z cells hz hf => by simp [Instr.build, hz, hf, Try.runUnderlying192, Try.sizeOf136, Try.sizeOf185, Try.sizeOf188, Try.sizeOf190, Try.sizeOf3, Try.sizeOf49, Try.sizeOf51]⟩
instance qp200 : TyP Try.prog 200 [(0, 1), (1, 1), (2, 1)] := ⟨fun w ps z cells hz hf => by simp [Instr.build, hz, hf, Try.runUnderlying200, Try.sizeOf3]⟩
instance qp204 : TyP Try.prog 204 ((List.range 5).map fun i => (i * 1, 1)) := tyP_array Try.runUnderlying204 Try.sizeOf3
instance qp208 : TyP Try.prog 208 [(0, 1), (1, 1)] := ⟨fun w ps z cells hz hf => by simp [Instr.build, hz, hf, Try.runUnderlying208, Try.sizeOf29, Try.sizeOf30]⟩
instance qp210 : TyP Try.prog 210 ((List.range 5).map fun i => (i * 1, 1)) := tyP_array Try.runUnderlying210 Try.sizeOf209
instance qp216 : TyP Try.prog 216 ((List.range 8).map fun i => (i * 1, 1)) := tyP_array Try.runUnderlying216 Try.sizeOf214
instance qp220 : TyP Try.prog 220 ((List.range 64).map fun i => (i * 1, 1)) := tyP_array Try.runUnderlying220 Try.sizeOf5
instance qp227 : TyP Try.prog 227 [(0, 1), (1, 24)] := ⟨fun w ps z cells hz hf => by simp [Instr.build, hz, hf, Try.runUnderlying227, Try.sizeOf225, Try.sizeOf3]⟩
instance qp230 : TyP Try.prog 230 [(0, 1), (1, 32)] := ⟨fun w ps z cells hz hf => by simp [Instr.build, hz, hf, Try.runUnderlying230, Try.sizeOf4, Try.sizeOf49]⟩
instance qp236 : TyP Try.prog 236 ((List.range 64).map fun i => (i * 1, 1)) := tyP_array Try.runUnderlying236 Try.sizeOf214
instance qc3 : FnC Try.prog 3 := ⟨Try.call3⟩
instance qc4 : FnC Try.prog 4 := ⟨Try.call4⟩
instance qc5 : FnC Try.prog 5 := ⟨Try.call5⟩
instance qc6 : FnC Try.prog 6 := ⟨Try.call6⟩
instance qc7 : FnC Try.prog 7 := ⟨Try.call7⟩
instance qc8 : FnC Try.prog 8 := ⟨Try.call8⟩
instance qc9 : FnC Try.prog 9 := ⟨Try.call9⟩
instance qc10 : FnC Try.prog 10 := ⟨Try.call10⟩
instance qc11 : FnC Try.prog 11 := ⟨Try.call11⟩
instance qc12 : FnC Try.prog 12 := ⟨Try.call12⟩
instance qc13 : FnC Try.prog 13 := ⟨Try.call13⟩
instance qc14 : FnC Try.prog 14 := ⟨Try.call14⟩
instance qc15 : FnC Try.prog 15 := ⟨Try.call15⟩
instance qc16 : FnC Try.prog 16 := ⟨Try.call16⟩
instance qc17 : FnC Try.prog 17 := ⟨Try.call17⟩
instance qc18 : FnC Try.prog 18 := ⟨Try.call18⟩
instance qc19 : FnC Try.prog 19 := ⟨Try.call19⟩
instance qc20 : FnC Try.prog 20 := ⟨Try.call20⟩
instance qc21 : FnC Try.prog 21 := ⟨Try.call21⟩
instance qc22 : FnC Try.prog 22 := ⟨Try.call22⟩
instance qc23 : FnC Try.prog 23 := ⟨Try.call23⟩
instance qc24 : FnC Try.prog 24 := ⟨Try.call24⟩
instance qc25 : FnC Try.prog 25 := ⟨Try.call25⟩
instance qc26 : FnC Try.prog 26 := ⟨Try.call26⟩
instance qc27 : FnC Try.prog 27 := ⟨Try.call27⟩
instance qc28 : FnC Try.prog 28 := ⟨Try.call28⟩
instance qc29 : FnC Try.prog 29 := ⟨Try.call29⟩
instance qc30 : FnC Try.prog 30 := ⟨Try.call30⟩
instance qc31 : FnC Try.prog 31 := ⟨Try.call31⟩
instance qc32 : FnC Try.prog 32 := ⟨Try.call32⟩
instance qc33 : FnC Try.prog 33 := ⟨Try.call33⟩
instance qc34 : FnC Try.prog 34 := ⟨Try.call34⟩
instance qc35 : FnC Try.prog 35 := ⟨Try.call35⟩
instance qc36 : FnC Try.prog 36 := ⟨Try.call36⟩
instance qc37 : FnC Try.prog 37 := ⟨Try.call37⟩
instance qc38 : FnC Try.prog 38 := ⟨Try.call38⟩
instance qc39 : FnC Try.prog 39 := ⟨Try.call39⟩
instance qc40 : FnC Try.prog 40 := ⟨Try.call40⟩
instance qc41 : FnC Try.prog 41 := ⟨Try.call41⟩
instance qc42 : FnC Try.prog 42 := ⟨Try.call42⟩
instance qc43 : FnC Try.prog 43 := ⟨Try.call43⟩
instance qc44 : FnC Try.prog 44 := ⟨Try.call44⟩
instance qc45 : FnC Try.prog 45 := ⟨Try.call45⟩
instance qc46 : FnC Try.prog 46 := ⟨Try.call46⟩
instance qc47 : FnC Try.prog 47 := ⟨Try.call47⟩
instance qc48 : FnC Try.prog 48 := ⟨Try.call48⟩
instance qc49 : FnC Try.prog 49 := ⟨Try.call49⟩
instance qc50 : FnC Try.prog 50 := ⟨Try.call50⟩
instance qc51 : FnC Try.prog 51 := ⟨Try.call51⟩
instance qc52 : FnC Try.prog 52 := ⟨Try.call52⟩
instance qc53 : FnC Try.prog 53 := ⟨Try.call53⟩
instance qc54 : FnC Try.prog 54 := ⟨Try.call54⟩
instance qc55 : FnC Try.prog 55 := ⟨Try.call55⟩
instance qc56 : FnC Try.prog 56 := ⟨Try.call56⟩
instance qc57 : FnC Try.prog 57 := ⟨Try.call57⟩
instance qc58 : FnC Try.prog 58 := ⟨Try.call58⟩
instance qc59 : FnC Try.prog 59 := ⟨Try.call59⟩
instance qc60 : FnC Try.prog 60 := ⟨Try.call60⟩
instance qc61 : FnC Try.prog 61 := ⟨Try.call61⟩
instance qc62 : FnC Try.prog 62 := ⟨Try.call62⟩
instance qc63 : FnC Try.prog 63 := ⟨Try.call63⟩
instance qc64 : FnC Try.prog 64 := ⟨Try.call64⟩
instance qc65 : FnC Try.prog 65 := ⟨Try.call65⟩
instance qc66 : FnC Try.prog 66 := ⟨Try.call66⟩
instance qc67 : FnC Try.prog 67 := ⟨Try.call67⟩
instance qc68 : FnC Try.prog 68 := ⟨Try.call68⟩
instance qc69 : FnC Try.prog 69 := ⟨Try.call69⟩
instance qc70 : FnC Try.prog 70 := ⟨Try.call70⟩
instance qc71 : FnC Try.prog 71 := ⟨Try.call71⟩
instance qc72 : FnC Try.prog 72 := ⟨Try.call72⟩
instance qc73 : FnC Try.prog 73 := ⟨Try.call73⟩
instance qc74 : FnC Try.prog 74 := ⟨Try.call74⟩
instance qc75 : FnC Try.prog 75 := ⟨Try.call75⟩
instance qc76 : FnC Try.prog 76 := ⟨Try.call76⟩
instance qc77 : FnC Try.prog 77 := ⟨Try.call77⟩
instance qc78 : FnC Try.prog 78 := ⟨Try.call78⟩
instance qc79 : FnC Try.prog 79 := ⟨Try.call79⟩
instance qc80 : FnC Try.prog 80 := ⟨Try.call80⟩
instance qc81 : FnC Try.prog 81 := ⟨Try.call81⟩
instance qc82 : FnC Try.prog 82 := ⟨Try.call82⟩
instance qc83 : FnC Try.prog 83 := ⟨Try.call83⟩
instance qc84 : FnC Try.prog 84 := ⟨Try.call84⟩
instance qc85 : FnC Try.prog 85 := ⟨Try.call85⟩
instance qc86 : FnC Try.prog 86 := ⟨Try.call86⟩
instance qc87 : FnC Try.prog 87 := ⟨Try.call87⟩
instance qc88 : FnC Try.prog 88 := ⟨Try.call88⟩
instance qc89 : FnC Try.prog 89 := ⟨Try.call89⟩
instance qc90 : FnC Try.prog 90 := ⟨Try.call90⟩
instance qc91 : FnC Try.prog 91 := ⟨Try.call91⟩
instance qc92 : FnC Try.prog 92 := ⟨Try.call92⟩
instance qc93 : FnC Try.prog 93 := ⟨Try.call93⟩
instance qc94 : FnC Try.prog 94 := ⟨Try.call94⟩
instance qc95 : FnC Try.prog 95 := ⟨Try.call95⟩
instance qc96 : FnC Try.prog 96 := ⟨Try.call96⟩
instance qc97 : FnC Try.prog 97 := ⟨Try.call97⟩
instance qc98 : FnC Try.prog 98 := ⟨Try.call98⟩
instance qc99 : FnC Try.prog 99 := ⟨Try.call99⟩
instance qc100 : FnC Try.prog 100 := ⟨Try.call100⟩
instance qc101 : FnC Try.prog 101 := ⟨Try.call101⟩
instance qc102 : FnC Try.prog 102 := ⟨Try.call102⟩
instance qc103 : FnC Try.prog 103 := ⟨Try.call103⟩
instance qc104 : FnC Try.prog 104 := ⟨Try.call104⟩
instance qc105 : FnC Try.prog 105 := ⟨Try.call105⟩
instance qc106 : FnC Try.prog 106 := ⟨Try.call106⟩
instance qc107 : FnC Try.prog 107 := ⟨Try.call107⟩
instance qc108 : FnC Try.prog 108 := ⟨Try.call108⟩
instance qc109 : FnC Try.prog 109 := ⟨Try.call109⟩
instance qc110 : FnC Try.prog 110 := ⟨Try.call110⟩
instance qc111 : FnC Try.prog 111 := ⟨Try.call111⟩
instance qc112 : FnC Try.prog 112 := ⟨Try.call112⟩
instance qc113 : FnC Try.prog 113 := ⟨Try.call113⟩
instance qc114 : FnC Try.prog 114 := ⟨Try.call114⟩
instance qc115 : FnC Try.prog 115 := ⟨Try.call115⟩
instance qc116 : FnC Try.prog 116 := ⟨Try.call116⟩
instance qc117 : FnC Try.prog 117 := ⟨Try.call117⟩
instance qc118 : FnC Try.prog 118 := ⟨Try.call118⟩
instance qc119 : FnC Try.prog 119 := ⟨Try.call119⟩
instance qc120 : FnC Try.prog 120 := ⟨Try.call120⟩
instance qc121 : FnC Try.prog 121 := ⟨Try.call121⟩
instance qc122 : FnC Try.prog 122 := ⟨Try.call122⟩
instance qc123 : FnC Try.prog 123 := ⟨Try.call123⟩
instance qc124 : FnC Try.prog 124 := ⟨Try.call124⟩
abbrev F_scrivenerlaw12_PoolQuota : Nat := 3
theorem fn_scrivenerlaw12_PoolQuota : Try.prog.funcs[F_scrivenerlaw12_PoolQuota]? = some Try.f3 := Try.func3
theorem nt_scrivenerlaw12_PoolQuota : Try.f3.ntmps = 109 := Try.ntmps3
abbrev F_scrivenerlaw12_PoolFair : Nat := 4
theorem fn_scrivenerlaw12_PoolFair : Try.prog.funcs[F_scrivenerlaw12_PoolFair]? = some Try.f4 := Try.func4
theorem nt_scrivenerlaw12_PoolFair : Try.f4.ntmps = 88 := Try.ntmps4
abbrev F_scrivenerlaw16_CoreHears : Nat := 5
theorem fn_scrivenerlaw16_CoreHears : Try.prog.funcs[F_scrivenerlaw16_CoreHears]? = some Try.f5 := Try.func5
theorem nt_scrivenerlaw16_CoreHears : Try.f5.ntmps = 106 := Try.ntmps5
abbrev F_scrivenerlaw16_CoreIgnores : Nat := 6
theorem fn_scrivenerlaw16_CoreIgnores : Try.prog.funcs[F_scrivenerlaw16_CoreIgnores]? = some Try.f6 := Try.func6
theorem nt_scrivenerlaw16_CoreIgnores : Try.f6.ntmps = 95 := Try.ntmps6
abbrev F_scrivenerlaw16_CoreAgree : Nat := 7
theorem fn_scrivenerlaw16_CoreAgree : Try.prog.funcs[F_scrivenerlaw16_CoreAgree]? = some Try.f7 := Try.func7
theorem nt_scrivenerlaw16_CoreAgree : Try.f7.ntmps = 122 := Try.ntmps7
abbrev F_scrivenerlaw16_CoreRecalls : Nat := 8
theorem fn_scrivenerlaw16_CoreRecalls : Try.prog.funcs[F_scrivenerlaw16_CoreRecalls]? = some Try.f8 := Try.func8
theorem nt_scrivenerlaw16_CoreRecalls : Try.f8.ntmps = 161 := Try.ntmps8
abbrev F_scrivenerlaw12_waits : Nat := 9
theorem fn_scrivenerlaw12_waits : Try.prog.funcs[F_scrivenerlaw12_waits]? = some Try.f9 := Try.func9
theorem nt_scrivenerlaw12_waits : Try.f9.ntmps = 39 := Try.ntmps9
abbrev F_pool_New : Nat := 10
theorem fn_pool_New : Try.prog.funcs[F_pool_New]? = some Try.f10 := Try.func10
theorem nt_pool_New : Try.f10.ntmps = 3 := Try.ntmps10
abbrev F_book_New : Nat := 11
theorem fn_book_New : Try.prog.funcs[F_book_New]? = some Try.f11 := Try.func11
theorem nt_book_New : Try.f11.ntmps = 5 := Try.ntmps11
abbrev F_book_Entry : Nat := 12
theorem fn_book_Entry : Try.prog.funcs[F_book_Entry]? = some Try.f12 := Try.func12
theorem nt_book_Entry : Try.f12.ntmps = 32 := Try.ntmps12
abbrev F_pool_Pool_Put : Nat := 13
theorem fn_pool_Pool_Put : Try.prog.funcs[F_pool_Pool_Put]? = some Try.f13 := Try.func13
theorem nt_pool_Pool_Put : Try.f13.ntmps = 55 := Try.ntmps13
abbrev F_book_Book_Apply : Nat := 14
theorem fn_book_Book_Apply : Try.prog.funcs[F_book_Book_Apply]? = some Try.f14 := Try.func14
theorem nt_book_Book_Apply : Try.f14.ntmps = 115 := Try.ntmps14
abbrev F_pool_Pool_Batch : Nat := 15
theorem fn_pool_Pool_Batch : Try.prog.funcs[F_pool_Pool_Batch]? = some Try.f15 := Try.func15
theorem nt_pool_Pool_Batch : Try.f15.ntmps = 13 := Try.ntmps15
abbrev F_pool_Pool_Done : Nat := 16
theorem fn_pool_Pool_Done : Try.prog.funcs[F_pool_Pool_Done]? = some Try.f16 := Try.func16
theorem nt_pool_Pool_Done : Try.f16.ntmps = 30 := Try.ntmps16
abbrev F_pool_Pool_Len : Nat := 17
theorem fn_pool_Pool_Len : Try.prog.funcs[F_pool_Pool_Len]? = some Try.f17 := Try.func17
theorem nt_pool_Pool_Len : Try.f17.ntmps = 8 := Try.ntmps17
abbrev F_book_Book_Size : Nat := 18
theorem fn_book_Book_Size : Try.prog.funcs[F_book_Book_Size]? = some Try.f18 := Try.func18
theorem nt_book_Book_Size : Try.f18.ntmps = 8 := Try.ntmps18
abbrev F_book_Book_At : Nat := 19
theorem fn_book_Book_At : Try.prog.funcs[F_book_Book_At]? = some Try.f19 := Try.func19
theorem nt_book_Book_At : Try.f19.ntmps = 26 := Try.ntmps19
abbrev F_scrivenerlaw16_agrees : Nat := 20
theorem fn_scrivenerlaw16_agrees : Try.prog.funcs[F_scrivenerlaw16_agrees]? = some Try.f20 := Try.func20
theorem nt_scrivenerlaw16_agrees : Try.f20.ntmps = 62 := Try.ntmps20
abbrev F_core_New : Nat := 21
theorem fn_core_New : Try.prog.funcs[F_core_New]? = some Try.f21 := Try.func21
theorem nt_core_New : Try.f21.ntmps = 30 := Try.ntmps21
abbrev F_core_Core_Join : Nat := 22
theorem fn_core_Core_Join : Try.prog.funcs[F_core_Core_Join]? = some Try.f22 := Try.func22
theorem nt_core_Core_Join : Try.f22.ntmps = 11 := Try.ntmps22
abbrev F_core_ID : Nat := 23
theorem fn_core_ID : Try.prog.funcs[F_core_ID]? = some Try.f23 := Try.func23
theorem nt_core_ID : Try.f23.ntmps = 6 := Try.ntmps23
abbrev F_core_Core_Hear : Nat := 24
theorem fn_core_Core_Hear : Try.prog.funcs[F_core_Core_Hear]? = some Try.f24 := Try.func24
theorem nt_core_Core_Hear : Try.f24.ntmps = 160 := Try.ntmps24
abbrev F_core_Core_Done : Nat := 25
theorem fn_core_Core_Done : Try.prog.funcs[F_core_Core_Done]? = some Try.f25 := Try.func25
theorem nt_core_Core_Done : Try.f25.ntmps = 15 := Try.ntmps25
abbrev F_core_Core_State : Nat := 26
theorem fn_core_Core_State : Try.prog.funcs[F_core_Core_State]? = some Try.f26 := Try.func26
theorem nt_core_Core_State : Try.f26.ntmps = 55 := Try.ntmps26
abbrev F_scrivenerref02_Same : Nat := 27
theorem fn_scrivenerref02_Same : Try.prog.funcs[F_scrivenerref02_Same]? = some Try.f27 := Try.func27
theorem nt_scrivenerref02_Same : Try.f27.ntmps = 119 := Try.ntmps27
abbrev F_scrivenerlaw16_open : Nat := 28
theorem fn_scrivenerlaw16_open : Try.prog.funcs[F_scrivenerlaw16_open]? = some Try.f28 := Try.func28
theorem nt_scrivenerlaw16_open : Try.f28.ntmps = 64 := Try.ntmps28
abbrev F_count_Faults : Nat := 29
theorem fn_count_Faults : Try.prog.funcs[F_count_Faults]? = some Try.f29 := Try.func29
theorem nt_count_Faults : Try.f29.ntmps = 15 := Try.ntmps29
abbrev F_scrivenerlaw16_hall_move : Nat := 30
theorem fn_scrivenerlaw16_hall_move : Try.prog.funcs[F_scrivenerlaw16_hall_move]? = some Try.f30 := Try.func30
theorem nt_scrivenerlaw16_hall_move : Try.f30.ntmps = 218 := Try.ntmps30
abbrev F_scrivenerlaw16_light : Nat := 31
theorem fn_scrivenerlaw16_light : Try.prog.funcs[F_scrivenerlaw16_light]? = some Try.f31 := Try.func31
theorem nt_scrivenerlaw16_light : Try.f31.ntmps = 38 := Try.ntmps31
abbrev F_core_Core_Begin : Nat := 32
theorem fn_core_Core_Begin : Try.prog.funcs[F_core_Core_Begin]? = some Try.f32 := Try.func32
theorem nt_core_Core_Begin : Try.f32.ntmps = 23 := Try.ntmps32
abbrev F_core_Core_Tick : Nat := 33
theorem fn_core_Core_Tick : Try.prog.funcs[F_core_Core_Tick]? = some Try.f33 := Try.func33
theorem nt_core_Core_Tick : Try.f33.ntmps = 102 := Try.ntmps33
abbrev F_core_Core_Recall : Nat := 34
theorem fn_core_Core_Recall : Try.prog.funcs[F_core_Core_Recall]? = some Try.f34 := Try.func34
theorem nt_core_Core_Recall : Try.f34.ntmps = 70 := Try.ntmps34
abbrev F_scrivenerlaw16_begins : Nat := 35
theorem fn_scrivenerlaw16_begins : Try.prog.funcs[F_scrivenerlaw16_begins]? = some Try.f35 := Try.func35
theorem nt_scrivenerlaw16_begins : Try.f35.ntmps = 32 := Try.ntmps35
abbrev F_scrivenerlaw16_proposals : Nat := 36
theorem fn_scrivenerlaw16_proposals : Try.prog.funcs[F_scrivenerlaw16_proposals]? = some Try.f36 := Try.func36
theorem nt_scrivenerlaw16_proposals : Try.f36.ntmps = 38 := Try.ntmps36
abbrev F_tree_Of : Nat := 37
theorem fn_tree_Of : Try.prog.funcs[F_tree_Of]? = some Try.f37 := Try.func37
theorem nt_tree_Of : Try.f37.ntmps = 10 := Try.ntmps37
abbrev F_pack_Write : Nat := 38
theorem fn_pack_Write : Try.prog.funcs[F_pack_Write]? = some Try.f38 := Try.func38
theorem nt_pack_Write : Try.f38.ntmps = 29 := Try.ntmps38
abbrev F_book_Check : Nat := 39
theorem fn_book_Check : Try.prog.funcs[F_book_Check]? = some Try.f39 := Try.func39
theorem nt_book_Check : Try.f39.ntmps = 65 := Try.ntmps39
abbrev F_pool_Pool_all : Nat := 40
theorem fn_pool_Pool_all : Try.prog.funcs[F_pool_Pool_all]? = some Try.f40 := Try.func40
theorem nt_pool_Pool_all : Try.f40.ntmps = 6 := Try.ntmps40
abbrev F_slices_Clone_byte : Nat := 41
theorem fn_slices_Clone_byte : Try.prog.funcs[F_slices_Clone_byte]? = some Try.f41 := Try.func41
theorem nt_slices_Clone_byte : Try.f41.ntmps = 8 := Try.ntmps41
abbrev F_book_Split : Nat := 42
theorem fn_book_Split : Try.prog.funcs[F_book_Split]? = some Try.f42 := Try.func42
theorem nt_book_Split : Try.f42.ntmps = 11 := Try.ntmps42
abbrev F_tree_Range_Append : Nat := 43
theorem fn_tree_Range_Append : Try.prog.funcs[F_tree_Range_Append]? = some Try.f43 := Try.func43
theorem nt_tree_Range_Append : Try.f43.ntmps = 74 := Try.ntmps43
abbrev F_tree_Entries : Nat := 44
theorem fn_tree_Entries : Try.prog.funcs[F_tree_Entries]? = some Try.f44 := Try.func44
theorem nt_tree_Entries : Try.f44.ntmps = 19 := Try.ntmps44
abbrev F_tree_Range_Root : Nat := 45
theorem fn_tree_Range_Root : Try.prog.funcs[F_tree_Range_Root]? = some Try.f45 := Try.func45
theorem nt_tree_Range_Root : Try.f45.ntmps = 43 := Try.ntmps45
abbrev F_book_Join : Nat := 46
theorem fn_book_Join : Try.prog.funcs[F_book_Join]? = some Try.f46 := Try.func46
theorem nt_book_Join : Try.f46.ntmps = 12 := Try.ntmps46
abbrev F_slices_Collect_byte : Nat := 47
theorem fn_slices_Collect_byte : Try.prog.funcs[F_slices_Collect_byte]? = some Try.f47 := Try.func47
theorem nt_slices_Collect_byte : Try.f47.ntmps = 5 := Try.ntmps47
abbrev F_pool_Pool_First : Nat := 48
theorem fn_pool_Pool_First : Try.prog.funcs[F_pool_Pool_First]? = some Try.f48 := Try.func48
theorem nt_pool_Pool_First : Try.f48.ntmps = 6 := Try.ntmps48
abbrev F_slices_DeleteFunc_waiting : Nat := 49
theorem fn_slices_DeleteFunc_waiting : Try.prog.funcs[F_slices_DeleteFunc_waiting]? = some Try.f49 := Try.func49
theorem nt_slices_DeleteFunc_waiting : Try.f49.ntmps = 42 := Try.ntmps49
abbrev F_book_Book_Find : Nat := 50
theorem fn_book_Book_Find : Try.prog.funcs[F_book_Book_Find]? = some Try.f50 := Try.func50
theorem nt_book_Book_Find : Try.f50.ntmps = 24 := Try.ntmps50
abbrev F_pool_there_has : Nat := 51
theorem fn_pool_there_has : Try.prog.funcs[F_pool_there_has]? = some Try.f51 := Try.func51
theorem nt_pool_there_has : Try.f51.ntmps = 19 := Try.ntmps51
abbrev F_round_New : Nat := 52
theorem fn_round_New : Try.prog.funcs[F_round_New]? = some Try.f52 := Try.func52
theorem nt_round_New : Try.f52.ntmps = 37 := Try.ntmps52
abbrev F_core_Core_act : Nat := 53
theorem fn_core_Core_act : Try.prog.funcs[F_core_Core_act]? = some Try.f53 := Try.func53
theorem nt_core_Core_act : Try.f53.ntmps = 80 := Try.ntmps53
abbrev F_round_Round_Begin : Nat := 54
theorem fn_round_Round_Begin : Try.prog.funcs[F_round_Round_Begin]? = some Try.f54 := Try.func54
theorem nt_round_Round_Begin : Try.f54.ntmps = 23 := Try.ntmps54
abbrev F_sum_For : Nat := 55
theorem fn_sum_For : Try.prog.funcs[F_sum_For]? = some Try.f55 := Try.func55
theorem nt_sum_For : Try.f55.ntmps = 40 := Try.ntmps55
abbrev F_round_Proposer : Nat := 56
theorem fn_round_Proposer : Try.prog.funcs[F_round_Proposer]? = some Try.f56 := Try.func56
theorem nt_round_Proposer : Try.f56.ntmps = 38 := Try.ntmps56
abbrev F_round_Round_Offer : Nat := 57
theorem fn_round_Round_Offer : Try.prog.funcs[F_round_Round_Offer]? = some Try.f57 := Try.func57
theorem nt_round_Round_Offer : Try.f57.ntmps = 18 := Try.ntmps57
abbrev F_core_Core_learn : Nat := 58
theorem fn_core_Core_learn : Try.prog.funcs[F_core_Core_learn]? = some Try.f58 := Try.func58
theorem nt_core_Core_learn : Try.f58.ntmps = 13 := Try.ntmps58
abbrev F_round_Round_Offered : Nat := 59
theorem fn_round_Round_Offered : Try.prog.funcs[F_round_Round_Offered]? = some Try.f59 := Try.func59
theorem nt_round_Round_Offered : Try.f59.ntmps = 54 := Try.ntmps59
abbrev F_round_Round_Vote : Nat := 60
theorem fn_round_Round_Vote : Try.prog.funcs[F_round_Round_Vote]? = some Try.f60 := Try.func60
theorem nt_round_Round_Vote : Try.f60.ntmps = 17 := Try.ntmps60
abbrev F_round_Round_Voted : Nat := 61
theorem fn_round_Round_Voted : Try.prog.funcs[F_round_Round_Voted]? = some Try.f61 := Try.func61
theorem nt_round_Round_Voted : Try.f61.ntmps = 28 := Try.ntmps61
abbrev F_round_Round_Own : Nat := 62
theorem fn_round_Round_Own : Try.prog.funcs[F_round_Round_Own]? = some Try.f62 := Try.func62
theorem nt_round_Round_Own : Try.f62.ntmps = 26 := Try.ntmps62
abbrev F_scrivenerlaw16_hall_send : Nat := 63
theorem fn_scrivenerlaw16_hall_send : Try.prog.funcs[F_scrivenerlaw16_hall_send]? = some Try.f63 := Try.func63
theorem nt_scrivenerlaw16_hall_send : Try.f63.ntmps = 72 := Try.ntmps63
abbrev F_scrivenerlaw16_batch : Nat := 64
theorem fn_scrivenerlaw16_batch : Try.prog.funcs[F_scrivenerlaw16_batch]? = some Try.f64 := Try.func64
theorem nt_scrivenerlaw16_batch : Try.f64.ntmps = 7 := Try.ntmps64
abbrev F_timer_Timer_Tick : Nat := 65
theorem fn_timer_Timer_Tick : Try.prog.funcs[F_timer_Timer_Tick]? = some Try.f65 := Try.func65
theorem nt_timer_Timer_Tick : Try.f65.ntmps = 21 := Try.ntmps65
abbrev F_round_Round_Timeout : Nat := 66
theorem fn_round_Round_Timeout : Try.prog.funcs[F_round_Round_Timeout]? = some Try.f66 := Try.func66
theorem nt_round_Round_Timeout : Try.f66.ntmps = 55 := Try.ntmps66
abbrev F_round_Round_Where : Nat := 67
theorem fn_round_Round_Where : Try.prog.funcs[F_round_Round_Where]? = some Try.f67 := Try.func67
theorem nt_round_Round_Where : Try.f67.ntmps = 12 := Try.ntmps67
abbrev F_core_Core_offer : Nat := 68
theorem fn_core_Core_offer : Try.prog.funcs[F_core_Core_offer]? = some Try.f68 := Try.func68
theorem nt_core_Core_offer : Try.f68.ntmps = 57 := Try.ntmps68
abbrev F_round_Round_Best : Nat := 69
theorem fn_round_Round_Best : Try.prog.funcs[F_round_Round_Best]? = some Try.f69 := Try.func69
theorem nt_round_Round_Best : Try.f69.ntmps = 12 := Try.ntmps69
abbrev F_round_Round_Remember : Nat := 70
theorem fn_round_Round_Remember : Try.prog.funcs[F_round_Round_Remember]? = some Try.f70 := Try.func70
theorem nt_round_Round_Remember : Try.f70.ntmps = 31 := Try.ntmps70
abbrev F_core_Core_have : Nat := 71
theorem fn_core_Core_have : Try.prog.funcs[F_core_Core_have]? = some Try.f71 := Try.func71
theorem nt_core_Core_have : Try.f71.ntmps = 30 := Try.ntmps71
abbrev F_round_Round_Recall : Nat := 72
theorem fn_round_Round_Recall : Try.prog.funcs[F_round_Round_Recall]? = some Try.f72 := Try.func72
theorem nt_round_Round_Recall : Try.f72.ntmps = 123 := Try.ntmps72
abbrev F_pack_check : Nat := 73
theorem fn_pack_check : Try.prog.funcs[F_pack_check]? = some Try.f73 := Try.func73
theorem nt_pack_check : Try.f73.ntmps = 73 := Try.ntmps73
abbrev F_pack_fields : Nat := 74
theorem fn_pack_fields : Try.prog.funcs[F_pack_fields]? = some Try.f74 := Try.func74
theorem nt_pack_fields : Try.f74.ntmps = 4 := Try.ntmps74
abbrev F_pack_run : Nat := 75
theorem fn_pack_run : Try.prog.funcs[F_pack_run]? = some Try.f75 := Try.func75
theorem nt_pack_run : Try.f75.ntmps = 17 := Try.ntmps75
abbrev F_pack_Read : Nat := 76
theorem fn_pack_Read : Try.prog.funcs[F_pack_Read]? = some Try.f76 := Try.func76
theorem nt_pack_Read : Try.f76.ntmps = 173 := Try.ntmps76
abbrev F_pool_Pool_all_1 : Nat := 77
theorem fn_pool_Pool_all_1 : Try.prog.funcs[F_pool_Pool_all_1]? = some Try.f77 := Try.func77
theorem nt_pool_Pool_all_1 : Try.f77.ntmps = 26 := Try.ntmps77
abbrev F_book_Split_1 : Nat := 78
theorem fn_book_Split_1 : Try.prog.funcs[F_book_Split_1]? = some Try.f78 := Try.func78
theorem nt_book_Split_1 : Try.f78.ntmps = 33 := Try.ntmps78
abbrev F_sum_Node : Nat := 79
theorem fn_sum_Node : Try.prog.funcs[F_sum_Node]? = some Try.f79 := Try.func79
theorem nt_sum_Node : Try.f79.ntmps = 10 := Try.ntmps79
abbrev F_sum_Leaf : Nat := 80
theorem fn_sum_Leaf : Try.prog.funcs[F_sum_Leaf]? = some Try.f80 := Try.func80
theorem nt_sum_Leaf : Try.f80.ntmps = 7 := Try.ntmps80
abbrev F_sum_Of : Nat := 81
theorem fn_sum_Of : Try.prog.funcs[F_sum_Of]? = some Try.f81 := Try.func81
theorem nt_sum_Of : Try.f81.ntmps = 29 := Try.ntmps81
abbrev F_slices_AppendSeq_byte : Nat := 82
theorem fn_slices_AppendSeq_byte : Try.prog.funcs[F_slices_AppendSeq_byte]? = some Try.f82 := Try.func82
theorem nt_slices_AppendSeq_byte : Try.f82.ntmps = 13 := Try.ntmps82
abbrev F_pool_Pool_First_1 : Nat := 83
theorem fn_pool_Pool_First_1 : Try.prog.funcs[F_pool_Pool_First_1]? = some Try.f83 := Try.func83
theorem nt_pool_Pool_First_1 : Try.f83.ntmps = 28 := Try.ntmps83
abbrev F_slices_IndexFunc_waiting : Nat := 84
theorem fn_slices_IndexFunc_waiting : Try.prog.funcs[F_slices_IndexFunc_waiting]? = some Try.f84 := Try.func84
theorem nt_slices_IndexFunc_waiting : Try.f84.ntmps = 19 := Try.ntmps84
abbrev F_count_New : Nat := 85
theorem fn_count_New : Try.prog.funcs[F_count_New]? = some Try.f85 := Try.func85
theorem nt_count_New : Try.f85.ntmps = 31 := Try.ntmps85
abbrev F_timer_Timer_Set : Nat := 86
theorem fn_timer_Timer_Set : Try.prog.funcs[F_timer_Timer_Set]? = some Try.f86 := Try.func86
theorem nt_timer_Timer_Set : Try.f86.ntmps = 32 := Try.ntmps86
abbrev F_timer_Timer_Clear : Nat := 87
theorem fn_timer_Timer_Clear : Try.prog.funcs[F_timer_Timer_Clear]? = some Try.f87 := Try.func87
theorem nt_timer_Timer_Clear : Try.f87.ntmps = 5 := Try.ntmps87
abbrev F_round_Round_settle : Nat := 88
theorem fn_round_Round_settle : Try.prog.funcs[F_round_Round_settle]? = some Try.f88 := Try.func88
theorem nt_round_Round_settle : Try.f88.ntmps = 21 := Try.ntmps88
abbrev F_round_Round_begin : Nat := 89
theorem fn_round_Round_begin : Try.prog.funcs[F_round_Round_begin]? = some Try.f89 := Try.func89
theorem nt_round_Round_begin : Try.f89.ntmps = 92 := Try.ntmps89
abbrev F_round_Round_Know : Nat := 90
theorem fn_round_Round_Know : Try.prog.funcs[F_round_Round_Know]? = some Try.f90 := Try.func90
theorem nt_round_Round_Know : Try.f90.ntmps = 10 := Try.ntmps90
abbrev F_count_Nil : Nat := 91
theorem fn_count_Nil : Try.prog.funcs[F_count_Nil]? = some Try.f91 := Try.func91
theorem nt_count_Nil : Try.f91.ntmps = 2 := Try.ntmps91
abbrev F_count_Count_Get : Nat := 92
theorem fn_count_Count_Get : Try.prog.funcs[F_count_Count_Get]? = some Try.f92 := Try.func92
theorem nt_count_Count_Get : Try.f92.ntmps = 28 := Try.ntmps92
abbrev F_count_Count_Put : Nat := 93
theorem fn_count_Count_Put : Try.prog.funcs[F_count_Count_Put]? = some Try.f93 := Try.func93
theorem nt_count_Count_Put : Try.f93.ntmps = 48 := Try.ntmps93
abbrev F_slices_DeleteFunc_due : Nat := 94
theorem fn_slices_DeleteFunc_due : Try.prog.funcs[F_slices_DeleteFunc_due]? = some Try.f94 := Try.func94
theorem nt_slices_DeleteFunc_due : Try.f94.ntmps = 42 := Try.ntmps94
abbrev F_timer_Timer_Tick_1 : Nat := 95
theorem fn_timer_Timer_Tick_1 : Try.prog.funcs[F_timer_Timer_Tick_1]? = some Try.f95 := Try.func95
theorem nt_timer_Timer_Tick_1 : Try.f95.ntmps = 23 := Try.ntmps95
abbrev F_timer_Timer_Tick_2 : Nat := 96
theorem fn_timer_Timer_Tick_2 : Try.prog.funcs[F_timer_Timer_Tick_2]? = some Try.f96 := Try.func96
theorem nt_timer_Timer_Tick_2 : Try.f96.ntmps = 19 := Try.ntmps96
abbrev F_round_Round_vote : Nat := 97
theorem fn_round_Round_vote : Try.prog.funcs[F_round_Round_vote]? = some Try.f97 := Try.func97
theorem nt_round_Round_vote : Try.f97.ntmps = 36 := Try.ntmps97
abbrev F_round_Round_has : Nat := 98
theorem fn_round_Round_has : Try.prog.funcs[F_round_Round_has]? = some Try.f98 := Try.func98
theorem nt_round_Round_has : Try.f98.ntmps = 20 := Try.ntmps98
abbrev F_pack_fields_1 : Nat := 99
theorem fn_pack_fields_1 : Try.prog.funcs[F_pack_fields_1]? = some Try.f99 := Try.func99
theorem nt_pack_fields_1 : Try.f99.ntmps = 104 := Try.ntmps99
abbrev F_pack_number : Nat := 100
theorem fn_pack_number : Try.prog.funcs[F_pack_number]? = some Try.f100 := Try.func100
theorem nt_pack_number : Try.f100.ntmps = 14 := Try.ntmps100
abbrev F_pack_reader_all : Nat := 101
theorem fn_pack_reader_all : Try.prog.funcs[F_pack_reader_all]? = some Try.f101 := Try.func101
theorem nt_pack_reader_all : Try.f101.ntmps = 4 := Try.ntmps101
abbrev F_pack_reader_number : Nat := 102
theorem fn_pack_reader_number : Try.prog.funcs[F_pack_reader_number]? = some Try.f102 := Try.func102
theorem nt_pack_reader_number : Try.f102.ntmps = 51 := Try.ntmps102
abbrev F_pack_reader_run : Nat := 103
theorem fn_pack_reader_run : Try.prog.funcs[F_pack_reader_run]? = some Try.f103 := Try.func103
theorem nt_pack_reader_run : Try.f103.ntmps = 80 := Try.ntmps103
abbrev F_sum_Blocks : Nat := 104
theorem fn_sum_Blocks : Try.prog.funcs[F_sum_Blocks]? = some Try.f104 := Try.func104
theorem nt_sum_Blocks : Try.f104.ntmps = 4 := Try.ntmps104
abbrev F_sum_state_take : Nat := 105
theorem fn_sum_state_take : Try.prog.funcs[F_sum_state_take]? = some Try.f105 := Try.func105
theorem nt_sum_state_take : Try.f105.ntmps = 198 := Try.ntmps105
abbrev F_timer_Delay : Nat := 106
theorem fn_timer_Delay : Try.prog.funcs[F_timer_Delay]? = some Try.f106 := Try.func106
theorem nt_timer_Delay : Try.f106.ntmps = 8 := Try.ntmps106
abbrev F_round_Round_rule : Nat := 107
theorem fn_round_Round_rule : Try.prog.funcs[F_round_Round_rule]? = some Try.f107 := Try.func107
theorem nt_round_Round_rule : Try.f107.ntmps = 182 := Try.ntmps107
abbrev F_round_Round_timer : Nat := 108
theorem fn_round_Round_timer : Try.prog.funcs[F_round_Round_timer]? = some Try.f108 := Try.func108
theorem nt_round_Round_timer : Try.f108.ntmps = 34 := Try.ntmps108
abbrev F_round_Round_do : Nat := 109
theorem fn_round_Round_do : Try.prog.funcs[F_round_Round_do]? = some Try.f109 := Try.func109
theorem nt_round_Round_do : Try.f109.ntmps = 14 := Try.ntmps109
abbrev F_count_Count_right : Nat := 110
theorem fn_count_Count_right : Try.prog.funcs[F_count_Count_right]? = some Try.f110 := Try.func110
theorem nt_count_Count_right : Try.f110.ntmps = 35 := Try.ntmps110
abbrev F_slices_IndexFunc_due : Nat := 111
theorem fn_slices_IndexFunc_due : Try.prog.funcs[F_slices_IndexFunc_due]? = some Try.f111 := Try.func111
theorem nt_slices_IndexFunc_due : Try.f111.ntmps = 19 := Try.ntmps111
abbrev F_pack_reader_all_1 : Nat := 112
theorem fn_pack_reader_all_1 : Try.prog.funcs[F_pack_reader_all_1]? = some Try.f112 := Try.func112
theorem nt_pack_reader_all_1 : Try.f112.ntmps = 58 := Try.ntmps112
abbrev F_sum_Blocks_1 : Nat := 113
theorem fn_sum_Blocks_1 : Try.prog.funcs[F_sum_Blocks_1]? = some Try.f113 := Try.func113
theorem nt_sum_Blocks_1 : Try.f113.ntmps = 74 := Try.ntmps113
abbrev F_math_bits_RotateLeft32 : Nat := 114
theorem fn_math_bits_RotateLeft32 : Try.prog.funcs[F_math_bits_RotateLeft32]? = some Try.f114 := Try.func114
theorem nt_math_bits_RotateLeft32 : Try.f114.ntmps = 17 := Try.ntmps114
abbrev F_round_Round_sure : Nat := 115
theorem fn_round_Round_sure : Try.prog.funcs[F_round_Round_sure]? = some Try.f115 := Try.func115
theorem nt_round_Round_sure : Try.f115.ntmps = 27 := Try.ntmps115
abbrev F_count_Count_Ahead : Nat := 116
theorem fn_count_Count_Ahead : Try.prog.funcs[F_count_Count_Ahead]? = some Try.f116 := Try.func116
theorem nt_count_Count_Ahead : Try.f116.ntmps = 72 := Try.ntmps116
abbrev F_round_Round_rest : Nat := 117
theorem fn_round_Round_rest : Try.prog.funcs[F_round_Round_rest]? = some Try.f117 := Try.func117
theorem nt_round_Round_rest : Try.f117.ntmps = 140 := Try.ntmps117
abbrev F_count_Count_Sure : Nat := 118
theorem fn_count_Count_Sure : Try.prog.funcs[F_count_Count_Sure]? = some Try.f118 := Try.func118
theorem nt_count_Count_Sure : Try.f118.ntmps = 29 := Try.ntmps118
abbrev F_count_Count_For : Nat := 119
theorem fn_count_Count_For : Try.prog.funcs[F_count_Count_For]? = some Try.f119 := Try.func119
theorem nt_count_Count_For : Try.f119.ntmps = 15 := Try.ntmps119
abbrev F_count_Need : Nat := 120
theorem fn_count_Need : Try.prog.funcs[F_count_Need]? = some Try.f120 := Try.func120
theorem nt_count_Need : Try.f120.ntmps = 7 := Try.ntmps120
abbrev F_count_Count_All : Nat := 121
theorem fn_count_Count_All : Try.prog.funcs[F_count_Count_All]? = some Try.f121 := Try.func121
theorem nt_count_Count_All : Try.f121.ntmps = 17 := Try.ntmps121
abbrev F_count_Count_cast : Nat := 122
theorem fn_count_Count_cast : Try.prog.funcs[F_count_Count_cast]? = some Try.f122 := Try.func122
theorem nt_count_Count_cast : Try.f122.ntmps = 8 := Try.ntmps122
abbrev F_count_among_ID : Nat := 123
theorem fn_count_among_ID : Try.prog.funcs[F_count_among_ID]? = some Try.f123 := Try.func123
theorem nt_count_among_ID : Try.f123.ntmps = 17 := Try.ntmps123
abbrev F_count_Count_cast_1 : Nat := 124
theorem fn_count_Count_cast_1 : Try.prog.funcs[F_count_Count_cast_1]? = some Try.f124 := Try.func124
theorem nt_count_Count_cast_1 : Try.f124.ntmps = 37 := Try.ntmps124
end Go.Proofs.Ytokekdbdnonebaa
