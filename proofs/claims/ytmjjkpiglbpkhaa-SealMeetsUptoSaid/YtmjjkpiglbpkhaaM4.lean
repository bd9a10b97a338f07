/- T1, P5, P6, P8, P9, P10, G1, K1, E21, E22, B23, E23, E24, E25, E26, E27, E28, P11, P12, P13, P15, P16, P17, E29, E30, P14, S1, S2, S3, K2. -/
import Derived.Test.YtmjjkpiglbpkhaaM3
import Derived.Test.YtmjjkpiglbpkhaaChecked
import Derived.Test.YtmjjkpiglbpkhaaM1
import Derived.RangeFuncRecord
import Derived.RangeFuncSeq
import Derived.Lib.Bytealg
import Derived.Laws.Externs
set_option linter.unusedVariables false
set_option maxRecDepth 100000
set_option maxHeartbeats 2000000
namespace Go.Proofs.Ytmjjkpiglbpkhaa
open Go Go.RowKit Go.Inc
theorem tt2:TyOk Try.prog 2 (Ty.kd (.int .i64)) 8:=⟨⟨Try.t2,_,Try.type2,rfl,rfl,rfl,rfl,rfl⟩,⟨_,Try.underlying2,rfl⟩⟩
theorem tt3:TyOk Try.prog 3 (Ty.kd (.int .i64)) 8:=⟨⟨Try.t3,_,Try.type3,rfl,rfl,rfl,rfl,rfl⟩,⟨_,Try.underlying3,rfl⟩⟩
theorem tt4:TyOk Try.prog 4 (Ty.kd (.bool)) 1:=⟨⟨Try.t4,_,Try.type4,rfl,rfl,rfl,rfl,rfl⟩,⟨_,Try.underlying4,rfl⟩⟩
theorem tt5:TyOk Try.prog 5 (Ty.kd (.int .u8)) 1:=⟨⟨Try.t5,_,Try.type5,rfl,rfl,rfl,rfl,rfl⟩,⟨_,Try.underlying5,rfl⟩⟩
theorem tt5b:TyOk Try.prog 5 (Ty.kd (.byte)) 1:=⟨⟨Try.t5,_,Try.type5,rfl,rfl,rfl,rfl,rfl⟩,⟨_,Try.underlying5,rfl⟩⟩
theorem tt9:TyOk Try.prog 9 (Ty.kd (.str)) 16:=⟨⟨Try.t9,_,Try.type9,rfl,rfl,rfl,rfl,rfl⟩,⟨_,Try.underlying9,rfl⟩⟩
theorem tt12:TyOk Try.prog 12 (Ty.kd (.int .u64)) 8:=⟨⟨Try.t12,_,Try.type12,rfl,rfl,rfl,rfl,rfl⟩,⟨_,Try.underlying12,rfl⟩⟩
theorem tt13:TyOk Try.prog 13 (Ty.kd (.pr .str (.int .u64))) 24:=⟨⟨Try.t13,_,Try.type13,rfl,rfl,rfl,rfl,rfl⟩,⟨_,Try.underlying13,rfl⟩⟩
theorem tt21:TyOk Try.prog 21 (Ty.kd (.int .i32)) 4:=⟨⟨Try.t21,_,Try.type21,rfl,rfl,rfl,rfl,rfl⟩,⟨_,Try.underlying21,rfl⟩⟩
theorem tt22:TyOk Try.prog 22 (Ty.kd (.sl .str)) 24:=⟨⟨Try.t22,_,Try.type22,rfl,rfl,rfl,rfl,rfl⟩,⟨_,Try.underlying22,rfl⟩⟩
theorem tt23:TyOk Try.prog 23 (Ty.kd (.int .u64)) 8:=⟨⟨Try.t23,_,Try.type23,rfl,rfl,rfl,rfl,rfl⟩,⟨_,Try.underlying23,rfl⟩⟩
theorem tt24:TyOk Try.prog 24 (Ty.kd (.arr 32 .byte)) 32:=⟨⟨Try.t24,_,Try.type24,rfl,rfl,rfl,rfl,rfl⟩,⟨_,Try.underlying24,rfl⟩⟩
theorem tt25:TyOk Try.prog 25 (Ty.kd (.pr (.int .u64) (.pr (.arr 32 .byte) (.pr (.arr 32 .byte) (.pr (.arr 32 .byte) (.pr (.arr 32 .byte) (.arr 32 .byte))))))) 168:=⟨⟨Try.t25,_,Try.type25,rfl,rfl,rfl,rfl,rfl⟩,⟨_,Try.underlying25,rfl⟩⟩
theorem tt26:TyOk Try.prog 26 (Ty.kd (.pr (.int .u64) (.pr (.arr 32 .byte) (.pr (.arr 32 .byte) (.pr (.arr 32 .byte) (.pr (.arr 32 .byte) (.arr 32 .byte))))))) 168:=⟨⟨Try.t26,_,Try.type26,rfl,rfl,rfl,rfl,rfl⟩,⟨_,Try.underlying26,rfl⟩⟩
theorem tt27:TyOk Try.prog 27 (Ty.kd (.pr (.arr 32 .byte) (.pr (.arr 32 .byte) (.arr 32 .byte)))) 96:=⟨⟨Try.t27,_,Try.type27,rfl,rfl,rfl,rfl,rfl⟩,⟨_,Try.underlying27,rfl⟩⟩
theorem tt28:TyOk Try.prog 28 (Ty.kd (.pr (.arr 32 .byte) (.pr (.arr 32 .byte) (.arr 32 .byte)))) 96:=⟨⟨Try.t28,_,Try.type28,rfl,rfl,rfl,rfl,rfl⟩,⟨_,Try.underlying28,rfl⟩⟩
theorem tt32:TyOk Try.prog 32 (Ty.kd (.sl .byte)) 24:=⟨⟨Try.t32,_,Try.type32,rfl,rfl,rfl,rfl,rfl⟩,⟨_,Try.underlying32,rfl⟩⟩
theorem tt35:TyOk Try.prog 35 (Ty.kd (.hpt)) 8:=⟨⟨Try.t35,_,Try.type35,rfl,rfl,rfl,rfl,rfl⟩,⟨_,Try.underlying35,rfl⟩⟩
theorem qrq:TyOk Try.prog 35 (Ty.kd (.ptr (.pr (.pr (.sl (.pr (.arr 32 .byte) (.sl .byte))) .anm) (.int .i64)))) 8:=⟨⟨Try.t35,_,Try.type35,rfl,rfl,rfl,rfl,rfl⟩,⟨_,Try.underlying35,rfl⟩⟩
theorem tt36:TyOk Try.prog 36 (Ty.kd (.sl (.pr (.arr 32 .byte) (.sl .byte)))) 24:=⟨⟨Try.t36,_,Try.type36,rfl,rfl,rfl,rfl,rfl⟩,⟨_,Try.underlying36,rfl⟩⟩
theorem tt38:TyOk Try.prog 38 (Ty.kd (.pr (.sl (.pr (.arr 32 .byte) (.sl .byte))) (.hmp (.arr 32 .byte) (.int .i64)))) 32:=⟨⟨Try.t38,_,Try.type38,rfl,rfl,rfl,rfl,rfl⟩,⟨_,Try.underlying38,rfl⟩⟩
theorem qrr:TyOk Try.prog 38 (Ty.kd (.pr (.sl (.pr (.arr 32 .byte) (.sl .byte))) .anm)) 32:=⟨⟨Try.t38,_,Try.type38,rfl,rfl,rfl,rfl,rfl⟩,⟨_,Try.underlying38,rfl⟩⟩
theorem tt39:TyOk Try.prog 39 (Ty.kd (.pr (.hsl 146 (.pr (.arr 32 .byte) (.sl .byte))) (.hmp (.arr 32 .byte) (.int .i64)))) 32:=⟨⟨Try.t39,_,Try.type39,rfl,rfl,rfl,rfl,rfl⟩,⟨_,Try.underlying39,rfl⟩⟩
theorem qrs:TyOk Try.prog 39 (Ty.kd (.pr (.sl (.pr (.arr 32 .byte) (.sl .byte))) .anm)) 32:=⟨⟨Try.t39,_,Try.type39,rfl,rfl,rfl,rfl,rfl⟩,⟨_,Try.underlying39,rfl⟩⟩
theorem tt40:TyOk Try.prog 40 (Ty.kd (.pr (.pr (.hsl 146 (.pr (.arr 32 .byte) (.sl .byte))) (.hmp (.arr 32 .byte) (.int .i64))) (.int .i64))) 40:=⟨⟨Try.t40,_,Try.type40,rfl,rfl,rfl,rfl,rfl⟩,⟨_,Try.underlying40,rfl⟩⟩
theorem qrt:TyOk Try.prog 40 (Ty.kd (.pr (.pr (.sl (.pr (.arr 32 .byte) (.sl .byte))) .anm) (.int .i64))) 40:=⟨⟨Try.t40,_,Try.type40,rfl,rfl,rfl,rfl,rfl⟩,⟨_,Try.underlying40,rfl⟩⟩
theorem tt41:TyOk Try.prog 41 (Ty.kd (.pr (.pr (.hsl 146 (.pr (.arr 32 .byte) (.sl .byte))) (.hmp (.arr 32 .byte) (.int .i64))) (.int .i64))) 40:=⟨⟨Try.t41,_,Try.type41,rfl,rfl,rfl,rfl,rfl⟩,⟨_,Try.underlying41,rfl⟩⟩
theorem qru:TyOk Try.prog 41 (Ty.kd (.pr (.pr (.sl (.pr (.arr 32 .byte) (.sl .byte))) .anm) (.int .i64))) 40:=⟨⟨Try.t41,_,Try.type41,rfl,rfl,rfl,rfl,rfl⟩,⟨_,Try.underlying41,rfl⟩⟩
theorem tt46:TyOk Try.prog 46 (Ty.kd (.hpt)) 8:=⟨⟨Try.t46,_,Try.type46,rfl,rfl,rfl,rfl,rfl⟩,⟨_,Try.underlying46,rfl⟩⟩
theorem qrv:TyOk Try.prog 46 (Ty.kd (.ptr (.st (.pr (.sl .byte) .bool)))) 8:=⟨⟨Try.t46,_,Try.type46,rfl,rfl,rfl,rfl,rfl⟩,⟨_,Try.underlying46,rfl⟩⟩
theorem tt49:TyOk Try.prog 49 (Ty.kd (.int .i64)) 8:=⟨⟨Try.t49,_,Try.type49,rfl,rfl,rfl,rfl,rfl⟩,⟨_,Try.underlying49,rfl⟩⟩
theorem tt53:TyOk Try.prog 53 (Ty.kd (.sl (.pr (.sl .byte) (.sl .byte)))) 24:=⟨⟨Try.t53,_,Try.type53,rfl,rfl,rfl,rfl,rfl⟩,⟨_,Try.underlying53,rfl⟩⟩
theorem tt56:TyOk Try.prog 56 (Ty.kd (.pr (.sl .byte) (.sl .byte))) 48:=⟨⟨Try.t56,_,Try.type56,rfl,rfl,rfl,rfl,rfl⟩,⟨_,Try.underlying56,rfl⟩⟩
theorem tt57:TyOk Try.prog 57 (Ty.kd (.pr (.sl .byte) (.sl .byte))) 48:=⟨⟨Try.t57,_,Try.type57,rfl,rfl,rfl,rfl,rfl⟩,⟨_,Try.underlying57,rfl⟩⟩
theorem tt61:TyOk Try.prog 61 (Ty.kd (.sl (.pr (.int .i64) (.pr (.pr (.sl .byte) (.sl .byte)) (.sl (.arr 32 .byte)))))) 24:=⟨⟨Try.t61,_,Try.type61,rfl,rfl,rfl,rfl,rfl⟩,⟨_,Try.underlying61,rfl⟩⟩
theorem tt62:TyOk Try.prog 62 (Ty.kd (.pr (.int .i64) (.sl (.pr (.int .i64) (.pr (.pr (.sl .byte) (.sl .byte)) (.sl (.arr 32 .byte))))))) 32:=⟨⟨Try.t62,_,Try.type62,rfl,rfl,rfl,rfl,rfl⟩,⟨_,Try.underlying62,rfl⟩⟩
theorem tt63:TyOk Try.prog 63 (Ty.kd (.pr (.int .i64) (.sl (.pr (.int .i64) (.pr (.pr (.sl .byte) (.sl .byte)) (.sl (.arr 32 .byte))))))) 32:=⟨⟨Try.t63,_,Try.type63,rfl,rfl,rfl,rfl,rfl⟩,⟨_,Try.underlying63,rfl⟩⟩
theorem tt80:TyOk Try.prog 80 (Ty.kd (.sl (.arr 32 .byte))) 24:=⟨⟨Try.t80,_,Try.type80,rfl,rfl,rfl,rfl,rfl⟩,⟨_,Try.underlying80,rfl⟩⟩
theorem tt81:TyOk Try.prog 81 (Ty.kd (.pr (.int .i64) (.pr (.pr (.sl .byte) (.sl .byte)) (.sl (.arr 32 .byte))))) 80:=⟨⟨Try.t81,_,Try.type81,rfl,rfl,rfl,rfl,rfl⟩,⟨_,Try.underlying81,rfl⟩⟩
theorem tt82:TyOk Try.prog 82 (Ty.kd (.pr (.int .i64) (.pr (.pr (.sl .byte) (.sl .byte)) (.sl (.arr 32 .byte))))) 80:=⟨⟨Try.t82,_,Try.type82,rfl,rfl,rfl,rfl,rfl⟩,⟨_,Try.underlying82,rfl⟩⟩
theorem tt89:TyOk Try.prog 89 (Ty.kd (.sl (.pr (.int .i64) (.pr (.int .i64) (.pr (.sl (.sl .byte)) (.pr (.arr 32 .byte) (.sl .byte))))))) 24:=⟨⟨Try.t89,_,Try.type89,rfl,rfl,rfl,rfl,rfl⟩,⟨_,Try.underlying89,rfl⟩⟩
theorem tt91:TyOk Try.prog 91 (Ty.kd (.hpt)) 8:=⟨⟨Try.t91,_,Try.type91,rfl,rfl,rfl,rfl,rfl⟩,⟨_,Try.underlying91,rfl⟩⟩
theorem qrA:TyOk Try.prog 91 (Ty.kd (.ptr (.pr (.sl (.pr (.arr 32 .byte) .str)) (.int .i64)))) 8:=⟨⟨Try.t91,_,Try.type91,rfl,rfl,rfl,rfl,rfl⟩,⟨_,Try.underlying91,rfl⟩⟩
theorem tt92:TyOk Try.prog 92 (Ty.kd (.sl (.pr (.arr 32 .byte) .str))) 24:=⟨⟨Try.t92,_,Try.type92,rfl,rfl,rfl,rfl,rfl⟩,⟨_,Try.underlying92,rfl⟩⟩
theorem tt93:TyOk Try.prog 93 (Ty.kd (.pr (.sl (.pr (.arr 32 .byte) .str)) (.int .i64))) 32:=⟨⟨Try.t93,_,Try.type93,rfl,rfl,rfl,rfl,rfl⟩,⟨_,Try.underlying93,rfl⟩⟩
theorem tt94:TyOk Try.prog 94 (Ty.kd (.pr (.sl (.pr (.arr 32 .byte) .str)) (.int .i64))) 32:=⟨⟨Try.t94,_,Try.type94,rfl,rfl,rfl,rfl,rfl⟩,⟨_,Try.underlying94,rfl⟩⟩
theorem tt96:TyOk Try.prog 96 (Ty.kd (.sl (.sl .byte))) 24:=⟨⟨Try.t96,_,Try.type96,rfl,rfl,rfl,rfl,rfl⟩,⟨_,Try.underlying96,rfl⟩⟩
theorem tt97:TyOk Try.prog 97 (Ty.kd (.pr (.int .i64) (.pr (.int .i64) (.pr (.sl (.sl .byte)) (.pr (.arr 32 .byte) (.sl .byte)))))) 96:=⟨⟨Try.t97,_,Try.type97,rfl,rfl,rfl,rfl,rfl⟩,⟨_,Try.underlying97,rfl⟩⟩
theorem tt98:TyOk Try.prog 98 (Ty.kd (.pr (.int .i64) (.pr (.int .i64) (.pr (.sl (.sl .byte)) (.pr (.arr 32 .byte) (.sl .byte)))))) 96:=⟨⟨Try.t98,_,Try.type98,rfl,rfl,rfl,rfl,rfl⟩,⟨_,Try.underlying98,rfl⟩⟩
theorem qqX:TyOk Try.prog 107 (Ty.kd (.sl (.ptr (.pr (.pr (.sl (.pr (.arr 32 .byte) (.sl .byte))) .anm) (.int .i64))))) 24:=⟨⟨Try.t107,_,Try.type107,rfl,rfl,rfl,rfl,rfl⟩,⟨_,Try.underlying107,rfl⟩⟩
theorem qqY:TyOk Try.prog 115 (Ty.kd (.hpt)) 8:=⟨⟨Try.t115,_,Try.type115,rfl,rfl,rfl,rfl,rfl⟩,⟨_,Try.underlying115,rfl⟩⟩
theorem qp6:TyOk Try.prog 115 (Ty.kd (.ptr (.arr 32 .byte))) 8:=⟨⟨Try.t115,_,Try.type115,rfl,rfl,rfl,rfl,rfl⟩,⟨_,Try.underlying115,rfl⟩⟩
theorem qqZ:TyOk Try.prog 116 (Ty.kd (.arr 5 (.ptr (.arr 32 .byte)))) 40:=⟨⟨Try.t116,_,Try.type116,rfl,rfl,rfl,rfl,rfl⟩,⟨_,Try.underlying116,rfl⟩⟩
theorem qq0:TyOk Try.prog 118 (Ty.kd (.hpt)) 8:=⟨⟨Try.t118,_,Try.type118,rfl,rfl,rfl,rfl,rfl⟩,⟨_,Try.underlying118,rfl⟩⟩
theorem qp7:TyOk Try.prog 118 (Ty.kd (.ptr (.pr (.int .u64) (.pr (.arr 32 .byte) (.pr (.arr 32 .byte) (.pr (.arr 32 .byte) (.pr (.arr 32 .byte) (.arr 32 .byte)))))))) 8:=⟨⟨Try.t118,_,Try.type118,rfl,rfl,rfl,rfl,rfl⟩,⟨_,Try.underlying118,rfl⟩⟩
theorem qq1:TyOk Try.prog 121 (Ty.kd (.pr (.pr (.int .u64) (.pr (.arr 32 .byte) (.pr (.arr 32 .byte) (.pr (.arr 32 .byte) (.pr (.arr 32 .byte) (.arr 32 .byte)))))) (.arr 32 .byte))) 200:=⟨⟨Try.t121,_,Try.type121,rfl,rfl,rfl,rfl,rfl⟩,⟨_,Try.underlying121,rfl⟩⟩
theorem qq2:TyOk Try.prog 122 (Ty.kd (.pr (.pr (.int .u64) (.pr (.arr 32 .byte) (.pr (.arr 32 .byte) (.pr (.arr 32 .byte) (.pr (.arr 32 .byte) (.arr 32 .byte)))))) (.arr 32 .byte))) 200:=⟨⟨Try.t122,_,Try.type122,rfl,rfl,rfl,rfl,rfl⟩,⟨_,Try.underlying122,rfl⟩⟩
theorem qq3:TyOk Try.prog 124 (Ty.kd (.pr (.sl .byte) .bool)) 32:=⟨⟨Try.t124,_,Try.type124,rfl,rfl,rfl,rfl,rfl⟩,⟨_,Try.underlying124,rfl⟩⟩
theorem qq4:TyOk Try.prog 125 (Ty.kd (.pr (.sl .byte) .bool)) 32:=⟨⟨Try.t125,_,Try.type125,rfl,rfl,rfl,rfl,rfl⟩,⟨_,Try.underlying125,rfl⟩⟩
theorem qq5:TyOk Try.prog 126 (Ty.kd (.st (.pr (.sl .byte) .bool))) 32:=⟨⟨Try.t126,_,Try.type126,rfl,rfl,rfl,rfl,rfl⟩,⟨_,Try.underlying126,rfl⟩⟩
theorem qq6:TyOk Try.prog 127 (Ty.kd (.st (.pr (.sl .byte) .bool))) 32:=⟨⟨Try.t127,_,Try.type127,rfl,rfl,rfl,rfl,rfl⟩,⟨_,Try.underlying127,rfl⟩⟩
theorem qq7:TyOk Try.prog 130 (Ty.kd (.hpt)) 8:=⟨⟨Try.t130,_,Try.type130,rfl,rfl,rfl,rfl,rfl⟩,⟨_,Try.underlying130,rfl⟩⟩
theorem qp8:TyOk Try.prog 130 (Ty.kd (.ptr (.pr (.sl .byte) .bool))) 8:=⟨⟨Try.t130,_,Try.type130,rfl,rfl,rfl,rfl,rfl⟩,⟨_,Try.underlying130,rfl⟩⟩
theorem qq8:TyOk Try.prog 145 (Ty.kd (.pr (.arr 32 .byte) (.sl .byte))) 56:=⟨⟨Try.t145,_,Try.type145,rfl,rfl,rfl,rfl,rfl⟩,⟨_,Try.underlying145,rfl⟩⟩
theorem qq9:TyOk Try.prog 146 (Ty.kd (.pr (.arr 32 .byte) (.sl .byte))) 56:=⟨⟨Try.t146,_,Try.type146,rfl,rfl,rfl,rfl,rfl⟩,⟨_,Try.underlying146,rfl⟩⟩
theorem qra:TyOk Try.prog 161 (Ty.kd (.pr (.arr 32 .byte) .str)) 48:=⟨⟨Try.t161,_,Try.type161,rfl,rfl,rfl,rfl,rfl⟩,⟨_,Try.underlying161,rfl⟩⟩
theorem qrb:TyOk Try.prog 162 (Ty.kd (.pr (.arr 32 .byte) .str)) 48:=⟨⟨Try.t162,_,Try.type162,rfl,rfl,rfl,rfl,rfl⟩,⟨_,Try.underlying162,rfl⟩⟩
theorem qrc:TyOk Try.prog 166 (Ty.kd (.sl (.int .u64))) 24:=⟨⟨Try.t166,_,Try.type166,rfl,rfl,rfl,rfl,rfl⟩,⟨_,Try.underlying166,rfl⟩⟩
theorem qrd:TyOk Try.prog 175 (Ty.kd (.sl (.int .i64))) 24:=⟨⟨Try.t175,_,Try.type175,rfl,rfl,rfl,rfl,rfl⟩,⟨_,Try.underlying175,rfl⟩⟩
theorem qre:TyOk Try.prog 180 (Ty.kd (.int .u64)) 8:=⟨⟨Try.t180,_,Try.type180,rfl,rfl,rfl,rfl,rfl⟩,⟨_,Try.underlying180,rfl⟩⟩
theorem qrf:TyOk Try.prog 182 (Ty.kd (.hpt)) 8:=⟨⟨Try.t182,_,Try.type182,rfl,rfl,rfl,rfl,rfl⟩,⟨_,Try.underlying182,rfl⟩⟩
theorem qqa:TyOk Try.prog 182 (Ty.kd (.ptr (.pr (.sl (.pr (.arr 32 .byte) (.sl .byte))) .anm))) 8:=⟨⟨Try.t182,_,Try.type182,rfl,rfl,rfl,rfl,rfl⟩,⟨_,Try.underlying182,rfl⟩⟩
theorem qrg:TyOk Try.prog 186 (Ty.kd (.hpt)) 8:=⟨⟨Try.t186,_,Try.type186,rfl,rfl,rfl,rfl,rfl⟩,⟨_,Try.underlying186,rfl⟩⟩
theorem qqb:TyOk Try.prog 186 (Ty.kd (.ptr (.pr (.arr 8 (.int .u32)) (.pr (.int .u64) (.sl .byte))))) 8:=⟨⟨Try.t186,_,Try.type186,rfl,rfl,rfl,rfl,rfl⟩,⟨_,Try.underlying186,rfl⟩⟩
theorem qrh:TyOk Try.prog 189 (Ty.kd (.int .u32)) 4:=⟨⟨Try.t189,_,Try.type189,rfl,rfl,rfl,rfl,rfl⟩,⟨_,Try.underlying189,rfl⟩⟩
theorem qri:TyOk Try.prog 190 (Ty.kd (.sl (.int .u32))) 24:=⟨⟨Try.t190,_,Try.type190,rfl,rfl,rfl,rfl,rfl⟩,⟨_,Try.underlying190,rfl⟩⟩
theorem qrj:TyOk Try.prog 198 (Ty.kd (.arr 8 (.int .u32))) 32:=⟨⟨Try.t198,_,Try.type198,rfl,rfl,rfl,rfl,rfl⟩,⟨_,Try.underlying198,rfl⟩⟩
theorem qrk:TyOk Try.prog 199 (Ty.kd (.arr 8 (.int .u32))) 32:=⟨⟨Try.t199,_,Try.type199,rfl,rfl,rfl,rfl,rfl⟩,⟨_,Try.underlying199,rfl⟩⟩
theorem qrl:TyOk Try.prog 200 (Ty.kd (.pr (.arr 8 (.int .u32)) (.pr (.int .u64) (.sl .byte)))) 64:=⟨⟨Try.t200,_,Try.type200,rfl,rfl,rfl,rfl,rfl⟩,⟨_,Try.underlying200,rfl⟩⟩
theorem qrm:TyOk Try.prog 201 (Ty.kd (.pr (.arr 8 (.int .u32)) (.pr (.int .u64) (.sl .byte)))) 64:=⟨⟨Try.t201,_,Try.type201,rfl,rfl,rfl,rfl,rfl⟩,⟨_,Try.underlying201,rfl⟩⟩
theorem qrn:TyOk Try.prog 212 (Ty.kd (.hpt)) 8:=⟨⟨Try.t212,_,Try.type212,rfl,rfl,rfl,rfl,rfl⟩,⟨_,Try.underlying212,rfl⟩⟩
theorem qqc:TyOk Try.prog 212 (Ty.kd (.ptr (.arr 8 (.int .u32)))) 8:=⟨⟨Try.t212,_,Try.type212,rfl,rfl,rfl,rfl,rfl⟩,⟨_,Try.underlying212,rfl⟩⟩
theorem qro:TyOk Try.prog 213 (Ty.kd (.arr 64 (.int .u32))) 256:=⟨⟨Try.t213,_,Try.type213,rfl,rfl,rfl,rfl,rfl⟩,⟨_,Try.underlying213,rfl⟩⟩
theorem qrp:TyOk Try.prog 225 (Ty.kd (.hpt)) 8:=⟨⟨Try.t225,_,Try.type225,rfl,rfl,rfl,rfl,rfl⟩,⟨_,Try.underlying225,rfl⟩⟩
theorem qqd:TyOk Try.prog 225 (Ty.kd (.ptr (.int .u8))) 8:=⟨⟨Try.t225,_,Try.type225,rfl,rfl,rfl,rfl,rfl⟩,⟨_,Try.underlying225,rfl⟩⟩
theorem qrw:TyOk Try.prog 61 (Ty.kd (.hsl 82 (.pr (.int .i64) (.pr (.pr (.sl .byte) (.sl .byte)) (.sl (.arr 32 .byte)))))) 24:=⟨⟨Try.t61,_,Try.type61,rfl,rfl,rfl,rfl,rfl⟩,⟨_,Try.underlying61,rfl⟩⟩
theorem qrx:TyOk Try.prog 63 (Ty.kd (.pr (.int .i64) (.hsl 82 (.pr (.int .i64) (.pr (.pr (.sl .byte) (.sl .byte)) (.sl (.arr 32 .byte))))))) 32:=⟨⟨Try.t63,_,Try.type63,rfl,rfl,rfl,rfl,rfl⟩,⟨_,Try.underlying63,rfl⟩⟩
theorem qry:TyOk Try.prog 80 (Ty.kd (.hsl 24 (.arr 32 .byte))) 24:=⟨⟨Try.t80,_,Try.type80,rfl,rfl,rfl,rfl,rfl⟩,⟨_,Try.underlying80,rfl⟩⟩
theorem qrz:TyOk Try.prog 82 (Ty.kd (.pr (.int .i64) (.pr (.pr (.sl .byte) (.sl .byte)) (.hsl 24 (.arr 32 .byte))))) 80:=⟨⟨Try.t82,_,Try.type82,rfl,rfl,rfl,rfl,rfl⟩,⟨_,Try.underlying82,rfl⟩⟩
theorem qp9:TyOk Try.prog 175 (Ty.kd (.hsl 3 (.int .i64))) 24:=⟨⟨Try.t175,_,Try.type175,rfl,rfl,rfl,rfl,rfl⟩,⟨_,Try.underlying175,rfl⟩⟩
def tab:List (Nat×Bool×Ty×Nat):=[(2,false,.int .i64,8),(3,false,.int .i64,8),(4,false,.bool,1),(5,false,.int .u8,1),(5,true,.byte,1),(9,false,.str,16),(12,false,.int .u64,8),(13,false,.pr .str (.int .u64),24),(21,false,.int .i32,4),(22,false,.sl .str,24),(23,false,.int .u64,8),(24,false,.arr 32 .byte,32),(25,false,.pr (.int .u64) (.pr (.arr 32 .byte) (.pr (.arr 32 .byte) (.pr (.arr 32 .byte) (.pr (.arr 32 .byte) (.arr 32 .byte))))),168),(26,false,.pr (.int .u64) (.pr (.arr 32 .byte) (.pr (.arr 32 .byte) (.pr (.arr 32 .byte) (.pr (.arr 32 .byte) (.arr 32 .byte))))),168),(27,false,.pr (.arr 32 .byte) (.pr (.arr 32 .byte) (.arr 32 .byte)),96),(28,false,.pr (.arr 32 .byte) (.pr (.arr 32 .byte) (.arr 32 .byte)),96),(32,false,.sl .byte,24),(35,false,.hpt,8),(35,true,.ptr (.pr (.pr (.sl (.pr (.arr 32 .byte) (.sl .byte))) .anm) (.int .i64)),8),(36,false,.sl (.pr (.arr 32 .byte) (.sl .byte)),24),(38,false,.pr (.sl (.pr (.arr 32 .byte) (.sl .byte))) (.hmp (.arr 32 .byte) (.int .i64)),32),(38,true,.pr (.sl (.pr (.arr 32 .byte) (.sl .byte))) .anm,32),(39,false,.pr (.hsl 146 (.pr (.arr 32 .byte) (.sl .byte))) (.hmp (.arr 32 .byte) (.int .i64)),32),(39,true,.pr (.sl (.pr (.arr 32 .byte) (.sl .byte))) .anm,32),(40,false,.pr (.pr (.hsl 146 (.pr (.arr 32 .byte) (.sl .byte))) (.hmp (.arr 32 .byte) (.int .i64))) (.int .i64),40),(40,true,.pr (.pr (.sl (.pr (.arr 32 .byte) (.sl .byte))) .anm) (.int .i64),40),(41,false,.pr (.pr (.hsl 146 (.pr (.arr 32 .byte) (.sl .byte))) (.hmp (.arr 32 .byte) (.int .i64))) (.int .i64),40),(41,true,.pr (.pr (.sl (.pr (.arr 32 .byte) (.sl .byte))) .anm) (.int .i64),40),(46,false,.hpt,8),(46,true,.ptr (.st (.pr (.sl .byte) .bool)),8),(49,false,.int .i64,8),(53,false,.sl (.pr (.sl .byte) (.sl .byte)),24),(56,false,.pr (.sl .byte) (.sl .byte),48),(57,false,.pr (.sl .byte) (.sl .byte),48),(61,false,.sl (.pr (.int .i64) (.pr (.pr (.sl .byte) (.sl .byte)) (.sl (.arr 32 .byte)))),24),(62,false,.pr (.int .i64) (.sl (.pr (.int .i64) (.pr (.pr (.sl .byte) (.sl .byte)) (.sl (.arr 32 .byte))))),32),(63,false,.pr (.int .i64) (.sl (.pr (.int .i64) (.pr (.pr (.sl .byte) (.sl .byte)) (.sl (.arr 32 .byte))))),32),(80,false,.sl (.arr 32 .byte),24),(81,false,.pr (.int .i64) (.pr (.pr (.sl .byte) (.sl .byte)) (.sl (.arr 32 .byte))),80),(82,false,.pr (.int .i64) (.pr (.pr (.sl .byte) (.sl .byte)) (.sl (.arr 32 .byte))),80),(89,false,.sl (.pr (.int .i64) (.pr (.int .i64) (.pr (.sl (.sl .byte)) (.pr (.arr 32 .byte) (.sl .byte))))),24),(91,false,.hpt,8),(91,true,.ptr (.pr (.sl (.pr (.arr 32 .byte) .str)) (.int .i64)),8),(92,false,.sl (.pr (.arr 32 .byte) .str),24),(93,false,.pr (.sl (.pr (.arr 32 .byte) .str)) (.int .i64),32),(94,false,.pr (.sl (.pr (.arr 32 .byte) .str)) (.int .i64),32),(96,false,.sl (.sl .byte),24),(97,false,.pr (.int .i64) (.pr (.int .i64) (.pr (.sl (.sl .byte)) (.pr (.arr 32 .byte) (.sl .byte)))),96),(98,false,.pr (.int .i64) (.pr (.int .i64) (.pr (.sl (.sl .byte)) (.pr (.arr 32 .byte) (.sl .byte)))),96),(107,false,.sl (.ptr (.pr (.pr (.sl (.pr (.arr 32 .byte) (.sl .byte))) .anm) (.int .i64))),24),(115,false,.hpt,8),(115,true,.ptr (.arr 32 .byte),8),(116,false,.arr 5 (.ptr (.arr 32 .byte)),40),(118,false,.hpt,8),(118,true,.ptr (.pr (.int .u64) (.pr (.arr 32 .byte) (.pr (.arr 32 .byte) (.pr (.arr 32 .byte) (.pr (.arr 32 .byte) (.arr 32 .byte)))))),8),(121,false,.pr (.pr (.int .u64) (.pr (.arr 32 .byte) (.pr (.arr 32 .byte) (.pr (.arr 32 .byte) (.pr (.arr 32 .byte) (.arr 32 .byte)))))) (.arr 32 .byte),200),(122,false,.pr (.pr (.int .u64) (.pr (.arr 32 .byte) (.pr (.arr 32 .byte) (.pr (.arr 32 .byte) (.pr (.arr 32 .byte) (.arr 32 .byte)))))) (.arr 32 .byte),200),(124,false,.pr (.sl .byte) .bool,32),(125,false,.pr (.sl .byte) .bool,32),(126,false,.st (.pr (.sl .byte) .bool),32),(127,false,.st (.pr (.sl .byte) .bool),32),(130,false,.hpt,8),(130,true,.ptr (.pr (.sl .byte) .bool),8),(145,false,.pr (.arr 32 .byte) (.sl .byte),56),(146,false,.pr (.arr 32 .byte) (.sl .byte),56),(161,false,.pr (.arr 32 .byte) .str,48),(162,false,.pr (.arr 32 .byte) .str,48),(166,false,.sl (.int .u64),24),(175,false,.sl (.int .i64),24),(180,false,.int .u64,8),(182,false,.hpt,8),(182,true,.ptr (.pr (.sl (.pr (.arr 32 .byte) (.sl .byte))) .anm),8),(186,false,.hpt,8),(186,true,.ptr (.pr (.arr 8 (.int .u32)) (.pr (.int .u64) (.sl .byte))),8),(189,false,.int .u32,4),(190,false,.sl (.int .u32),24),(198,false,.arr 8 (.int .u32),32),(199,false,.arr 8 (.int .u32),32),(200,false,.pr (.arr 8 (.int .u32)) (.pr (.int .u64) (.sl .byte)),64),(201,false,.pr (.arr 8 (.int .u32)) (.pr (.int .u64) (.sl .byte)),64),(212,false,.hpt,8),(212,true,.ptr (.arr 8 (.int .u32)),8),(213,false,.arr 64 (.int .u32),256),(225,false,.hpt,8),(225,true,.ptr (.int .u8),8),(61,false,.hsl 82 (.pr (.int .i64) (.pr (.pr (.sl .byte) (.sl .byte)) (.sl (.arr 32 .byte)))),24),(63,false,.pr (.int .i64) (.hsl 82 (.pr (.int .i64) (.pr (.pr (.sl .byte) (.sl .byte)) (.sl (.arr 32 .byte))))),32),(80,false,.hsl 24 (.arr 32 .byte),24),(82,false,.pr (.int .i64) (.pr (.pr (.sl .byte) (.sl .byte)) (.hsl 24 (.arr 32 .byte))),80),(175,false,.hsl 3 (.int .i64),24)]
theorem qp4:qj8 Try.prog tab:=⟨tt2,tt3,tt4,tt5,tt5b,tt9,tt12,tt13,tt21,tt22,tt23,tt24,tt25,tt26,tt27,tt28,tt32,tt35,qrq,tt36,tt38,qrr,tt39,qrs,tt40,qrt,tt41,qru,tt46,qrv,tt49,tt53,tt56,tt57,tt61,tt62,tt63,tt80,tt81,tt82,tt89,tt91,qrA,tt92,tt93,tt94,tt96,tt97,tt98,qqX,qqY,qp6,qqZ,qq0,qp7,qq1,qq2,qq3,qq4,qq5,qq6,qq7,qp8,qq8,qq9,qra,qrb,qrc,qrd,qre,qrf,qqa,qrg,qqb,qrh,qri,qrj,qrk,qrl,qrm,qrn,qqc,qro,qrp,qqd,qrw,qrx,qry,qrz,qp9,trivial⟩
def eqs:List (Nat×Ty×Nat):=[(24,.arr 32 .byte,2),(26,.pr (.int .u64) (.pr (.arr 32 .byte) (.pr (.arr 32 .byte) (.pr (.arr 32 .byte) (.pr (.arr 32 .byte) (.arr 32 .byte))))),3),(28,.pr (.arr 32 .byte) (.pr (.arr 32 .byte) (.arr 32 .byte)),3),(122,.pr (.pr (.int .u64) (.pr (.arr 32 .byte) (.pr (.arr 32 .byte) (.pr (.arr 32 .byte) (.pr (.arr 32 .byte) (.arr 32 .byte)))))) (.arr 32 .byte),4)]
theorem qqP:EqT Try.prog 24 (.arr 32 .byte) 2:=(qbf Try.underlying24 Try.underlying5 (tt5b))
theorem qqQ:EqT Try.prog 26 (.pr (.int .u64) (.pr (.arr 32 .byte) (.pr (.arr 32 .byte) (.pr (.arr 32 .byte) (.pr (.arr 32 .byte) (.arr 32 .byte)))))) 3:=(qcP Try.underlying26 (by kernel_rfl) rfl (qaM (tt23) rfl (by decide) (EqT.more (m':=2) (qkF Try.underlying23) rfl) (qaM (tt24) rfl (by decide) (EqT.more (m':=2) (qbf Try.underlying24 Try.underlying5 (tt5b)) rfl) (qaM (tt24) rfl (by decide) (EqT.more (m':=2) (qbf Try.underlying24 Try.underlying5 (tt5b)) rfl) (qaM (tt24) rfl (by decide) (EqT.more (m':=2) (qbf Try.underlying24 Try.underlying5 (tt5b)) rfl) (qaM (tt24) rfl (by decide) (EqT.more (m':=2) (qbf Try.underlying24 Try.underlying5 (tt5b)) rfl) (qet (tt24) rfl (by decide) (EqT.more (m':=2) (qbf Try.underlying24 Try.underlying5 (tt5b)) rfl))))))))
theorem qqR:EqT Try.prog 28 (.pr (.arr 32 .byte) (.pr (.arr 32 .byte) (.arr 32 .byte))) 3:=(qcP Try.underlying28 (by kernel_rfl) rfl (qaM (tt24) rfl (by decide) (EqT.more (m':=2) (qbf Try.underlying24 Try.underlying5 (tt5b)) rfl) (qaM (tt24) rfl (by decide) (EqT.more (m':=2) (qbf Try.underlying24 Try.underlying5 (tt5b)) rfl) (qet (tt24) rfl (by decide) (EqT.more (m':=2) (qbf Try.underlying24 Try.underlying5 (tt5b)) rfl)))))
theorem qpS:EqT Try.prog 122 (.pr (.pr (.int .u64) (.pr (.arr 32 .byte) (.pr (.arr 32 .byte) (.pr (.arr 32 .byte) (.pr (.arr 32 .byte) (.arr 32 .byte)))))) (.arr 32 .byte)) 4:=(qcP Try.underlying122 (by kernel_rfl) rfl (qaM (tt26) rfl (by decide) (EqT.more (m':=3) (qcP Try.underlying26 (by kernel_rfl) rfl (qaM (tt23) rfl (by decide) (EqT.more (m':=2) (qkF Try.underlying23) rfl) (qaM (tt24) rfl (by decide) (EqT.more (m':=2) (qbf Try.underlying24 Try.underlying5 (tt5b)) rfl) (qaM (tt24) rfl (by decide) (EqT.more (m':=2) (qbf Try.underlying24 Try.underlying5 (tt5b)) rfl) (qaM (tt24) rfl (by decide) (EqT.more (m':=2) (qbf Try.underlying24 Try.underlying5 (tt5b)) rfl) (qaM (tt24) rfl (by decide) (EqT.more (m':=2) (qbf Try.underlying24 Try.underlying5 (tt5b)) rfl) (qet (tt24) rfl (by decide) (EqT.more (m':=2) (qbf Try.underlying24 Try.underlying5 (tt5b)) rfl)))))))) rfl) (qet (tt24) rfl (by decide) (EqT.more (m':=3) (qbf Try.underlying24 Try.underlying5 (tt5b)) rfl))))
theorem qpT:qjI Try.prog eqs:=⟨qqP,qqQ,qqR,qpS,trivial⟩
def fns:List Nat:=[2,3,4,5,6,7,8,9,10,11,12,13,14,15,16,17,18,19,20,21,22,23,24,25,26,27,28,29,30,31,32,33,34,35,36,37,38,39,40,41,42,43,44,45,46,47,48,49,50,51,52,53,54,55,56,57,58,59,60,61,62,63,64,65,66,67,68,69,70,71,72,73,74,75,76,77,78,79,80,81,82,83,84,85,86,87,88,89,90,91,92,93,94,95,96,97,98,99,100,101,102,103,104,105,106,107,108,109,110,111,112,113,115,116,117,118,119,120,121,122,123,124,125,126,127,128,129,130,131,132,133,134,135,136,137,138,139,140,141,142,143,144,145,146,147,148]
theorem qa8:qja Try.prog fns:=⟨Try.call2,Try.call3,Try.call4,Try.call5,Try.call6,Try.call7,Try.call8,Try.call9,Try.call10,Try.call11,Try.call12,Try.call13,Try.call14,Try.call15,Try.call16,Try.call17,Try.call18,Try.call19,Try.call20,Try.call21,Try.call22,Try.call23,Try.call24,Try.call25,Try.call26,Try.call27,Try.call28,Try.call29,Try.call30,Try.call31,Try.call32,Try.call33,Try.call34,Try.call35,Try.call36,Try.call37,Try.call38,Try.call39,Try.call40,Try.call41,Try.call42,Try.call43,Try.call44,Try.call45,Try.call46,Try.call47,Try.call48,Try.call49,Try.call50,Try.call51,Try.call52,Try.call53,Try.call54,Try.call55,Try.call56,Try.call57,Try.call58,Try.call59,Try.call60,Try.call61,Try.call62,Try.call63,Try.call64,Try.call65,Try.call66,Try.call67,Try.call68,Try.call69,Try.call70,Try.call71,Try.call72,Try.call73,Try.call74,Try.call75,Try.call76,Try.call77,Try.call78,Try.call79,Try.call80,Try.call81,Try.call82,Try.call83,Try.call84,Try.call85,Try.call86,Try.call87,Try.call88,Try.call89,Try.call90,Try.call91,Try.call92,Try.call93,Try.call94,Try.call95,Try.call96,Try.call97,Try.call98,Try.call99,Try.call100,Try.call101,Try.call102,Try.call103,Try.call104,Try.call105,Try.call106,Try.call107,Try.call108,Try.call109,Try.call110,Try.call111,Try.call112,Try.call113,Try.call115,Try.call116,Try.call117,Try.call118,Try.call119,Try.call120,Try.call121,Try.call122,Try.call123,Try.call124,Try.call125,Try.call126,Try.call127,Try.call128,Try.call129,Try.call130,Try.call131,Try.call132,Try.call133,Try.call134,Try.call135,Try.call136,Try.call137,Try.call138,Try.call139,Try.call140,Try.call141,Try.call142,Try.call143,Try.call144,Try.call145,Try.call146,Try.call147,Try.call148,trivial⟩
noncomputable def seat:Seat:=⟨Try.prog,tab,eqs,[]⟩
theorem qaH:seat.ok:=⟨qp4.all,qpT.all⟩
def bkT:Bk:=⟨41,146,40⟩
theorem qa5:TyOk Try.prog bkT.t qdB bkT.bytes:=⟨⟨Try.t41,_,Try.type41,rfl,rfl,rfl,rfl,rfl⟩,⟨_,Try.underlying41,rfl⟩⟩
end Go.Proofs.Ytmjjkpiglbpkhaa

set_option linter.unusedVariables false
namespace Go.Inc
open Go
def qaZ (l:List (List UInt8)):List UInt8:=hSum (qas ((List.replicate 8 0),0,[]) l)
def qam (k:Int) (l:List (List UInt8)):List UInt8:=qaZ [preimage k l]
def qaD (x:qav) (k:Int) (l:List (List UInt8)):qav:=x.map fun y=>(addL y.1 (qam k l) (preimage k l),IntKind.i64.wrap (y.2+1))
def qai (x:qav) (s b:List UInt8):qav:=x.map fun y=>(addL y.1 s b,y.2)
def qaP (x:qav):Prop:=∀y,x=some y→(y.1.length+1) *64≤140737488355328
def qbI (x:qav):Int:=match x with | some y=>y.2 | none=>0
def qbV (x:qav):Prop:=∀y,x=some y→y.1.length *24≤140737488355328∧∀z∈y.1,z.2.length≤140737488355328
def qci (x:qav) (s:List UInt8):List UInt8:=match x with | some y=>qfJ y.1 s | none=> []
def qdR (x:qav) (s:List UInt8):Bool:=match x with | some y=>(qaq s y.1 0).isSome | none=>false
def qdQ (x:qav):List (List UInt8):=match x with | some y=>y.1.map Prod.snd | none=> []
def qaX:List Nt→List Nt→List UInt8×List UInt8×Bool
 | _,[]=>([],[],false)
 | all,x::l=>match qaq x.1 all 0 with
   | some a=>if (ix all a).2=x.2 then qaX (addL all x.1 x.2) l else ((ix all a).2,x.2,true)
   | none=>qaX (addL all x.1 x.2) l
abbrev qi6:=Option ((List Nt×Unit)×Int)
def frzB (x:qav):qi6:=x.map fun y=>((y.1,()),y.2)
def qaG (l:List qi6):List Nt:=l.flatMap fun o=>match o with | some y=>y.1.1 | none=> []
def qan (l:List qi6):List UInt8×List UInt8×Bool:=qaX [] (qaG l)
def qbW (l:List qi6):Prop:=((qaG l).length+1) *64≤140737488355328∧∀z∈qaG l,z.2.length≤140737488355328
theorem qmf (s:List Int) (n:Int) (r:List UInt8):(eat s n r).2.2.length<64:=by
 induction h:r.length using Nat.strongRecOn generalizing s n r with
 | _ m ih=>
   rw [eat]
   split
   ·exact ih _ (by rw [List.length_drop];omega) _ _ _ rfl
   ·show r.length<64
    omega
theorem qi0 (x:List Int): ∀n,(sumN x n).length=32∨8<n
 | 0=>by simp [sumN]
 | n+1=>by
   rcases qi0 x n with h | h
   ·rcases Nat.lt_or_ge n 8 with h8 | h8
    ·left
     simp only [sumN,List.length_append,List.length_take,List.length_drop,h,qbu]
     omega
    ·exact .inr (by omega)
   ·exact .inr (by omega)
theorem qjv (l:List (List UInt8)):(qaZ l).length=32:=by
 rcases qi0 (qas (qas (List.replicate 8 0,0,[]) l) (qjs (qas (List.replicate 8 0,0,[]) l))).1 8 with h | h
 ·exact h
 ·omega
theorem qmz {l:List (List UInt8)} {x:List UInt8} (h:x∈l):x.length≤qao l:=by
 induction l with
 | nil=>cases h
 | cons y l ih=>
   simp only [qao,List.map_cons,List.sum_cons] at *
   rcases List.mem_cons.1 h with rfl | h
   ·omega
   ·have:=ih h
    omega
theorem qcF (k:Int) {l:List (List UInt8)} (h:1+qao l≤140737488355328):(preimage k l).length≤1+qao l:=by
 have:=qbq l (fun x hx=>by have:=qmz hx;omega)
 simp only [preimage,List.length_cons]
 omega
theorem qc5 {s:List UInt8}: ∀ {l:List Nt} {l':List Nt} {i:Int},qaq s (l++l') i=(qaq s l i).or (qaq s l' (i+(l.length:Int)))
 | [],l',i=>by simp [qaq]
 | x::l,l',i=>by
   simp only [List.cons_append,qaq]
   by_cases h:s=x.1
   ·simp [h]
   ·rw [if_neg h,if_neg h,qc5]
    congr 2
    simp only [List.length_cons]
    omega
theorem qfH {s t:List UInt8} {a:Int}: ∀(m:List (List UInt8×Int)),mfind t (mset s a m)=if t=s then some a else mfind t m
 | []=>by simp [mset,mfind]
 | (b,c)::m=>by
   by_cases h:s=b
   ·subst h
    by_cases h2:t=s<;>simp [mset,mfind,h2]
   ·simp only [mset,if_neg h,mfind,qfH m]
    by_cases h2:t=b
    ·subst h2
     simp [Ne.symm h]
    ·simp [h2]
theorem qkd {l:List Nt} {m:List (List UInt8×Int)} (h:qaK l m) (s b:List UInt8):qaK (addL l s b) (addM l m s b):=by
 intro t
 unfold addL addM
 by_cases hm:(s,b)∈l
 ·rw [if_pos hm,if_pos hm];exact h t
 ·rw [if_neg hm,if_neg hm,qc5]
  have hs:=h s
  by_cases hf:(mfind s m).isSome=true
  ·rw [if_pos hf,h t]
   cases ht:qaq t l 0 with
   | some a=>rfl
   | none=>
     have hne: ¬(t=s):=fun e=>by
      subst e
      rw [hs,ht] at hf
      cases hf
     simp [qaq,hne]
  ·rw [if_neg hf,qfH,h t]
   have hn:qaq s l 0=none:=by
    rw [hs] at hf
    simpa using hf
   by_cases e:t=s
   ·subst e
    simp [hn,qaq]
   ·cases ht:qaq t l 0<;>simp [e,qaq]
theorem qdi (l:List qi6) (j:Nat):qaG l=qaG (l.take j)++qaG (l.drop j):=by
 unfold qaG
 rw [←List.flatMap_append,List.take_append_drop]
theorem qe3 {l:List qi6} {j:Nat} (h:(j:Int)<(l.length:Int)):qaG (l.drop j)=(match ix l (j:Int) with | some y=>y.1.1 | none=> [])++qaG (l.drop (j+1)):=by
 have hj:j<l.length:=by omega
 rw [List.drop_eq_getElem_cons hj,qa3 (by simpa using hj)]
 rfl
theorem qh0 {α:Type} [Inhabited α] {l:List α} {i:Int} (h0:0≤i) (h:i<(l.length:Int)):ix l i∈l:=by
 rw [qa3 (by omega)]
 exact List.getElem_mem _
theorem qgb (l:List Nt) (s b:List UInt8):(addL l s b).length≤l.length+1:=by
 unfold addL
 split<;>simp
theorem qdt {l:List Nt} {s b:List UInt8} {z:Nt} (h:z∈addL l s b):z∈l∨z=(s,b):=by
 unfold addL at h
 split at h
 ·exact .inl h
 ·simpa using h
theorem qfB {s:List UInt8} {l:List Nt} {a:Int} (h:qaq s l 0=some a):0≤a∧a<(l.length:Int):=by
 obtain ⟨j,rfl,hl,_⟩:=qbg h
 omega
theorem qdc (all:List Nt) (x:Nt) (l:List Nt):qaX all (x::l)=if (qaq x.1 all 0).isSome=true∧¬((ix all ((qaq x.1 all 0).getD 0)).2=x.2) then ((ix all ((qaq x.1 all 0).getD 0)).2,x.2,true) else qaX (addL all x.1 x.2) l:=by
 rw [qaX]
 cases h:qaq x.1 all 0 with
 | none=>simp
 | some a=>
   by_cases h2:(ix all a).2=x.2<;>simp [h2]
def numF (n:Nat):List UInt8:=UInt8.ofNat ((qdb.blenF 64 n+7)/8)::be n ((qdb.blenF 64 n+7)/8)
theorem qoi {n:Nat} (h:n<2^64):numB n=numF n:=by simp only [numB,numF,qes 64 n h]
def ql8 (l:List (List UInt8)):List UInt8:=l.flatMap fun x=>numF x.length++x
theorem ql9 {l:List (List UInt8)} (h: ∀x∈l,x.length<2^64):qbe l=ql8 l:=by
 induction l with
 | nil=>rfl
 | cons x l ih=>
   have h1:qbe (x::l)=(numB x.length++x)++qbe l:=rfl
   have h2:ql8 (x::l)=(numF x.length++x)++ql8 l:=rfl
   rw [h1,h2,qoi (h x (by simp)),ih (fun y hy=>h y (by simp [hy]))]
def qhb (k:Int) (l:List (List UInt8)):List UInt8:=toB (IntKind.u8.wrap k)::ql8 l
theorem qee (k:Int) {l:List (List UInt8)} (h: ∀x∈l,x.length<2^64):preimage k l=qhb k l:=by simp only [preimage,qhb,ql9 h]
end Go.Inc

set_option linter.unusedVariables false
namespace Go.Inc
open Go
theorem qnP (l:List Nt) (s b:List UInt8):(s,b)∈addL l s b:=by
 unfold addL
 split
 ·assumption
 ·simp
end Go.Inc

set_option linter.unusedVariables false
namespace Go.Inc
open Go
abbrev b32 (a:Int):BitVec 32:=BitVec.ofInt 32 a
section
variable {x:Int} (hx:0≤x∧x<4294967296)
include hx
end
end Go.Inc

set_option linter.unusedVariables false
namespace Go.Inc
open Go
abbrev Hd:=Int×(List UInt8×(List UInt8×(List UInt8×(List UInt8×List UInt8))))
structure HdWf (h:Hd):Prop where
 n0:0≤h.1
 n1:h.1≤18446744073709551615
 a:h.2.1.length=32
 b:h.2.2.1.length=32
 c:h.2.2.2.1.length=32
 d:h.2.2.2.2.1.length=32
 e:h.2.2.2.2.2.length=32
theorem qcd (k:Int) (l:List (List UInt8)):(qam k l).length=32:=qjv _
end Go.Inc

set_option linter.unusedVariables false
set_option maxRecDepth 100000
namespace Go.Inc
open Go
instance decL3:DecidableEq (List UInt8×List UInt8×List UInt8):=inferInstance
instance decL4:DecidableEq (List UInt8×List UInt8×List UInt8×List UInt8):=inferInstance
instance decL5:DecidableEq (List UInt8×List UInt8×List UInt8×List UInt8×List UInt8):=inferInstance
instance decHd:DecidableEq (Int×List UInt8×List UInt8×List UInt8×List UInt8×List UInt8):=inferInstance
def qc8 (l:List Nt):Prop:=∀s x y,(s,x)∈l→(s,y)∈l→x=y
theorem qc8.sub {l m:List Nt} (h:qc8 m) (hs: ∀z∈l,z∈m):qc8 l:=fun s x y h1 h2=>h s x y (hs _ h1) (hs _ h2)
theorem qdg {s:List UInt8} {l:List Nt} {a:Int} (h:qaq s l 0=some a):(s,(ix l a).2)∈l:=by
 obtain ⟨j,rfl,hj,hm⟩:=qbg h
 rw [Int.zero_add]
 have hi:ix l (j:Int)=l[j]:=qa3 (by simpa using hj)
 rw [hi]
 have:l[j].1=s:=by
  have h2: ∀(l:List Nt) (i:Int) (j:Nat) (hj:j<l.length),qaq s l i=some (i+(j:Int))→l[j].1=s:=by
   intro l
   induction l with
   | nil=>intro i j hj;simp at hj
   | cons z l ih=>
     intro i j hj h
     simp only [qaq] at h
     split at h
     ·rename_i hz
      have:j=0:=by simp at h;omega
      subst this
      simpa using hz.symm
     ·cases j with
      | zero=>
        exfalso
        have hge: ∀(l:List Nt) (i b:Int),qaq s l i=some b→i≤b:=fun l i b hb=>by
         obtain ⟨q,rfl,_⟩:=qbg hb
         omega
        have:=hge _ _ _ h
        omega
      | succ j=>
        simp only [List.getElem_cons_succ]
        exact ih (i+1) j (by simpa using hj) (by rw [h];congr 1;omega)
  exact h2 l 0 j hj (by simpa using h)
 rw [←this]
 exact List.getElem_mem hj
theorem qeP: ∀(m all:List Nt),qc8 all→((qaX all m).2.2=true→(qaX all m).1≠(qaX all m).2.1)∧((qaX all m).2.2=false→qc8 (all++m))
 | [],all,h=>by simp [qaX,h]
 | x::m,all,h=>by
   rw [qdc]
   split
   ·rename_i hc
    exact ⟨fun _=>hc.2,fun h=>by simp at h⟩
   ·rename_i hc
    have hn:qc8 (all++ [x]):=by
     intro s a b h1 h2
     rcases List.mem_append.1 h1 with g1 | g1<;>rcases List.mem_append.1 h2 with g2 | g2
     ·exact h s a b g1 g2
     ·obtain rfl:=List.mem_singleton.1 g2
      cases hf:qaq s all 0 with
      | none=>exact absurd g1 (qbX hf a)
      | some q=>
        have h3:=h _ _ _ g1 (qdg hf)
        have h4:(ix all q).2=b:=Decidable.byContradiction fun hne=>hc ⟨by simp [hf],by simpa [hf] using hne⟩
        rw [h3,h4]
     ·obtain rfl:=List.mem_singleton.1 g1
      cases hf:qaq s all 0 with
      | none=>exact absurd g2 (qbX hf b)
      | some q=>
        have h3:=h _ _ _ g2 (qdg hf)
        have h4:(ix all q).2=a:=Decidable.byContradiction fun hne=>hc ⟨by simp [hf],by simpa [hf] using hne⟩
        rw [h3,h4]
     ·have e1:=List.mem_singleton.1 g1
      have e2:=List.mem_singleton.1 g2
      rw [←e1] at e2
      exact (congrArg Prod.snd e2).symm
    have ih:=qeP m (addL all x.1 x.2) (hn.sub fun z hz=>by
     rcases qdt hz with hz | hz
     ·exact List.mem_append.2 (.inl hz)
     ·rw [hz];simp)
    refine ⟨ih.1,fun hf=>(ih.2 hf).sub fun z hz=>?_⟩
    rcases List.mem_append.1 hz with hz | hz
    ·refine List.mem_append.2 (.inl ?_)
     unfold addL
     split
     ·exact hz
     ·exact List.mem_append.2 (.inl hz)
    ·rcases List.mem_cons.1 hz with hz | hz
     ·rw [hz];exact List.mem_append.2 (.inl (qnP all x.1 x.2))
     ·exact List.mem_append.2 (.inr hz)
theorem ql3 (l:List Nt) (s b:List UInt8): ∀z∈l,z∈addL l s b:=fun z hz=>by
 unfold addL
 split
 ·exact hz
 ·exact List.mem_append.2 (.inl hz)
end Go.Inc

set_option linter.unusedVariables false
set_option maxRecDepth 100000
set_option maxHeartbeats 2000000
namespace Go.Proofs.Ytmjjkpiglbpkhaa
open Go Go.RowKit Go.Inc
abbrev qah:Kd (List UInt8):=(Kd.sl Kd.byte)
theorem ty5b:TyOk Try.prog 5 Kd.byte 1:=⟨⟨Try.t5,_,Try.type5,rfl,rfl,rfl,rfl,rfl⟩,⟨_,Try.underlying5,rfl⟩⟩
def qap:List UInt8:=[0,1,2,2,3,3,3,3,4,4,4,4,4,4,4,4,5,5,5,5,5,5,5,5,5,5,5,5,5,5,5,5,6,6,6,6,6,6,6,6,6,6,6,6,6,6,6,6,6,6,6,6,6,6,6,6,6,6,6,6,6,6,6,6,7,7,7,7,7,7,7,7,7,7,7,7,7,7,7,7,7,7,7,7,7,7,7,7,7,7,7,7,7,7,7,7,7,7,7,7,7,7,7,7,7,7,7,7,7,7,7,7,7,7,7,7,7,7,7,7,7,7,7,7,7,7,7,7,8,8,8,8,8,8,8,8,8,8,8,8,8,8,8,8,8,8,8,8,8,8,8,8,8,8,8,8,8,8,8,8,8,8,8,8,8,8,8,8,8,8,8,8,8,8,8,8,8,8,8,8,8,8,8,8,8,8,8,8,8,8,8,8,8,8,8,8,8,8,8,8,8,8,8,8,8,8,8,8,8,8,8,8,8,8,8,8,8,8,8,8,8,8,8,8,8,8,8,8,8,8,8,8,8,8,8,8,8,8,8,8,8,8,8,8,8,8,8,8,8,8,8,8,8,8,8,8]
abbrev qaN:Kd (List (List UInt8)):=(Kd.sl qah)
theorem ty32:TyOk Try.prog 32 qah 24:=⟨⟨Try.t32,_,Try.type32,rfl,rfl,rfl,rfl,rfl⟩,⟨_,Try.underlying32,rfl⟩⟩
def qf0 (a1_n:Int) (Q:(List UInt8)→Prop):Prop:=
 ((a1_n<0)→False)∧((¬(a1_n<0))→((0<(IntKind.i64.wrap (a1_n - (IntKind.i64.wrap (0 - (([]:List UInt8).length:Int))))))→(0<(IntKind.i64.wrap (a1_n - (IntKind.i64.wrap (0 - (([]:List UInt8).length:Int)))))∧(IntKind.i64.wrap (a1_n - (IntKind.i64.wrap (0 - (([]:List UInt8).length:Int))))) *1≤140737488355328)∧(Q ([]:List UInt8)))∧((¬(0<(IntKind.i64.wrap (a1_n - (IntKind.i64.wrap (0 - (([]:List UInt8).length:Int)))))))→Q ([]:List UInt8)))
theorem qnv {a1_n:Int} (w_0:(Kd.int .i64).wf a1_n) (hp:0≤a1_n∧a1_n≤140737488355328):qf0 a1_n (fun o0=>o0=([]:List UInt8)):=by
 have e1:IntKind.i64.wrap (0 - (([]:List UInt8).length:Int))=0:=by decide
 have e2:IntKind.i64.wrap (a1_n - 0)=a1_n:=by rw [Int.sub_zero];exact qaI w_0
 unfold qf0
 rw [e1,e2]
 exact ⟨fun h=>by omega,fun _=>⟨fun h=>⟨⟨h,by omega⟩,rfl⟩,fun _=>rfl⟩⟩
theorem qjN {w0:World} {K0:Ghost} {a1_n_v:Value} {a1_n:Int} {Q:(List UInt8)→Prop} (hM0:Models w0 K0) (h_a1_n:(Kd.int .i64).V K0 a1_n a1_n_v) (h:qf0 a1_n Q):Calls Try.prog 145 #[(.slice none 0 0),a1_n_v] w0 (fun e w'=> ∃(K':Ghost) (r0:Value) (o0:(List UInt8)),e= .returned r0∧Q o0∧Ext NX w0 K0 w' K'∧Models w' K'∧Own Kd.byte 5 w' K' o0 r0∧(∀g,ob r0=some g→w0.heap.size≤g)):=by
 unfold qf0 at h
 have hR1:Own Kd.byte 5 w0 K0 ([]:List UInt8) (.slice none 0 0):=Own.nil
 obtain rfl:=qa2 h_a1_n
 have hE0:Ext NX w0 K0 w0 K0:=Ext.refl _ _ _
 refine qay fun R hR=>?_
 refine qax (args:=[(.slice none 0 0),(.int .i64 a1_n)]) Try.func145 rfl (Nat.le_of_ble_eq_true rfl) ?_
 refine qaf ?_
 refine qac ?_
 have hR2:Own Kd.byte 5 w0 K0 ([]:List UInt8) (.slice none 0 0):=Own.nil
 refine qaa (.slice none 0 0) (R_as rfl) rfl rfl ?_
 refine qaj ?_
 refine qaf ?_
 refine qaf ?_
 refine qac ?_
 refine qaa (.int .i64 a1_n) (R_mv rfl) rfl rfl ?_
 refine qaa (.bool (decide (a1_n<0))) (qf5 rfl rfl) rfl rfl ?_
 refine qaj ?_
 refine qau (decide (a1_n<0)) rfl (fun hc3=>?_) (fun hc3=>?_)
 ·have hd3:a1_n<0:=qel hc3
  have h:=h.1 hd3
  refine qac ?_
  exact h.elim
 ·have hd3: ¬(a1_n<0):=qek hc3
  have h:=h.2 hd3
  refine qaE ?_
  refine qaf ?_
  refine qaf ?_
  refine qac ?_
  refine qaa (.int .i64 a1_n) (R_mv rfl) rfl rfl ?_
  refine qaa (.slice none 0 0) (R_mv rfl) rfl rfl ?_
  refine qaa (.int .i64 0) (qo3 rfl Try.underlying32) rfl rfl ?_
  refine qaa (.slice none 0 0) (R_mv rfl) rfl rfl ?_
  refine qaa (.int .i64 (([]:List UInt8).length:Int)) (qdr rfl hR1.V Try.underlying32) rfl rfl ?_
  refine qaa (.int .i64 (IntKind.i64.wrap (0 - (([]:List UInt8).length:Int)))) (qnI rfl rfl) rfl rfl ?_
  refine qaa (.int .i64 (IntKind.i64.wrap (a1_n - (IntKind.i64.wrap (0 - (([]:List UInt8).length:Int)))))) (qnI rfl rfl) rfl rfl ?_
  refine qaa (.int .i64 (IntKind.i64.wrap (a1_n - (IntKind.i64.wrap (0 - (([]:List UInt8).length:Int)))))) (R_as rfl) rfl rfl ?_
  refine qaj ?_
  refine qaf ?_
  refine qac ?_
  refine qaa (.int .i64 (IntKind.i64.wrap (a1_n - (IntKind.i64.wrap (0 - (([]:List UInt8).length:Int)))))) (R_mv rfl) rfl rfl ?_
  refine qaa (.bool (decide (0<(IntKind.i64.wrap (a1_n - (IntKind.i64.wrap (0 - (([]:List UInt8).length:Int)))))))) (qo9 rfl rfl) rfl rfl ?_
  refine qaj ?_
  refine qau (decide (0<(IntKind.i64.wrap (a1_n - (IntKind.i64.wrap (0 - (([]:List UInt8).length:Int))))))) rfl (fun hc4=>?_) (fun hc4=>?_)
  ·have hd4:0<(IntKind.i64.wrap (a1_n - (IntKind.i64.wrap (0 - (([]:List UInt8).length:Int))))):=qel hc4
   have h:=h.1 hd4
   refine qac ?_
   refine qaa (.slice none 0 0) (R_mv rfl) rfl rfl ?_
   refine qaa (.slice none 0 0) (R_mv rfl) rfl rfl ?_
   refine qaa (.int .i64 0) (qo3 rfl Try.underlying32) rfl rfl ?_
   refine qaa (.slice none 0 0) (qlX rfl rfl Try.underlying32 ty5b) rfl rfl ?_
   refine qaa (.int .i64 (IntKind.i64.wrap (a1_n - (IntKind.i64.wrap (0 - (([]:List UInt8).length:Int)))))) (R_mv rfl) rfl rfl ?_
   obtain ⟨hp7,h⟩:=h
   refine qaw rfl rfl (qqJ (qpr hM0 rfl rfl Try.underlying32 Try.underlying3 ty5b rfl hp7.1 hp7.2) ?_)
   rintro v6 w6 hF6 hS6 hM6 hg6
   have hE6:=hE0.andN hS6
   have hf6: ∀g,ob v6=some g→w0.heap.size≤g:=fun g hg=>Nat.le_trans hE0.size (hg6 g hg)
   refine qaa (.slice none 0 0) (R_mv rfl) rfl rfl ?_
   refine qaa (.int .i64 (([]:List UInt8).length:Int)) (qdr rfl (hR1.V.mono hS6.le) Try.underlying32) rfl rfl ?_
   refine qaw rfl rfl (qqI (qpv hM6 rfl hF6 rfl Try.underlying32 ty5b) ?_)
   rintro v8 w8 K8 (hO8:Own Kd.byte 5 w8 K8 ([]:List UInt8) v8) hS8 hM8 hob8
   have hE8:=hE6.comp hS8 (fun c hx hlt=>absurd hlt (Nat.not_lt.2 (hf6 c hx)))
   have hf8: ∀g,ob v8=some g→w0.heap.size≤g:=fun g hg=>hf6 g (hob8 g hg)
   refine qaa v8 (R_as rfl) rfl rfl ?_
   refine qaj ?_
   refine qaf ?_
   refine qac ?_
   refine qaa v8 (R_mv rfl) rfl rfl ?_
   refine qaa v8 (R_as rfl) rfl rfl ?_
   refine qaj ?_
   refine qa4 ?_
   exact qaC hR (v:=v8) (qcb rfl rfl) ⟨K8,v8,([]:List UInt8),rfl,h,hE8,hM8,hO8,hf8⟩
  ·have hd4: ¬(0<(IntKind.i64.wrap (a1_n - (IntKind.i64.wrap (0 - (([]:List UInt8).length:Int)))))):=qek hc4
   have h:=h.2 hd4
   refine qaE ?_
   refine qaf ?_
   refine qac ?_
   refine qaa (.slice none 0 0) (R_mv rfl) rfl rfl ?_
   refine qaa (.slice none 0 0) (R_as rfl) rfl rfl ?_
   refine qaj ?_
   refine qa4 ?_
   exact qaC hR (v:=(.slice none 0 0)) (qcb rfl rfl) ⟨K0,(.slice none 0 0),([]:List UInt8),rfl,h,hE0,hM0,hR1,(fun g hg=>nilS hg)⟩
theorem qoO {w0:World} {K0:Ghost} {a1_n_v:Value} {a1_n:Int} (hM0:Models w0 K0) (h_a1_n:(Kd.int .i64).V K0 a1_n a1_n_v) (hp:0≤a1_n∧a1_n≤140737488355328):Calls Try.prog 145 #[(.slice none 0 0),a1_n_v] w0 (fun e w'=> ∃(K':Ghost) (r0:Value),e= .returned r0∧Ext NX w0 K0 w' K'∧Models w' K'∧Own Kd.byte 5 w' K' ([]:List UInt8) r0∧(∀g,ob r0=some g→w0.heap.size≤g)):=by
 refine (qjN hM0 h_a1_n (qnv h_a1_n.wf hp)).mono ?_
 rintro _ w' ⟨K',r0,o0,rfl,rfl,hF⟩
 exact ⟨K',r0,rfl,hF⟩
def qdp (a0_slices:(List (List UInt8))) (Q:(List UInt8)→Prop):Prop:=
 ∃(I3:Int→Int→Prop) (μ3:Int→Int→Nat),I3 0 0∧∀(size3:Int) (i3:Int),I3 size3 i3→((Kd.int .i64).wf size3)→((Kd.int .i64).wf i3)→(((i3<(a0_slices.length:Int))→(0≤i3∧i3<(a0_slices.length:Int))∧((((IntKind.i64.wrap (size3+((ix a0_slices i3).length:Int)))<0)→False)∧((¬((IntKind.i64.wrap (size3+((ix a0_slices i3).length:Int)))<0))→I3 (IntKind.i64.wrap (size3+((ix a0_slices i3).length:Int))) (i3+1)∧μ3 (IntKind.i64.wrap (size3+((ix a0_slices i3).length:Int))) (i3+1)<μ3 size3 i3)))∧((¬(i3<(a0_slices.length:Int)))→(0≤size3∧size3≤140737488355328)∧((qah.wf ([]:List UInt8))→(∃(I17:(List UInt8)→Int→Prop) (μ17:(List UInt8)→Int→Nat),I17 ([]:List UInt8) 0∧∀(newslice17:(List UInt8)) (i17:Int),I17 newslice17 i17→(qah.wf newslice17)→((Kd.int .i64).wf i17)→(((i17<(a0_slices.length:Int))→(0≤i17∧i17<(a0_slices.length:Int))∧(((newslice17.length+(ix a0_slices i17).length) *1≤140737488355328)∧(I17 (newslice17++(ix a0_slices i17)) (i17+1)∧μ17 (newslice17++(ix a0_slices i17)) (i17+1)<μ17 newslice17 i17)))∧((¬(i17<(a0_slices.length:Int)))→Q newslice17))))))
theorem qjH {a0_slices:(List (List UInt8))} (w_0:qaN.wf a0_slices) (hp:a0_slices.flatten.length≤140737488355328):qdp a0_slices (fun o0=>o0=a0_slices.flatten):=by
 have hst: ∀j:Nat,(j:Int)<(a0_slices.length:Int)→(a0_slices.take j).flatten.length+(ix a0_slices (j:Int)).length≤140737488355328:=fun j hj=>by
  have h1:=qgX (l:=a0_slices) (j+1)
  rw [qeT hj,List.length_append] at h1
  omega
 unfold qdp
 refine ⟨fun s i=> ∃j:Nat,i=(j:Int)∧j≤a0_slices.length∧s=((a0_slices.take j).flatten.length:Int),fun _ i=>a0_slices.length - i.toNat,⟨0,rfl,by omega,by simp⟩,?_⟩
 rintro s i ⟨j,rfl,hj,rfl⟩ _ _
 refine ⟨fun hlt=>⟨⟨by omega,hlt⟩,?_⟩,fun hge=>?_⟩
 ·have h1:=hst j hlt
  have e:IntKind.i64.wrap (((a0_slices.take j).flatten.length:Int)+((ix a0_slices (j:Int)).length:Int))=((a0_slices.take (j+1)).flatten.length:Int):=by
   rw [qaI (wf64 (by omega) (by omega)),qeT hlt,List.length_append]
   omega
  rw [e]
  refine ⟨fun h=>by omega,fun _=>⟨⟨j+1,by omega,by omega,rfl⟩,?_⟩⟩
  show a0_slices.length - ((j:Int)+1).toNat<a0_slices.length - (j:Int).toNat
  omega
 ·have h1:=qgX (l:=a0_slices) j
  refine ⟨⟨by omega,by omega⟩,fun _=>⟨fun out i=> ∃j:Nat,i=(j:Int)∧j≤a0_slices.length∧out=(a0_slices.take j).flatten,fun _ i=>a0_slices.length - i.toNat,⟨0,rfl,by omega,by simp⟩,?_⟩⟩
  rintro out i ⟨m,rfl,hm,rfl⟩ _ _
  refine ⟨fun hlt=>⟨⟨by omega,hlt⟩,?_,⟨m+1,by omega,by omega,(qeT hlt).symm⟩,?_⟩,fun hge=>?_⟩
  ·have:=hst m hlt
   omega
  ·show a0_slices.length - ((m:Int)+1).toNat<a0_slices.length - (m:Int).toNat
   omega
  ·have:m=a0_slices.length:=by omega
   subst this
   rw [List.take_length]
theorem qhu {w0:World} {K0:Ghost} {a0_slices_v:Value} {a0_slices:(List (List UInt8))} {Q:(List UInt8)→Prop} (hM0:Models w0 K0) (h_a0_slices:qaN.V K0 a0_slices a0_slices_v) (h:qdp a0_slices Q):Calls Try.prog 134 #[a0_slices_v] w0 (fun e w'=> ∃(K':Ghost) (r0:Value) (o0:(List UInt8)),e= .returned r0∧Q o0∧Ext NX w0 K0 w' K'∧Models w' K'∧Own Kd.byte 5 w' K' o0 r0∧(∀g,ob r0=some g→w0.heap.size≤g)):=by
 unfold qdp at h
 have hE0:Ext NX w0 K0 w0 K0:=Ext.refl _ _ _
 refine qay fun R hR=>?_
 refine qax (args:=[a0_slices_v]) Try.func134 rfl (Nat.le_of_ble_eq_true rfl) ?_
 refine qaf ?_
 refine qac ?_
 have hR2:Own Kd.byte 5 w0 K0 ([]:List UInt8) (.slice none 0 0):=Own.nil
 refine qaa (.slice none 0 0) (R_as rfl) rfl rfl ?_
 refine qaj ?_
 refine qaf ?_
 refine qac ?_
 refine qaa (.int .i64 0) (R_as rfl) rfl rfl ?_
 refine qaj ?_
 refine qaf ?_
 refine qaf ?_
 refine qac ?_
 refine qaa a0_slices_v (R_mv rfl) rfl rfl ?_
 refine qaa (.int .i64 (a0_slices.length:Int)) (qdr rfl h_a0_slices Try.underlying96) rfl rfl ?_
 refine qaa (.int .i64 0) (R_mv rfl) rfl rfl ?_
 refine qaj ?_
 refine qa0 ?_
 obtain ⟨I3,μ3,h0,h⟩:=h
 refine qcK (ι:=Int×Int) [3,5,11,12,13,14,15,16,17,18,19,20,21,22] (fun s l w=> ∃K,I3 s.1 s.2∧l=[(3,(.int .i64 s.1)),(11,(.int .i64 s.2))]∧Ext NX w0 K0 w K∧Models w K∧(Kd.int .i64).wf s.1∧(Kd.int .i64).wf s.2) (fun s=>μ3 s.1 s.2) (0,0) [(3,(.int .i64 0)),(11,(.int .i64 0))]
  ⟨K0,h0,rfl,Ext.refl _ _ _,hM0,(show (Kd.int .i64).wf 0 from by constructor<;>decide),(show (Kd.int .i64).wf 0 from by constructor<;>decide)⟩ (by repeat (first | exact trivial | refine ⟨rfl,?_⟩)) ?_
 rintro ⟨size3,i3⟩ l σ3 w4 ⟨K4,hI,rfl,hX4,hM4,hw3_3,hw3_11⟩
 dsimp only at hI hw3_3 hw3_11
 have hE4:=hE0.andN hX4
 have h:=h size3 i3 hI hw3_3 hw3_11
 refine qaf ?_
 refine qac ?_
 refine qaa (.bool (decide (i3<(a0_slices.length:Int)))) (qf5 rfl rfl) rfl rfl ?_
 refine qaj ?_
 refine qaf ?_
 refine qau (decide (i3<(a0_slices.length:Int))) rfl (fun hc5=>?_) (fun hc5=>?_)
 ·have hd5:i3<(a0_slices.length:Int):=qel hc5
  have h:=h.1 hd5
  refine qaE ?_
  refine qaf ?_
  refine qa0 ?_
  refine qaf ?_
  refine qac ?_
  obtain ⟨hp7,h⟩:=h
  refine WL_P (qej rfl (h_a0_slices.mono hX4.le) rfl Try.underlying96 ty32 hp7.1 hp7.2) rfl rfl ?_
  rintro b6 o6 hP6
  refine WL_L hM4 (S_ld rfl ty32 hP6) rfl rfl ?_
  rintro v9 (hV9:qah.V _ (ix a0_slices i3) _)
  refine qaa v9 (R_as rfl) rfl rfl ?_
  refine qaj ?_
  refine qaf ?_
  refine qac ?_
  refine qaa (.int .i64 size3) (R_mv rfl) rfl rfl ?_
  refine qaa v9 (R_mv rfl) rfl rfl ?_
  refine qaa (.int .i64 ((ix a0_slices i3).length:Int)) (qdr rfl hV9 Try.underlying32) rfl rfl ?_
  refine qaa (.int .i64 (IntKind.i64.wrap (size3+((ix a0_slices i3).length:Int)))) (qje rfl rfl) rfl rfl ?_
  refine qaa (.int .i64 (IntKind.i64.wrap (size3+((ix a0_slices i3).length:Int)))) (R_as rfl) rfl rfl ?_
  refine qaj ?_
  refine qaf ?_
  refine qac ?_
  refine qaa (.int .i64 (IntKind.i64.wrap (size3+((ix a0_slices i3).length:Int)))) (R_mv rfl) rfl rfl ?_
  refine qaa (.bool (decide ((IntKind.i64.wrap (size3+((ix a0_slices i3).length:Int)))<0))) (qf5 rfl rfl) rfl rfl ?_
  refine qaj ?_
  refine qau (decide ((IntKind.i64.wrap (size3+((ix a0_slices i3).length:Int)))<0)) rfl (fun hc11=>?_) (fun hc11=>?_)
  ·have hd11:(IntKind.i64.wrap (size3+((ix a0_slices i3).length:Int)))<0:=qel hc11
   have h:=h.1 hd11
   refine qac ?_
   exact h.elim
  ·have hd11: ¬((IntKind.i64.wrap (size3+((ix a0_slices i3).length:Int)))<0):=qek hc11
   have h:=h.2 hd11
   refine qaE ?_
   refine qac ?_
   refine qaa (.int .i64 (i3+1)) (qjf rfl rfl hw3_11 hd5 (qbj (h_a0_slices).wf.1)) rfl rfl ?_
   refine qaa (.int .i64 (i3+1)) (R_mv rfl) rfl rfl ?_
   refine qaj ?_
   refine qeC.mk ((IntKind.i64.wrap (size3+((ix a0_slices i3).length:Int))),(i3+1)) [(3,(.int .i64 (IntKind.i64.wrap (size3+((ix a0_slices i3).length:Int))))),(11,(.int .i64 (i3+1)))] ?_ ?_ ?_ ?_
   rotate_left
   ·exact h.2
   ·repeat (first | exact Off.lay0 rfl | refine Off.updO ?_ rfl _ | refine Off.updN ?_ _ | refine Off.lay ?_ rfl)
   ·repeat (first | exact trivial | refine ⟨rfl,?_⟩)
   exact ⟨K4,h.1,rfl,((Ext.refl _ _ _).andN hX4),hM4,(qb5 _ _),(qfF hw3_11 hd5 (qbj (h_a0_slices).wf.1))⟩
 ·have hd5: ¬(i3<(a0_slices.length:Int)):=qek hc5
  have h:=h.2 hd5
  refine qcy ?_
  refine qaf ?_
  refine qac ?_
  refine qaa (.int .i64 size3) (R_mv rfl) rfl rfl ?_
  have hR12:Own Kd.byte 5 w4 K4 ([]:List UInt8) (.slice none 0 0):=Own.nil
  have hR13:=(hR2.extN hX4)
  obtain ⟨hp15,h⟩:=h
  refine qaw rfl rfl (qaL (qbn Try.call145 rfl) ((qoO hM4 (qeo hw3_3) hp15).mono ?_))
  rintro _ w14 ⟨K14,v14_0,rfl,hS14,hM14,hO14_0,hg14_0⟩
  refine ⟨v14_0,rfl,?_⟩
  have hE14:=hE4.andN hS14
  have h:=h hO14_0.wf
  refine qaa v14_0 (R_as rfl) rfl rfl ?_
  refine qaj ?_
  refine qaf ?_
  refine qaf ?_
  refine qac ?_
  refine qaa a0_slices_v (R_mv rfl) rfl rfl ?_
  refine qaa (.int .i64 (a0_slices.length:Int)) (qdr rfl (h_a0_slices.mono (hX4.le.trans hS14.le)) Try.underlying96) rfl rfl ?_
  refine qaa (.int .i64 0) (R_mv rfl) rfl rfl ?_
  refine qaj ?_
  refine qa0 ?_
  obtain ⟨I17,μ17,h0,h⟩:=h
  refine qcK (ι:=(List UInt8)×Int) [6,8,27,28,29,30,31,32,33,34] (fun s l w=> ∃K u6,I17 s.1 s.2∧l=[(6,u6),(27,(.int .i64 s.2))]∧Ext (fun c=>ob v14_0=some c) w14 K14 w K∧Models w K∧(Kd.int .i64).wf s.2∧Own Kd.byte 5 w K s.1 u6∧(∀g,ob u6=some g→ob v14_0=some g∨w14.heap.size≤g)) (fun s=>μ17 s.1 s.2) (([]:List UInt8),0) [(6,v14_0),(27,(.int .i64 0))]
   ⟨K14,v14_0,h0,rfl,Ext.refl _ _ _,hM14,(show (Kd.int .i64).wf 0 from by constructor<;>decide),hO14_0,(fun g hg=>(.inl hg))⟩ (by repeat (first | exact trivial | refine ⟨rfl,?_⟩)) ?_
  rintro ⟨newslice17,i17⟩ l σ17 w18 ⟨K18,u6_17,hI,rfl,hX18,hM18,hw17_27,hL17_u6,ho17_u6⟩
  dsimp only at hI hw17_27 hL17_u6 ho17_u6
  have hE18:=hE14.comp hX18 (fun c hx hlt=>(fun g hg hlt=>absurd hlt (Nat.not_lt.2 ((fun g hg=>Nat.le_trans hE4.size (hg14_0 g hg)) g hg))) c hx hlt)
  have hR19:=(hR13.extN hS14)
  have hR20:=(hR19.ext hX18 (fun g hg hx=>(fun g hg hx=>(fun g hg hx=>absurd (hR13.lt _ hx) (Nat.not_lt.2 (hg14_0 g hg))) g hx hg) g hg hx))
  have hR21:=(hR12.extN hS14)
  have hR22:=(hR21.ext hX18 (fun g hg hx=>(fun g hg hx=>(fun g hg hx=>absurd (hR12.lt _ hx) (Nat.not_lt.2 (hg14_0 g hg))) g hx hg) g hg hx))
  have hR23:=(hR13.extN hS14)
  have hR24:=(hR12.extN hS14)
  have h:=h newslice17 i17 hI hL17_u6.wf hw17_27
  refine qaf ?_
  refine qac ?_
  refine qaa (.bool (decide (i17<(a0_slices.length:Int)))) (qf5 rfl rfl) rfl rfl ?_
  refine qaj ?_
  refine qaf ?_
  refine qau (decide (i17<(a0_slices.length:Int))) rfl (fun hc25=>?_) (fun hc25=>?_)
  ·have hd25:i17<(a0_slices.length:Int):=qel hc25
   have h:=h.1 hd25
   refine qaE ?_
   refine qaf ?_
   refine qa0 ?_
   refine qaf ?_
   refine qac ?_
   obtain ⟨hp27,h⟩:=h
   refine WL_P (qej rfl (h_a0_slices.mono (hX4.le.trans (hS14.le.trans hX18.le))) rfl Try.underlying96 ty32 hp27.1 hp27.2) rfl rfl ?_
   rintro b26 o26 hP26
   refine WL_L hM18 (S_ld rfl ty32 hP26) rfl rfl ?_
   rintro v29 (hV29:qah.V _ (ix a0_slices i17) _)
   refine qaa v29 (R_as rfl) rfl rfl ?_
   refine qaj ?_
   refine qac ?_
   refine qaa u6_17 (R_mv rfl) rfl rfl ?_
   refine qaa v29 (R_mv rfl) rfl rfl ?_
   obtain ⟨hp32,h⟩:=h
   refine qaw rfl rfl (St_S (qnL hM18 rfl hL17_u6 rfl hV29 Try.underlying32 ty5b rfl hp32) ?_)
   rintro v31 w31 K31 hO31 hS31 hM31 hob31
   have hE31:=hE18.comp hS31 (fun c hx hlt=>(fun g hg hlt=>absurd hlt (Nat.not_lt.2 ((fun g hg=>(ho17_u6 g hg).elim (fun hx=>(fun g hg=>Nat.le_trans hE4.size (hg14_0 g hg)) g hx) (fun hx=>Nat.le_trans hE14.size hx)) g hg))) c hx hlt)
   have hR33:=(hR20.ext hS31 (fun g hg hx=>(fun g hg hx=>(fun g hg hy=>(ho17_u6 g hg).elim (fun hz=>(fun g hg hx=>absurd (hR13.lt _ hx) (Nat.not_lt.2 (hg14_0 g hg))) g hz hy) (fun hz=>absurd (hR23.lt _ hy) (Nat.not_lt.2 hz))) g hx hg) g hg hx))
   have hR34:=(hR22.ext hS31 (fun g hg hx=>(fun g hg hx=>(fun g hg hy=>(ho17_u6 g hg).elim (fun hz=>(fun g hg hx=>absurd (hR12.lt _ hx) (Nat.not_lt.2 (hg14_0 g hg))) g hz hy) (fun hz=>absurd (hR24.lt _ hy) (Nat.not_lt.2 hz))) g hx hg) g hg hx))
   have hf31: ∀g,ob v31=some g→w0.heap.size≤g:=fun g hg=>by rcases hob31 with hq | hq<;>rw [hq] at hg;exact (fun g hg=>(ho17_u6 g hg).elim (fun hx=>(fun g hg=>Nat.le_trans hE4.size (hg14_0 g hg)) g hx) (fun hx=>Nat.le_trans hE14.size hx)) g hg;cases hg;exact hE18.size
   refine qaa v31 (R_as rfl) rfl rfl ?_
   refine qaj ?_
   refine qac ?_
   refine qaa (.int .i64 (i17+1)) (qjf rfl rfl hw17_27 hd25 (qbj (h_a0_slices).wf.1)) rfl rfl ?_
   refine qaa (.int .i64 (i17+1)) (R_mv rfl) rfl rfl ?_
   refine qaj ?_
   refine qeC.mk ((newslice17++(ix a0_slices i17)),(i17+1)) [(6,v31),(27,(.int .i64 (i17+1)))] ?_ ?_ ?_ ?_
   rotate_left
   ·exact h.2
   ·repeat (first | exact Off.lay0 rfl | refine Off.updO ?_ rfl _ | refine Off.updN ?_ _ | refine Off.lay ?_ rfl)
   ·repeat (first | exact trivial | refine ⟨rfl,?_⟩)
   exact ⟨K31,v31,h.1,rfl,(((Ext.refl _ _ _).comp hX18 (fun c hx hlt=>(hx))).comp hS31 (fun c hx hlt=>((((ho17_u6 c hx).elim (fun hz=>(.inl hz)) (fun hz=> .inr (Nat.le_trans (Nat.le_refl _) hz))):ob v14_0=some c∨w14.heap.size≤c).elim (fun hx=>(hx)) (fun hz=>absurd hlt (Nat.not_lt.2 hz))))),hM31,(qfF hw17_27 hd25 (qbj (h_a0_slices).wf.1)),hO31,(fun g hg=>(by have hg:ob v31=some g:=hg;rcases hob31 with hq | hq<;>rw [hq] at hg;exact ((ho17_u6 g hg).elim (fun hz=>(.inl hz)) (fun hz=> .inr (Nat.le_trans (Nat.le_refl _) hz)));cases hg;exact .inr hX18.size))⟩
  ·have hd25: ¬(i17<(a0_slices.length:Int)):=qek hc25
   have h:=h.2 hd25
   refine qcy ?_
   refine qaf ?_
   refine qac ?_
   refine qaa u6_17 (R_mv rfl) rfl rfl ?_
   refine qaa u6_17 (R_as rfl) rfl rfl ?_
   refine qaj ?_
   refine qa4 ?_
   exact qaC hR (v:=u6_17) (qcb rfl rfl) ⟨K18,u6_17,newslice17,rfl,h,hE18,hM18,hL17_u6,(fun g hg=>(ho17_u6 g hg).elim (fun hx=>(fun g hg=>Nat.le_trans hE4.size (hg14_0 g hg)) g hx) (fun hx=>Nat.le_trans hE14.size hx))⟩
theorem qlK {w0:World} {K0:Ghost} {a0_slices_v:Value} {a0_slices:(List (List UInt8))} (hM0:Models w0 K0) (h_a0_slices:qaN.V K0 a0_slices a0_slices_v) (hp:a0_slices.flatten.length≤140737488355328):Calls Try.prog 134 #[a0_slices_v] w0 (fun e w'=> ∃(K':Ghost) (r0:Value),e= .returned r0∧Ext NX w0 K0 w' K'∧Models w' K'∧Own Kd.byte 5 w' K' a0_slices.flatten r0∧(∀g,ob r0=some g→w0.heap.size≤g)):=by
 refine (qhu hM0 h_a0_slices (qjH h_a0_slices.wf hp)).mono ?_
 rintro _ w' ⟨K',r0,o0,rfl,rfl,hF⟩
 exact ⟨K',r0,rfl,hF⟩
end Go.Proofs.Ytmjjkpiglbpkhaa

set_option linter.unusedVariables false
set_option maxRecDepth 100000
set_option maxHeartbeats 2000000
namespace Go.Proofs.Ytmjjkpiglbpkhaa
open Go Go.RowKit Go.Inc
noncomputable def qii:Ctr:=⟨[.v (.sl (.sl .byte))],[.ow 5 .byte],some (fun a=>(fun (a0_slices:List (List UInt8))=>(a0_slices.flatten.length≤140737488355328:Prop)) a.1),fun a=>(fun (a0_slices:List (List UInt8))=>((a0_slices.flatten,()),(()))) a.1⟩
theorem qlL:qii.valid Try.prog 134:=qqO (k:= .byte) (fun _=>rfl) fun a hp θ vs w K hM hv=>by
 obtain ⟨v,vs,rfl,h1,h2⟩:=hv
 have h2':vs=[]:=h2
 subst h2'
 exact qlK hM (qcG (t:= .sl (.sl .byte)) h1 rfl) hp
end Go.Proofs.Ytmjjkpiglbpkhaa

set_option linter.unusedVariables false
namespace Go.Inc
open Go Go.RowKit
section
variable {P:Program} {f:FuncId} {pm:List PM} {e:Nat}
end
end Go.Inc

set_option linter.unusedVariables false
namespace Go.Inc
open Go Go.RowKit
section
variable {P:Program} {f:FuncId} {pm:List PM} {rm:List RM} {e:Nat} {t:Ty}
end
end Go.Inc

set_option linter.unusedVariables false
namespace Go.Inc
open Go Go.RowKit
def Yields (P:Program) (l:Nat) (v:Value) (W:World) (R:World→Prop):Prop:=YieldAt Fence.wide 0 P l #[v] W fun e W'=>e= .returned (.bool true)∧R W'
def Iter (P:Program) (f:Nat) (lb:Array Value) (L:List Value) (B:Nat→Prop) (W0:World) (K0:Ghost):Prop:=
 ∀(l:Nat) (J:Nat→World→Ghost→Prop) (W:World) (K:Ghost),Ext (fun b=> ¬B b) W0 K0 W K→Models W K→
  (∀j W K W' K',J j W K→Ext B W K W' K'→Models W' K'→J j W' K')→
  (∀j x W K,L[j]?=some x→J j W K→Models W K→Yields P l x W fun W'=> ∃K',J (j+1) W' K'∧Models W' K'∧Ext (fun b=> ¬B b) W K W' K')→
  J 0 W K→Calls P f (#[.func (.yield l) #[] #[]]++lb) W fun e W'=>(∃v,e= .returned v)∧∃K',J L.length W' K'∧Models W' K'
def marks:Option Nat→List Deferred
 | none=> []
 | some D=> [{ target:= .collected D,args:= #[] }]
def WF (P:Program) (n:Nat) (c:Code) (Q:Option Nat→Post) (ρ:Env) (w:World):Prop:=∀a,Fits n [] ρ a→c.wpIn Fence.wide 0 P (fun e a w=> ∃D ρ',Fits n (marks D) ρ' a∧Q D e ρ' w) a w
theorem WF.mono {P:Program} {n:Nat} {c:Code} {Q Q':Option Nat→Post} {ρ:Env} {w:World} (h:WF P n c Q ρ w) (hq: ∀D e ρ w,Q D e ρ w→Q' D e ρ w):WF P n c Q' ρ w:=fun a ha=>wpIn_mono (h a ha) fun e a w ⟨D,ρ',hf,h⟩=>⟨D,ρ',hf,hq D e ρ' w h⟩
end Go.Inc

set_option linter.unusedVariables false
namespace Go.Inc
open Go Go.RowKit
section
variable {G G2:Glob} {s:St} {θ:Th} {ρ:Env} {w w':World} {K K':Ghost}
theorem Rel.base (h:Rel G s θ ρ w K) (hE:Ext G2.X G2.w0 G2.K0 w K) (h1:G2.Kb=G.Kb) (h2:G2.θb=G.θb) (h3:G2.nb=G.nb) (h4:G2.frz=G.frz) (ho: ∀r e,s.res r=some e→e.org.ok G2 (θ.fp r)):Rel G2 s θ ρ w K:=
 ⟨h.mod,hE,by rw [h1];exact h.kle,by rw [h2,h3];exact h.old,by rw [h3];exact h.nbx,fun r e he=>by rw [h4] at he;rw [h2];exact h.frz r e he,h.env,fun r e he=>⟨(h.res r e he).1,(h.res r e he).2.1,ho r e he⟩,h.sep⟩
end
def Caps (w:World) (K:Ghost):List Int→List Value→(Nat→Prop)→Prop
 | [],[],B=> ∀b,¬B b
 | x::xs,v::vs,B=> ∃(b:Nat) (pre post:List Value) (B':Nat→Prop),v= .pointer (some ⟨b,pre.length,none⟩)∧Bx (Ty.kd (.int .i64)) w K b pre post x∧¬B' b∧Caps w K xs vs B'∧∀g,B g↔g=b∨B' g
 | _,_,_=>False
structure ICtr where
 pre:List Int→Prop
 L:List Int→List Int
def ICtr.valid (P:Program) (f:Nat) (C:ICtr):Prop:=∀xs,C.pre xs→(∀x∈C.L xs,(Kd.int .i64).wf x)∧∀(vs:List Value) (B:Nat→Prop) (w:World) (K:Ghost),Models w K→Caps w K xs vs B→Iter P f vs.toArray ((C.L xs).map fun x=> .int .i64 x) B w K
end Go.Inc

set_option linter.unusedVariables false
namespace Go.Inc
open Go Go.RowKit
section
variable {P:Program} {n p:Nat}
end
end Go.Inc

set_option linter.unusedVariables false
namespace Go.Inc
open Go Go.RowKit
section
variable {X:Fx} {its:List (Nat×ICtr)} {ex:Nat→Code→St→(Exit→St→Prop)→Prop} {n:Nat} {G:Glob}
end
end Go.Inc

set_option linter.unusedVariables false
namespace Go.Inc
open Go Go.RowKit
section
variable {X:Fx} {its:List (Nat×ICtr)} {f:Nat} {C:Ctr}
end
end Go.Inc

set_option linter.unusedVariables false
namespace Go.Inc
open Go Go.RowKit
section
variable {P:Program} {n:Nat} {ops:Array Oper} {Q:Post} {ρ:Env} {w:World} {o:Oper} {i:Nat} {rest:List Nat}
end
structure Held (B:Nat→Prop) (θ0:Th) (m:Nat):Prop where
 key: ∀r,r<m→∃b,θ0.key r= .pointer (some ⟨b,(θ0.sur r).1.length,none⟩)∧B b∧∀g,θ0.fp r g↔g=b
 sep: ∀r r',r<m→r'<m→r≠r'→∀g,θ0.fp r g→¬θ0.fp r' g
section
variable {X:Fx} {fuel n:Nat} {L:List Int} {l m:Nat} {B:Nat→Prop} {θ0:Th} {Kb:Ghost} {J:Nat→World→Ghost→Prop}
variable (hX:X.ok) (hB:Held B θ0 m) (hJ: ∀j W K W' K',J j W K→Ext B W K W' K'→Models W' K'→J j W' K')
 (hY: ∀j x W K,L[j]?=some x→J j W K→Models W K→Yields X.c.P l (.int .i64 x) W fun W'=> ∃K',J (j+1) W' K'∧Models W' K'∧Ext (fun b=> ¬B b) W K W' K')
include hX hB hJ hY
end
end Go.Inc

set_option linter.unusedVariables false
namespace Go.Inc
open Go Go.RowKit
end Go.Inc

set_option linter.unusedVariables false
namespace Go.Inc
open Go
abbrev Sm:=List UInt8
def half (n:Nat):Nat:=if n<2 then 0 else 2^Nat.log2 (n - 1)
theorem qcS {n:Nat} (h:2≤n):1≤half n:=by
 unfold half
 rw [if_neg (by omega)]
 exact Nat.one_le_two_pow
theorem qdZ {n:Nat} (h:2≤n):half n<n:=by
 unfold half
 rw [if_neg (by omega)]
 have:=Nat.log2_self_le (n:=n - 1) (by omega)
 omega
def qcH (l:List Sm):Sm:=
 if h:l.length<2 then (match l with
  | []=>qam 2 []
  | x::_=>x)
 else qam 2 [qcH (l.take (half l.length)),qcH (l.drop (half l.length))]
termination_by l.length
decreasing_by
 all_goals
  have h1:=qcS (n:=l.length) (by omega)
  have h2:=qdZ (n:=l.length) (by omega)
  simp only [List.length_take,List.length_drop]
  omega
theorem qlc:qcH []=qam 2 []:=by rw [qcH];rfl
theorem qld (x:Sm):qcH [x]=x:=by rw [qcH];rfl
theorem qle {l:List Sm} (h:2≤l.length):qcH l=qam 2 [qcH (l.take (half l.length)),qcH (l.drop (half l.length))]:=by
 rw [qcH,dif_neg (by omega)]
theorem qhe: ∀ {l:List Sm},(∀x∈l,x.length=32)→(qcH l).length=32
 | [],_=>by rw [qlc];exact qcd _ _
 | [x],h=>by rw [qld];exact h x (by simp)
 | x::y::r,_=>by rw [qle (by simp)];exact qcd _ _
def qbZ (b:qav) (l:List Sm):qav:=
 if h:l.length<2 then (if l.length=0 then qaD b 2 [] else b)
 else qaD (qbZ (qbZ b (l.take (half l.length))) (l.drop (half l.length))) 2 [qcH (l.take (half l.length)),qcH (l.drop (half l.length))]
termination_by l.length
decreasing_by
 all_goals
  have h1:=qcS (n:=l.length) (by omega)
  have h2:=qdZ (n:=l.length) (by omega)
  simp only [List.length_take,List.length_drop]
  omega
theorem qcX (b:qav):qbZ b []=qaD b 2 []:=by rw [qbZ];rfl
theorem qcY (b:qav) (x:Sm):qbZ b [x]=b:=by rw [qbZ];rfl
theorem qcZ (b:qav) {l:List Sm} (h:2≤l.length):qbZ b l=qaD (qbZ (qbZ b (l.take (half l.length))) (l.drop (half l.length))) 2 [qcH (l.take (half l.length)),qcH (l.drop (half l.length))]:=by
 rw [qbZ,dif_neg (by omega)]
def qaA (x:qav) (n:Nat):Prop:=∀y,x=some y→y.1.length+n≤1048576
theorem qaA.room {x:qav} {n:Nat} (h:qaA x n):qaP x:=fun y hy=>by
 have:=h y hy
 omega
theorem qaA.le {x:qav} {n m:Nat} (h:qaA x n) (hm:m≤n):qaA x m:=fun y hy=>by
 have:=h y hy
 omega
theorem qaA.of {x:qav} {n:Nat} (h:qaA x (n+1)) (k:Int) (l:List (List UInt8)):qaA (qaD x k l) n:=by
 intro y hy
 cases x with
 | none=>cases hy
 | some z=>
   cases hy
   have h1:=h z rfl
   have h2:=qgb z.1 (qam k l) (preimage k l)
   show (addL z.1 (qam k l) (preimage k l)).length+n≤1048576
   omega
theorem qaA.root: ∀(k:Nat) {l:List Sm} {x:qav} {n:Nat},l.length≤k→1≤l.length→qaA x (n+(l.length - 1))→qaA (qbZ x l) n
 | 0,l,x,n,hk,h1,h=>by omega
 | k+1,l,x,n,hk,h1,h=>by
   rcases Nat.lt_or_ge l.length 2 with h2 | h2
   ·match l,h1,h2 with
    | [a],_,_=>rw [qcY];exact h
   ·have a1:=qcS h2
    have a2:=qdZ h2
    rw [qcZ x h2]
    refine qaA.of (qaA.root k ?_ ?_ (qaA.root k ?_ ?_ (h.le ?_))) _ _<;>simp only [List.length_take,List.length_drop]<;>omega
def qgp:List Int→List Sm→Sm×Sm→qav→qav
 | a::A,p::P,s,x=>qgp A P (if a=1 then (s.1,qam 2 [s.2,p]) else (qam 2 [p,s.1],qam 2 [p,s.2])) (if a=1 then qaD x 2 [s.2,p] else qaD (qaD x 2 [p,s.1]) 2 [p,s.2])
 | _,_,_,x=>x
end Go.Inc

set_option linter.unusedVariables false
set_option maxRecDepth 100000
namespace Go.Inc
open Go
end Go.Inc

set_option linter.unusedVariables false
namespace Go.Inc
open Go
def bkIn (N:List Nt) (x:qav):Prop:=∀y,x=some y→∀z∈y.1,z∈N
theorem bkIn.of {N:List Nt} {x:qav} {k:Int} {p:List (List UInt8)} (h:bkIn N (qaD x k p)):bkIn N x:=fun y hy z hz=>by
 subst hy
 exact h _ rfl z (ql3 _ _ _ z hz)
theorem bkIn.root: ∀(k:Nat) {N:List Nt} {l:List Sm} {x:qav},l.length≤k→bkIn N (qbZ x l)→bkIn N x
 | 0,N,l,x,hk,h=>by
   obtain rfl:l=[]:=List.length_eq_zero_iff.1 (by omega)
   rw [qcX] at h;exact h.of
 | k+1,N,l,x,hk,h=>by
   rcases Nat.lt_or_ge l.length 2 with h2 | h2
   ·match l,h2 with
    | [],_=>rw [qcX] at h;exact h.of
    | [a],_=>rw [qcY] at h;exact h
   ·have a1:=qcS h2
    have a2:=qdZ h2
    rw [qcZ x h2] at h
    exact bkIn.root k (by simp only [List.length_take];omega) (bkIn.root k (by simp only [List.length_drop];omega) h.of)
def qce (x:qav):Prop:=∀y,x=some y→∀z∈y.1,z.2.length≤200
theorem qce.of {x:qav} {k:Int} {p:List (List UInt8)} (h:qce x) (hp:qao p≤199):qce (qaD x k p):=fun y hy z hz=>by
 cases x with
 | none=>cases hy
 | some u=>
   cases hy
   rcases qdt hz with hz | hz
   ·exact h u rfl z hz
   ·rw [hz]
    have:=qcF k (l:=p) (by omega)
    exact Nat.le_trans this (by omega)
theorem qmE {a b:Sm} (ha:a.length=32) (hb:b.length=32):qao [a,b]≤199:=by simp [qao,ha,hb]
theorem qce.root: ∀(k:Nat) {l:List Sm} {x:qav},l.length≤k→(∀z∈l,z.length=32)→qce x→qce (qbZ x l)
 | 0,l,x,hk,hl,h=>by
   obtain rfl:l=[]:=List.length_eq_zero_iff.1 (by omega)
   rw [qcX];exact h.of (by simp [qao])
 | k+1,l,x,hk,hl,h=>by
   rcases Nat.lt_or_ge l.length 2 with h2 | h2
   ·match l,h2 with
    | [],_=>rw [qcX];exact h.of (by simp [qao])
    | [a],_=>rw [qcY];exact h
   ·have a1:=qcS h2
    have a2:=qdZ h2
    have w1: ∀z∈l.take (half l.length),z.length=32:=fun z hz=>hl z (List.mem_of_mem_take hz)
    have w2: ∀z∈l.drop (half l.length),z.length=32:=fun z hz=>hl z (List.mem_of_mem_drop hz)
    rw [qcZ x h2]
    exact (qce.root k (by simp only [List.length_drop];omega) w2 (qce.root k (by simp only [List.length_take];omega) w1 h)).of (qmE (qhe w1) (qhe w2))
theorem qce.fold: ∀ {A:List Int} {P:List Sm} {s:Sm×Sm} {x:qav},s.1.length=32→s.2.length=32→(∀z∈P,z.length=32)→qce x→qce (qgp A P s x)
 | [],P,s,x,_,_,_,h=>by simpa [qgp] using h
 | _::_,[],s,x,_,_,_,h=>by simpa [qgp] using h
 | a::A,p::P,s,x,h1,h2,hP,h=>by
   have hp:=hP p (by simp)
   have hP': ∀z∈P,z.length=32:=fun z hz=>hP z (by simp [hz])
   simp only [qgp]
   split
   ·exact qce.fold h1 (qcd _ _) hP' (h.of (qmE h2 hp))
   ·exact qce.fold (qcd _ _) (qcd _ _) hP' ((h.of (qmE hp h1)).of (qmE hp h2))
theorem qaA.fold: ∀ {A:List Int} {P:List Sm} {s:Sm×Sm} {x:qav} {n:Nat},qaA x (n+2 *P.length)→qaA (qgp A P s x) n
 | [],P,s,x,n,h=>by simp only [qgp];exact h.le (by omega)
 | _::_,[],s,x,n,h=>by simp only [qgp];exact h.le (by omega)
 | a::A,p::P,s,x,n,h=>by
   simp only [qgp]
   refine qaA.fold ?_
   have h':qaA x (n+2 *P.length+1+1):=h.le (by simp only [List.length_cons];omega)
   split
   ·exact (h'.le (by omega):qaA x (n+2 *P.length+1)).of _ _
   ·exact (h'.of _ _).of _ _
theorem qhM (a b c:List Nt×Int):((qan [frzB (some a),frzB (some b),frzB (some c)]).2.2=true→(qan [frzB (some a),frzB (some b),frzB (some c)]).1≠(qan [frzB (some a),frzB (some b),frzB (some c)]).2.1)∧
 ((qan [frzB (some a),frzB (some b),frzB (some c)]).2.2=false→qc8 (a.1++(b.1++c.1))):=by
 have e:qaG [frzB (some a),frzB (some b),frzB (some c)]=a.1++(b.1++c.1):=by simp [qaG,frzB]
 have h:=qeP (a.1++(b.1++c.1)) [] (fun s x y h=>by simp at h)
 unfold qan
 rw [e]
 simpa using h
end Go.Inc

set_option linter.unusedVariables false
namespace Go.Inc
open Go
end Go.Inc

set_option linter.unusedVariables false
namespace Go.Inc
open Go
def qb3 (x:qav) (n:Nat):Prop:=∃y,x=some y∧y.2=(n:Int)
theorem qb3.of {x:qav} {n:Nat} (h:qb3 x n) (hn:n≤1048576) (k:Int) (l:List (List UInt8)):qb3 (qaD x k l) (n+1):=by
 obtain ⟨y,rfl,hy⟩:=h
 refine ⟨_,rfl,?_⟩
 show IntKind.i64.wrap (y.2+1)=_
 rw [hy,qaI (wf64 (by omega) (by omega))]
 omega
theorem qb3.calls {x:qav} {n:Nat} (h:qb3 x n):qbI x=(n:Int):=by
 obtain ⟨y,rfl,hy⟩:=h
 exact hy
theorem qb3.root: ∀(k:Nat) {l:List Sm} {x:qav} {n:Nat},l.length≤k→1≤l.length→qb3 x n→n+l.length≤1048576→qb3 (qbZ x l) (n+(l.length - 1))
 | 0,l,x,n,hk,h1,h,hb=>by omega
 | k+1,l,x,n,hk,h1,h,hb=>by
   rcases Nat.lt_or_ge l.length 2 with h2 | h2
   ·match l,h1,h2 with
    | [a],_,_=>rw [qcY];exact h
   ·have a1:=qcS h2
    have a2:=qdZ h2
    have l1:(l.take (half l.length)).length=half l.length:=by rw [List.length_take];omega
    have l2:(l.drop (half l.length)).length=l.length - half l.length:=List.length_drop
    rw [qcZ x h2]
    have i1:=qb3.root k (l:=l.take (half l.length)) (by omega) (by omega) h (by omega)
    have i2:=qb3.root k (l:=l.drop (half l.length)) (by omega) (by omega) i1 (by omega)
    have i3:=i2.of (by omega) 2 [qcH (l.take (half l.length)),qcH (l.drop (half l.length))]
    rw [l1,l2,show n+(half l.length - 1)+(l.length - half l.length - 1)+1=n+(l.length - 1) from by omega] at i3
    exact i3
end Go.Inc

set_option linter.unusedVariables false
namespace Go.Inc
open Go
end Go.Inc

set_option linter.unusedVariables false
namespace Go.Inc
open Go Go.RowKit
section
variable {P:Program} {w:World} {K:Ghost} {ρ:Env} {dst:Option Tmp} {x y:Operand} {ty:TypeId}
end
end Go.Inc

set_option linter.unusedVariables false
namespace Go.Inc
open Go Go.RowKit
section
variable {P:Program} {f:FuncId} {pm:List PM} {rm:List RM} {e:Nat}
end
end Go.Inc

set_option linter.unusedVariables false
namespace Go.Inc
open Go
end Go.Inc

set_option linter.unusedVariables false
set_option maxRecDepth 100000
set_option maxHeartbeats 20000000
namespace Go.Proofs.Ytmjjkpiglbpkhaa
open Go Go.RowKit Go.Inc
noncomputable def qcv:Ctr:=⟨[.v (.sl .byte)],[.ow 5 .byte],some (fun a=>(fun (a0_s:List UInt8)=>(a0_s.length≤140737488355328:Prop)) a.1),fun a=>(fun (a0_s:List UInt8)=>((a0_s,()),(()))) a.1⟩
noncomputable def qjG:Fx:=⟨seat,some bkT,fns,[],[],[],[]⟩
def qfW (a0_s:List UInt8) (Q:(List UInt8)→Prop):Prop:=
 ∀(x0:Bool),(x0=true→a0_s=([]:List UInt8))→(x0=true→Q ([]:List UInt8))∧(x0=false→(([]:List UInt8).length+a0_s.length) *(1:Nat)≤(140737488355328:Nat)∧Q (([]:List UInt8)++a0_s))
theorem qlJ {a0_s:List UInt8} (w_0:(Ty.kd (.sl .byte)).wf a0_s) (hp:a0_s.length≤140737488355328):qfW a0_s (fun o0=>o0=a0_s):=by
 unfold qfW
 intro r hr
 refine ⟨fun h=>?_,fun _=>⟨?_,rfl⟩⟩
 ·rw [hr h]
 ·simpa using hp
theorem qlI:(∀a,qcv.pre a→PM.wfP qcv.pm a (fvc qjG 200 69 qcv a (eqO qcv a)))=(∀a:(List UInt8)×Unit,((a.1).length≤140737488355328)→(Ty.kd (.sl .byte)).wf a.1→qfW a.1 (fun o0=>o0=(a.1))):=by kernel_rfl
theorem qfX:qcv.valid Try.prog 69:=qa6 (X:=qjG) (qbT qaH (fun b hb=>by cases hb;exact qa5) qa8 trivial) 200 (qlI.mpr fun a hp w_0=> @qlJ a.1 w_0 hp)
noncomputable def qeF:Ctr:=⟨[.v (.sl .byte),.v (.sl .byte)],[.v .bool],none,fun a=>(fun (a0_a:List UInt8) (a1_b:List UInt8)=>((decide (a0_a=a1_b),()),(()))) a.1 a.2.1⟩
noncomputable def qjJ:Fx:=⟨seat,some bkT,fns,[],[],[],[]⟩
def qik (a0_a:List UInt8) (a1_b:List UInt8) (Q:Bool→Prop):Prop:=
 Q (decide (a0_a=a1_b))
theorem qlN {a0_a:List UInt8} {a1_b:List UInt8} (w_0:(Ty.kd (.sl .byte)).wf a0_a) (w_1:(Ty.kd (.sl .byte)).wf a1_b):qik a0_a a1_b (fun o0=>o0=decide (a0_a=a1_b)):=by
 exact rfl
theorem qlM:(∀a,qeF.pre a→PM.wfP qeF.pm a (fvc qjJ 200 85 qeF a (eqO qeF a)))=(∀a:(List UInt8)×(List UInt8)×Unit,True→(Ty.kd (.sl .byte)).wf a.1→(Ty.kd (.sl .byte)).wf a.2.1→qik a.1 a.2.1 (fun o0=>o0=decide ((a.1)=(a.2.1)))):=by kernel_rfl
theorem qnq:qeF.valid Try.prog 85:=qa6 (X:=qjJ) (qbT qaH (fun b hb=>by cases hb;exact qa5) qa8 trivial) 200 (qlM.mpr fun a hp w_0 w_1=> @qlN a.1 a.2.1 w_0 w_1)
noncomputable def qdM:Ctr:=⟨[.v (.int .u64)],[.v (.int .i64)],none,fun a=>(fun (a0_x:Int)=>(((blen a0_x.toNat:Int),()),(()))) a.1⟩
noncomputable def qjT:Fx:=⟨seat,some bkT,fns,[],[],[],[]⟩
def qf1 (a0_x:Int) (Q:Int→Prop):Prop:=
 ((4294967296:Int)≤a0_x→((65536:Int)≤shr IntKind.u64 a0_x (32:Int)→((256:Int)≤shr IntKind.u64 (shr IntKind.u64 a0_x (32:Int)) (16:Int)→((0:Int)≤IntKind.u8.wrap (shr IntKind.u64 (shr IntKind.u64 (shr IntKind.u64 a0_x (32:Int)) (16:Int)) (8:Int))∧IntKind.u8.wrap (shr IntKind.u64 (shr IntKind.u64 (shr IntKind.u64 a0_x (32:Int)) (16:Int)) (8:Int))<(qap.length:Int))∧Q (IntKind.i64.wrap (IntKind.i64.wrap (IntKind.i64.wrap ((32:Int)+(16:Int))+(8:Int))+bI (ix qap (IntKind.u8.wrap (shr IntKind.u64 (shr IntKind.u64 (shr IntKind.u64 a0_x (32:Int)) (16:Int)) (8:Int)))))))∧(¬(256:Int)≤shr IntKind.u64 (shr IntKind.u64 a0_x (32:Int)) (16:Int)→((0:Int)≤IntKind.u8.wrap (shr IntKind.u64 (shr IntKind.u64 a0_x (32:Int)) (16:Int))∧IntKind.u8.wrap (shr IntKind.u64 (shr IntKind.u64 a0_x (32:Int)) (16:Int))<(qap.length:Int))∧Q (IntKind.i64.wrap (IntKind.i64.wrap ((32:Int)+(16:Int))+bI (ix qap (IntKind.u8.wrap (shr IntKind.u64 (shr IntKind.u64 a0_x (32:Int)) (16:Int))))))))∧(¬(65536:Int)≤shr IntKind.u64 a0_x (32:Int)→((256:Int)≤shr IntKind.u64 a0_x (32:Int)→((0:Int)≤IntKind.u8.wrap (shr IntKind.u64 (shr IntKind.u64 a0_x (32:Int)) (8:Int))∧IntKind.u8.wrap (shr IntKind.u64 (shr IntKind.u64 a0_x (32:Int)) (8:Int))<(qap.length:Int))∧Q (IntKind.i64.wrap (IntKind.i64.wrap ((32:Int)+(8:Int))+bI (ix qap (IntKind.u8.wrap (shr IntKind.u64 (shr IntKind.u64 a0_x (32:Int)) (8:Int)))))))∧(¬(256:Int)≤shr IntKind.u64 a0_x (32:Int)→((0:Int)≤IntKind.u8.wrap (shr IntKind.u64 a0_x (32:Int))∧IntKind.u8.wrap (shr IntKind.u64 a0_x (32:Int))<(qap.length:Int))∧Q (IntKind.i64.wrap ((32:Int)+bI (ix qap (IntKind.u8.wrap (shr IntKind.u64 a0_x (32:Int)))))))))∧(¬(4294967296:Int)≤a0_x→((65536:Int)≤a0_x→((256:Int)≤shr IntKind.u64 a0_x (16:Int)→((0:Int)≤IntKind.u8.wrap (shr IntKind.u64 (shr IntKind.u64 a0_x (16:Int)) (8:Int))∧IntKind.u8.wrap (shr IntKind.u64 (shr IntKind.u64 a0_x (16:Int)) (8:Int))<(qap.length:Int))∧Q (IntKind.i64.wrap (IntKind.i64.wrap (IntKind.i64.wrap ((0:Int)+(16:Int))+(8:Int))+bI (ix qap (IntKind.u8.wrap (shr IntKind.u64 (shr IntKind.u64 a0_x (16:Int)) (8:Int)))))))∧(¬(256:Int)≤shr IntKind.u64 a0_x (16:Int)→((0:Int)≤IntKind.u8.wrap (shr IntKind.u64 a0_x (16:Int))∧IntKind.u8.wrap (shr IntKind.u64 a0_x (16:Int))<(qap.length:Int))∧Q (IntKind.i64.wrap (IntKind.i64.wrap ((0:Int)+(16:Int))+bI (ix qap (IntKind.u8.wrap (shr IntKind.u64 a0_x (16:Int))))))))∧(¬(65536:Int)≤a0_x→((256:Int)≤a0_x→((0:Int)≤IntKind.u8.wrap (shr IntKind.u64 a0_x (8:Int))∧IntKind.u8.wrap (shr IntKind.u64 a0_x (8:Int))<(qap.length:Int))∧Q (IntKind.i64.wrap (IntKind.i64.wrap ((0:Int)+(8:Int))+bI (ix qap (IntKind.u8.wrap (shr IntKind.u64 a0_x (8:Int)))))))∧(¬(256:Int)≤a0_x→((0:Int)≤IntKind.u8.wrap a0_x∧IntKind.u8.wrap a0_x<(qap.length:Int))∧Q (IntKind.i64.wrap ((0:Int)+bI (ix qap (IntKind.u8.wrap a0_x)))))))
theorem qlT {a0_x:Int} (w_0:(Ty.kd (.int .u64)).wf a0_x):qf1 a0_x (fun o0=>o0=(blen a0_x.toNat:Int)):=by
 obtain ⟨n,rfl⟩:=Int.eq_ofNat_of_zero_le w_0.1
 have hn:n<18446744073709551616:=by
  have h:((n:Int))≤(18446744073709551615:Int):=w_0.2
  omega
 have ht:qap=qdb:=by decide+kernel
 have s32: ∀m:Nat,shr .u64 (m:Int) 32=((m/4294967296:Nat):Int):=fun m=>qgE (k:=32) (by decide)
 have s16: ∀m:Nat,shr .u64 (m:Int) 16=((m/65536:Nat):Int):=fun m=>qgE (k:=16) (by decide)
 have s8: ∀m:Nat,shr .u64 (m:Int) 8=((m/256:Nat):Int):=fun m=>qgE (k:=8) (by decide)
 have b32: ∀m:Nat,4294967296≤m→blen m=32+blen (m/4294967296):=fun m h=>qcM 32 h
 have b16: ∀m:Nat,65536≤m→blen m=16+blen (m/65536):=fun m h=>qcM 16 h
 have b8: ∀m:Nat,256≤m→blen m=8+blen (m/256):=fun m h=>qcM 8 h
 unfold qf1
 simp only [s32,s16,s8,Int.toNat_natCast]
 refine ⟨fun h1=>⟨fun h2=>⟨fun h3=>?_,fun h3=>?_⟩,fun h2=>⟨fun h3=>?_,fun h3=>?_⟩⟩,fun h1=>⟨fun h2=>⟨fun h3=>?_,fun h3=>?_⟩,fun h2=>⟨fun h3=>?_,fun h3=>?_⟩⟩⟩
 ·exact qbY (k:=56) (by omega) (by omega) (by rw [b32 n (by omega),b16 _ (by omega),b8 _ (by omega)];omega) (by decide) ht
 ·exact qbY (k:=48) (by omega) (by omega) (by rw [b32 n (by omega),b16 _ (by omega)];omega) (by decide) ht
 ·exact qbY (k:=40) (by omega) (by omega) (by rw [b32 n (by omega),b8 _ (by omega)];omega) (by decide) ht
 ·exact qbY (k:=32) (by omega) (by omega) (by rw [b32 n (by omega)]) (by decide) ht
 ·exact qbY (k:=24) (by omega) (by omega) (by rw [b16 n (by omega),b8 _ (by omega)];omega) (by decide) ht
 ·exact qbY (k:=16) (by omega) (by omega) (by rw [b16 n (by omega)]) (by decide) ht
 ·exact qbY (k:=8) (by omega) (by omega) (by rw [b8 n (by omega)]) (by decide) ht
 ·exact qbY (k:=0) (by omega) (by omega) (by omega) (by decide) ht
theorem qlS:(∀a,qdM.pre a→PM.wfP qdM.pm a (fvc qjT 200 108 qdM a (eqO qdM a)))=(∀a:Int×Unit,True→(Ty.kd (.int .u64)).wf a.1→qf1 a.1 (fun o0=>o0=(blen (a.1).toNat:Int))):=by kernel_rfl
theorem qnC:qdM.valid Try.prog 108:=qa6 (X:=qjT) (qbT qaH (fun b hb=>by cases hb;exact qa5) qa8 trivial) 200 (qlS.mpr fun a hp w_0=> @qlT a.1 w_0)
noncomputable def qjd:Ctr:=⟨[.v (.sl .byte),.v (.sl (.int .u64))],[.ow 5 .byte],some (fun a=>(fun (a0_b:List UInt8) (a1_l:List Int)=>(a0_b.length+9 *a1_l.length≤140737488355328:Prop)) a.1 a.2.1),fun a=>(fun (a0_b:List UInt8) (a1_l:List Int)=>(((a0_b++qbk a1_l),()),(()))) a.1 a.2.1⟩
noncomputable def qoX:Fx:=⟨seat,some bkT,fns,[(69,qcv),(108,qdM)],[],[],[]⟩
def qjW (a0_b:List UInt8) (a1_l:List Int) (Q:(List UInt8)→Prop):Prop:=
 a0_b.length≤(140737488355328:Nat)∧(Ty.byte.kd.sl.wf a0_b→∃(x0:List UInt8→Int→Prop),∃(x1:List UInt8→Int→Nat),x0 a0_b (0:Int)∧∀(x2:List UInt8) (x3:Int),x0 x2 x3→Ty.byte.kd.sl.wf x2→(Kd.int IntKind.i64).wf x3→(x3<(a1_l.length:Int)→((0:Int)≤x3∧x3<(a1_l.length:Int))∧((Ty.int IntKind.i64).kd.wf (blen (ix a1_l x3).toNat:Int)→(x2.length+(toB (IntKind.u8.wrap (IntKind.i64.wrap ((IntKind.i64.wrap ((blen (ix a1_l x3).toNat:Int)+(7:Int))).tdiv (8:Int))))::([]:List UInt8)).length) *(1:Nat)≤(140737488355328:Nat)∧∃(x9:List UInt8→Int→Prop),∃(x10:List UInt8→Int→Nat),x9 (x2++toB (IntKind.u8.wrap (IntKind.i64.wrap ((IntKind.i64.wrap ((blen (ix a1_l x3).toNat:Int)+(7:Int))).tdiv (8:Int))))::([]:List UInt8)) (IntKind.i64.wrap ((8:Int) *IntKind.i64.wrap ((IntKind.i64.wrap ((blen (ix a1_l x3).toNat:Int)+(7:Int))).tdiv (8:Int))))∧∀(x11:List UInt8) (x12:Int),x9 x11 x12→Ty.byte.kd.sl.wf x11→(Kd.int IntKind.i64).wf x12→((0:Int)<x12→(0:Int)≤IntKind.i64.wrap (x12 - (8:Int))∧(x11.length+(toB (IntKind.u8.wrap (shr IntKind.u64 (ix a1_l x3) (IntKind.i64.wrap (x12 - (8:Int)))))::([]:List UInt8)).length) *(1:Nat)≤(140737488355328:Nat)∧x9 (x11++toB (IntKind.u8.wrap (shr IntKind.u64 (ix a1_l x3) (IntKind.i64.wrap (x12 - (8:Int)))))::([]:List UInt8)) (IntKind.i64.wrap (x12 - (8:Int)))∧x10 (x11++toB (IntKind.u8.wrap (shr IntKind.u64 (ix a1_l x3) (IntKind.i64.wrap (x12 - (8:Int)))))::([]:List UInt8)) (IntKind.i64.wrap (x12 - (8:Int)))<x10 x11 x12)∧(¬(0:Int)<x12→x3<(9223372036854775807:Int)∧x0 x11 (x3+(1:Int))∧x1 x11 (x3+(1:Int))<x1 x2 x3)))∧(¬x3<(a1_l.length:Int)→Q x2))
theorem qoZ {a0_b:List UInt8} {a1_l:List Int} (w_0:(Ty.kd (.sl .byte)).wf a0_b) (w_1:(Ty.kd (.sl (.int .u64))).wf a1_l) (hp:a0_b.length+9 *a1_l.length≤140737488355328):qjW a0_b a1_l (fun o0=>o0=(a0_b++qbk a1_l)):=by
 have hw: ∀x∈a1_l,∃n:Nat,x=(n:Int)∧n<2^64:=fun x hx=>by
  obtain ⟨n,rfl⟩:=Int.eq_ofNat_of_zero_le (w_1.2 x hx).1
  have h:((n:Int))≤(18446744073709551615:Int):=(w_1.2 (n:Int) hx).2
  exact ⟨n,rfl,by omega⟩
 have hlen: ∀j,j≤a1_l.length→(qbk (a1_l.take j)).length≤9 *j:=by
  intro j
  induction j with
  | zero=>intro _;simp [qbk]
  | succ j ih=>
    intro hj
    have hlt:(j:Int)<(a1_l.length:Int):=by omega
    obtain ⟨n,hn,hb⟩:=hw _ (qdA (by omega) hlt)
    have h1:=qdj hb
    have h2:=ih (by omega)
    rw [qbc hlt]
    unfold qbk at *
    rw [List.flatMap_append,List.length_append]
    simp only [List.flatMap_cons,List.flatMap_nil,List.append_nil,hn,Int.toNat_natCast]
    omega
 unfold qjW
 refine ⟨by omega,fun _=>⟨fun out i=> ∃j:Nat,i=(j:Int)∧j≤a1_l.length∧out=a0_b++qbk (a1_l.take j),fun _ i=>a1_l.length - i.toNat,⟨0,rfl,by omega,by simp [qbk]⟩,?_⟩⟩
 rintro out i ⟨j,rfl,hj,rfl⟩ _ hwi
 refine ⟨fun hlt=>⟨⟨by omega,hlt⟩,fun _=>⟨?_,?_⟩⟩,fun hge=>?_⟩
 ·have:=hlen j hj
  simp only [List.length_append,List.length_cons,List.length_nil]
  omega
 ·obtain ⟨n,hn,hb⟩:=hw _ (qdA (by omega) hlt)
  have hbl:=qgd 64 hb
  have hk:=qqW hbl
  rw [hn]
  simp only [Int.toNat_natCast,hk]
  rw [qni]
  generalize hkk:(blen n+7)/8=k
  have hk8:k≤8:=by omega
  have hT:a0_b++qbk (a1_l.take (j+1))=a0_b++qbk (a1_l.take j)++ [UInt8.ofNat k]++be n k:=by
   rw [qbc hlt]
   simp [qbk,numB,hn,hkk]
  have hTl:=hlen (j+1) (by omega)
  have hTl2:(a0_b++qbk (a1_l.take (j+1))).length≤140737488355328:=by
   rw [List.length_append]
   omega
  refine ⟨fun out at_=> ∃m:Nat,m≤k∧at_=((8 *m:Nat):Int)∧out++be n m=a0_b++qbk (a1_l.take (j+1)),fun _ at_=>at_.toNat,⟨k,Nat.le_refl _,?_,hT.symm⟩,?_⟩
  ·rw [qaI (wf64 (by omega) (by omega))]
   omega
  ·rintro out at_ ⟨m,hm,rfl,hout⟩ _ _
   refine ⟨fun hpos=>?_,fun hz=>?_⟩
   ·obtain ⟨m,rfl⟩: ∃m',m=m'+1:=⟨m - 1,by omega⟩
    have e8:IntKind.i64.wrap (((8 *(m+1):Nat):Int) - 8)=((8 *m:Nat):Int):=by
     rw [qaI (wf64 (by omega) (by omega))]
     omega
    rw [e8,qkr (by omega)]
    have hol:=congrArg List.length hout
    simp only [List.length_append,qbu] at hol
    simp only [List.length_append] at hTl2
    refine ⟨by omega,?_,⟨m,by omega,rfl,?_⟩,?_⟩
    ·simp only [List.length_cons,List.length_nil]
     omega
    ·rw [←hout]
     simp [be]
    ·show ((8 *m:Nat):Int).toNat<((8 *(m+1):Nat):Int).toNat
     omega
   ·have:m=0:=by omega
    subst this
    have h2:=w_1.1
    unfold LM at h2
    refine ⟨by omega,⟨j+1,rfl,by omega,by simpa [be] using hout⟩,?_⟩
    show a1_l.length - ((j+1:Nat):Int).toNat<a1_l.length - (j:Int).toNat
    omega
 ·have:j=a1_l.length:=by omega
  subst this
  rw [List.take_length]
theorem qoY:(∀a,qjd.pre a→PM.wfP qjd.pm a (fvc qoX 200 62 qjd a (eqO qjd a)))=(∀a:(List UInt8)×(List Int)×Unit,((a.1).length+9 *(a.2.1).length≤140737488355328)→(Ty.kd (.sl .byte)).wf a.1→(Ty.kd (.sl (.int .u64))).wf a.2.1→qjW a.1 a.2.1 (fun o0=>o0=((a.1)++qbk (a.2.1)))):=by kernel_rfl
theorem qqk:qjd.valid Try.prog 62:=qa6 (X:=qoX) (qbT qaH (fun b hb=>by cases hb;exact qa5) qa8 ⟨qfX,qnC,trivial⟩) 200 (qoY.mpr fun a hp w_0 w_1=> @qoZ a.1 a.2.1 w_0 w_1 hp)
noncomputable def qfl:Ctr:=⟨[.v (.sl .byte),.v (.sl (.sl .byte))],[.ow 5 .byte],some (fun a=>(fun (a0_b:List UInt8) (a1_l:List (List UInt8))=>(a0_b.length+qao a1_l≤140737488355328:Prop)) a.1 a.2.1),fun a=>(fun (a0_b:List UInt8) (a1_l:List (List UInt8))=>(((a0_b++qbe a1_l),()),(()))) a.1 a.2.1⟩
noncomputable def qmV:Fx:=⟨seat,some bkT,fns,[(69,qcv),(62,qjd)],[],[],[]⟩
def qhq (a0_b:List UInt8) (a1_l:List (List UInt8)) (Q:(List UInt8)→Prop):Prop:=
 a0_b.length≤(140737488355328:Nat)∧(Ty.byte.kd.sl.wf a0_b→∃(x0:List UInt8→Int→Prop),∃(x1:List UInt8→Int→Nat),x0 a0_b (0:Int)∧∀(x2:List UInt8) (x3:Int),x0 x2 x3→Ty.byte.kd.sl.wf x2→(Kd.int IntKind.i64).wf x3→(x3<(a1_l.length:Int)→((0:Int)≤x3∧x3<(a1_l.length:Int))∧x2.length+(9:Nat) *(IntKind.u64.wrap ((ix a1_l x3).length:Int)::([]:List Int)).length≤(140737488355328:Nat)∧(Ty.byte.kd.sl.wf (x2++qbk (IntKind.u64.wrap ((ix a1_l x3).length:Int)::([]:List Int)))→((x2++qbk (IntKind.u64.wrap ((ix a1_l x3).length:Int)::([]:List Int))).length+(ix a1_l x3).length) *(1:Nat)≤(140737488355328:Nat)∧x3<(9223372036854775807:Int)∧x0 (x2++qbk (IntKind.u64.wrap ((ix a1_l x3).length:Int)::([]:List Int))++ix a1_l x3) (x3+(1:Int))∧x1 (x2++qbk (IntKind.u64.wrap ((ix a1_l x3).length:Int)::([]:List Int))++ix a1_l x3) (x3+(1:Int))<x1 x2 x3))∧(¬x3<(a1_l.length:Int)→Q x2))
theorem qnn {a0_b:List UInt8} {a1_l:List (List UInt8)} (w_0:(Ty.kd (.sl .byte)).wf a0_b) (w_1:(Ty.kd (.sl (.sl .byte))).wf a1_l) (hp:a0_b.length+qao a1_l≤140737488355328):qhq a0_b a1_l (fun o0=>o0=(a0_b++qbe a1_l)):=by
 have hw: ∀x∈a1_l,x.length≤LM:=fun x hx=>(w_1.2 x hx).1
 unfold qhq
 refine ⟨by omega,fun _=>⟨fun out i=> ∃j:Nat,i=(j:Int)∧j≤a1_l.length∧out=a0_b++qbe (a1_l.take j),fun _ i=>a1_l.length - i.toNat,⟨0,rfl,by omega,by simp [qbe]⟩,?_⟩⟩
 rintro out i ⟨j,rfl,hj,rfl⟩ _ _
 refine ⟨fun hlt=>⟨⟨by omega,hlt⟩,?_,fun _=>⟨?_,by have:=w_1.1;unfold LM at this;omega,?_,?_⟩⟩,fun hge=>?_⟩
 ·have h1:=qbq (a1_l.take j) (fun y hy=>by have:=hw y (List.mem_of_mem_take hy);unfold LM at this;omega)
  have h2:=qdv hlt
  simp only [List.length_append,List.length_cons,List.length_nil]
  omega
 ·have h1:=qbq (a1_l.take j) (fun y hy=>by have:=hw y (List.mem_of_mem_take hy);unfold LM at this;omega)
  have h2:=qdv hlt
  have h3:=hw _ (qdA (by omega) hlt)
  have h4:IntKind.u64.wrap ((ix a1_l (j:Int)).length:Int)=((ix a1_l (j:Int)).length:Int):=qaI ⟨by show (0:Int)≤_;omega,by unfold LM at h3;show _≤(18446744073709551615:Int);omega⟩
  have h5:=qdj (n:=(ix a1_l (j:Int)).length) (by unfold LM at h3;omega)
  rw [h4]
  simp only [List.length_append,qbk,List.flatMap_cons,List.flatMap_nil,List.append_nil,Int.toNat_natCast]
  omega
 ·have h3:=hw _ (qdA (by omega) hlt)
  have h4:IntKind.u64.wrap ((ix a1_l (j:Int)).length:Int)=((ix a1_l (j:Int)).length:Int):=qaI ⟨by show (0:Int)≤_;omega,by unfold LM at h3;show _≤(18446744073709551615:Int);omega⟩
  refine ⟨j+1,by omega,by omega,?_⟩
  rw [h4,qbc hlt]
  simp [qbe,qbk]
 ·show a1_l.length - ((j:Int)+1).toNat<a1_l.length - (j:Int).toNat
  omega
 ·have:j=a1_l.length:=by omega
  subst this
  rw [List.take_length]
theorem qnm:(∀a,qfl.pre a→PM.wfP qfl.pm a (fvc qmV 200 95 qfl a (eqO qfl a)))=(∀a:(List UInt8)×(List (List UInt8))×Unit,((a.1).length+qao (a.2.1)≤140737488355328)→(Ty.kd (.sl .byte)).wf a.1→(Ty.kd (.sl (.sl .byte))).wf a.2.1→qhq a.1 a.2.1 (fun o0=>o0=((a.1)++qbe (a.2.1)))):=by kernel_rfl
theorem qoM:qfl.valid Try.prog 95:=qa6 (X:=qmV) (qbT qaH (fun b hb=>by cases hb;exact qa5) qa8 ⟨qfX,qqk,trivial⟩) 200 (qnm.mpr fun a hp w_0 w_1=> @qnn a.1 a.2.1 w_0 w_1 hp)
noncomputable def qbD:Ctr:=⟨[.v (.int .i64),.v (.sl (.sl .byte))],[.ow 5 .byte],some (fun a=>(fun (a0_kind:Int) (a1_parts:List (List UInt8))=>(1+qao a1_parts≤140737488355328:Prop)) a.1 a.2.1),fun a=>(fun (a0_kind:Int) (a1_parts:List (List UInt8))=>(((preimage a0_kind a1_parts),()),(()))) a.1 a.2.1⟩
noncomputable def qfo:Fx:=⟨seat,some bkT,fns,[(95,qfl)],[],[],[]⟩
def qc9 (a0_kind:Int) (a1_parts:List (List UInt8)) (Q:(List UInt8)→Prop):Prop:=
 (toB (IntKind.u8.wrap a0_kind)::([]:List UInt8)).length+qao a1_parts≤(140737488355328:Nat)∧(Ty.byte.kd.sl.wf (toB (IntKind.u8.wrap a0_kind)::([]:List UInt8)++qbe a1_parts)→Q (toB (IntKind.u8.wrap a0_kind)::([]:List UInt8)++qbe a1_parts))
theorem qhC {a0_kind:Int} {a1_parts:List (List UInt8)} (w_0:(Ty.kd (.int .i64)).wf a0_kind) (w_1:(Ty.kd (.sl (.sl .byte))).wf a1_parts) (hp:1+qao a1_parts≤140737488355328):qc9 a0_kind a1_parts (fun o0=>o0=(preimage a0_kind a1_parts)):=by
 unfold qc9
 refine ⟨by simpa using hp,fun _=>rfl⟩
theorem qhB:(∀a,qbD.pre a→PM.wfP qbD.pm a (fvc qfo 200 98 qbD a (eqO qbD a)))=(∀a:Int×(List (List UInt8))×Unit,(1+qao (a.2.1)≤140737488355328)→(Ty.kd (.int .i64)).wf a.1→(Ty.kd (.sl (.sl .byte))).wf a.2.1→qc9 a.1 a.2.1 (fun o0=>o0=(preimage (a.1) (a.2.1)))):=by kernel_rfl
theorem qfq:qbD.valid Try.prog 98:=qa6 (X:=qfo) (qbT qaH (fun b hb=>by cases hb;exact qa5) qa8 ⟨qoM,trivial⟩) 200 (qhB.mpr fun a hp w_0 w_1=> @qhC a.1 a.2.1 w_0 w_1 hp)
noncomputable def qhy:Ctr:=⟨[],[.bx (.pr (.arr 8 (.int .u32)) (.pr (.int .u64) (.sl .byte)))],none,fun _=>((((List.replicate 8 (0:Int),(0:Int),([]:List UInt8)):List Int×Int×List UInt8),()),(()))⟩
noncomputable def qoS:Fx:=⟨seat,some bkT,fns,[],[],[],[]⟩
def qmY (Q:((List Int)×Int×List UInt8)→Prop):Prop:=
 Q ((Ty.arr (8:Nat) (Ty.int IntKind.u32)).pr ((Ty.int IntKind.u64).pr Ty.byte.sl)).kd.z
theorem qoV  :qmY  (fun o0=>o0=((List.replicate 8 (0:Int),(0:Int),([]:List UInt8)):List Int×Int×List UInt8)):=by
 exact rfl
theorem qoT:(∀a,qhy.pre a→PM.wfP qhy.pm a (fvc qoS 200 123 qhy a (eqO qhy a)))=(∀a:Unit,True→qmY  (fun o0=>o0=((List.replicate 8 (0:Int),(0:Int),([]:List UInt8)):List Int×Int×List UInt8))):=by kernel_rfl
theorem qoU:qhy.valid Try.prog 123:=qa6 (X:=qoS) (qbT qaH (fun b hb=>by cases hb;exact qa5) qa8 trivial) 200 (qoT.mpr fun a hp  => @qoV )
noncomputable def qfE:Ctr:=⟨[.v (.int .u64)],[.ow 5 .byte],none,fun a=>(fun (a0_x:Int)=>(((be a0_x.toNat 8),()),(()))) a.1⟩
noncomputable def qm7:Fx:=⟨seat,some bkT,fns,[],[],[],[]⟩
def qhX (a0_x:Int) (Q:(List UInt8)→Prop):Prop:=
 ∃(x0:List UInt8→Int→Prop),∃(x1:List UInt8→Int→Nat),x0 ([]:List UInt8) (56:Int)∧∀(x2:List UInt8) (x3:Int),x0 x2 x3→Ty.byte.kd.sl.wf x2→(Kd.int IntKind.i64).wf x3→((0:Int)≤x3→(0:Int)≤x3∧(x2.length+(toB (IntKind.u8.wrap (shr IntKind.u64 a0_x x3))::([]:List UInt8)).length) *(1:Nat)≤(140737488355328:Nat)∧x0 (x2++toB (IntKind.u8.wrap (shr IntKind.u64 a0_x x3))::([]:List UInt8)) (IntKind.i64.wrap (x3 - (8:Int)))∧x1 (x2++toB (IntKind.u8.wrap (shr IntKind.u64 a0_x x3))::([]:List UInt8)) (IntKind.i64.wrap (x3 - (8:Int)))<x1 x2 x3)∧(¬(0:Int)≤x3→Q x2)
theorem qoa {a0_x:Int} (w_0:(Ty.kd (.int .u64)).wf a0_x):qhX a0_x (fun o0=>o0=(be a0_x.toNat 8)):=by
 obtain ⟨n,rfl⟩:=Int.eq_ofNat_of_zero_le w_0.1
 unfold qhX
 rw [Int.toNat_natCast]
 refine ⟨fun b i=> ∃m:Nat,m≤8∧i=8 *(m:Int) - 8∧b++be n m=be n 8,fun _ i=>(i+8).toNat,⟨8,by omega,by omega,rfl⟩,?_⟩
 rintro b i ⟨m,hm,rfl,hb⟩ _ _
 have hbl:=congrArg List.length hb
 simp only [List.length_append,qbu] at hbl
 refine ⟨fun h0=>⟨h0,?_,?_,?_⟩,fun h=>?_⟩
 ·simp only [List.length_cons,List.length_nil]
  omega
 ·obtain ⟨m,rfl⟩: ∃m',m=m'+1:=⟨m - 1,by omega⟩
  have e:8 *((m+1:Nat):Int) - 8=((8 *m:Nat):Int):=by omega
  rw [e,qkr (by omega),qaI (wf64 (by omega) (by omega))]
  refine ⟨m,by omega,by omega,?_⟩
  rw [←hb]
  simp [be]
 ·rw [qaI (wf64 (by omega) (by omega))]
  show (8 *(m:Int) - 8 - 8+8).toNat<(8 *(m:Int) - 8+8).toNat
  omega
 ·have:m=0:=by omega
  subst this
  simpa [be] using hb
theorem qn9:(∀a,qfE.pre a→PM.wfP qfE.pm a (fvc qm7 200 139 qfE a (eqO qfE a)))=(∀a:Int×Unit,True→(Ty.kd (.int .u64)).wf a.1→qhX a.1 (fun o0=>o0=(be (a.1).toNat 8))):=by kernel_rfl
theorem qpV:qfE.valid Try.prog 139:=qa6 (X:=qm7) (qbT qaH (fun b hb=>by cases hb;exact qa5) qa8 trivial) 200 (qn9.mpr fun a hp w_0=> @qoa a.1 w_0)
noncomputable def qdY:Ctr:=⟨[],[.v (.arr 8 (.int .u32))],none,fun _=>((shaH,()),(()))⟩
noncomputable def qkK:Fx:=⟨seat,some bkT,fns,[],[],[],[]⟩
def qiK (Q:(List Int)→Prop):Prop:=
 Q ((1779033703:Int)::(3144134277:Int)::(1013904242:Int)::(2773480762:Int)::(1359893119:Int)::(2600822924:Int)::(528734635:Int)::(1541459225:Int)::([]:List Int))
theorem qmk  :qiK  (fun o0=>o0=shaH):=by
 exact rfl
theorem qmj:(∀a,qdY.pre a→PM.wfP qdY.pm a (fvc qkK 200 135 qdY a (eqO qdY a)))=(∀a:Unit,True→qiK  (fun o0=>o0=shaH)):=by kernel_rfl
theorem qn6:qdY.valid Try.prog 135:=qa6 (X:=qkK) (qbT qaH (fun b hb=>by cases hb;exact qa5) qa8 trivial) 200 (qmj.mpr fun a hp  => @qmk )
noncomputable def qc0:Ctr:=⟨[],[.v (.arr 64 (.int .u32))],none,fun _=>((shaK,()),(()))⟩
noncomputable def qiX:Fx:=⟨seat,some bkT,fns,[],[],[],[]⟩
def qhf (Q:(List Int)→Prop):Prop:=
 Q ((1116352408:Int)::(1899447441:Int)::(3049323471:Int)::(3921009573:Int)::(961987163:Int)::(1508970993:Int)::(2453635748:Int)::(2870763221:Int)::(3624381080:Int)::(310598401:Int)::(607225278:Int)::(1426881987:Int)::(1925078388:Int)::(2162078206:Int)::(2614888103:Int)::(3248222580:Int)::(3835390401:Int)::(4022224774:Int)::(264347078:Int)::(604807628:Int)::(770255983:Int)::(1249150122:Int)::(1555081692:Int)::(1996064986:Int)::(2554220882:Int)::(2821834349:Int)::(2952996808:Int)::(3210313671:Int)::(3336571891:Int)::(3584528711:Int)::(113926993:Int)::(338241895:Int)::(666307205:Int)::(773529912:Int)::(1294757372:Int)::(1396182291:Int)::(1695183700:Int)::(1986661051:Int)::(2177026350:Int)::(2456956037:Int)::(2730485921:Int)::(2820302411:Int)::(3259730800:Int)::(3345764771:Int)::(3516065817:Int)::(3600352804:Int)::(4094571909:Int)::(275423344:Int)::(430227734:Int)::(506948616:Int)::(659060556:Int)::(883997877:Int)::(958139571:Int)::(1322822218:Int)::(1537002063:Int)::(1747873779:Int)::(1955562222:Int)::(2024104815:Int)::(2227730452:Int)::(2361852424:Int)::(2428436474:Int)::(2756734187:Int)::(3204031479:Int)::(3329325298:Int)::([]:List Int))
theorem qlg  :qhf  (fun o0=>o0=shaK):=by
 exact rfl
theorem qlf:(∀a,qc0.pre a→PM.wfP qc0.pm a (fvc qiX 200 147 qc0 a (eqO qc0 a)))=(∀a:Unit,True→qhf  (fun o0=>o0=shaK)):=by kernel_rfl
theorem qmF:qc0.valid Try.prog 147:=qa6 (X:=qiX) (qbT qaH (fun b hb=>by cases hb;exact qa5) qa8 trivial) 200 (qlf.mpr fun a hp  => @qlg )
noncomputable def qfs:Ctr:=⟨[.v (.int .u32),.v (.int .i64)],[.v (.int .u32)],none,fun a=>(fun (a0_x:Int) (a1_k:Int)=>(((rotl a0_x a1_k),()),(()))) a.1 a.2.1⟩
noncomputable def qmZ:Fx:=⟨seat,some bkT,fns,[],[],[],[]⟩
def qj2 (a0_x:Int) (a1_k:Int) (Q:Int→Prop):Prop:=
 Q (bor IntKind.u32 (shl IntKind.u32 a0_x (band IntKind.u64 (IntKind.u64.wrap a1_k) (31:Int))) (shr IntKind.u32 a0_x (IntKind.u64.wrap ((32:Int) - band IntKind.u64 (IntKind.u64.wrap a1_k) (31:Int)))))
theorem qnK {a0_x:Int} {a1_k:Int} (w_0:(Ty.kd (.int .u32)).wf a0_x) (w_1:(Ty.kd (.int .i64)).wf a1_k):qj2 a0_x a1_k (fun o0=>o0=(rotl a0_x a1_k)):=by
 exact rfl
theorem qnJ:(∀a,qfs.pre a→PM.wfP qfs.pm a (fvc qmZ 200 148 qfs a (eqO qfs a)))=(∀a:Int×Int×Unit,True→(Ty.kd (.int .u32)).wf a.1→(Ty.kd (.int .i64)).wf a.2.1→qj2 a.1 a.2.1 (fun o0=>o0=(rotl (a.1) (a.2.1)))):=by kernel_rfl
theorem qpq:qfs.valid Try.prog 148:=qa6 (X:=qmZ) (qbT qaH (fun b hb=>by cases hb;exact qa5) qa8 trivial) 200 (qnJ.mpr fun a hp w_0 w_1=> @qnK a.1 a.2.1 w_0 w_1)
noncomputable def qd6:Ctr:=⟨[.v (.int .u32),.v (.sl (.int .i64))],[.v (.int .u32)],none,fun a=>(fun (a0_x:Int) (a1_l:List Int)=>(((qat a0_x a1_l),()),(()))) a.1 a.2.1⟩
noncomputable def qll:Fx:=⟨seat,some bkT,fns,[(148,qfs)],[],[],[]⟩
def qgG (a0_x:Int) (a1_l:List Int) (Q:Int→Prop):Prop:=
 ∃(x0:Int→Int→Prop),∃(x1:Int→Int→Nat),x0 (0:Int) (0:Int)∧∀(x2 x3:Int),x0 x2 x3→(Kd.int IntKind.u32).wf x2→(Kd.int IntKind.i64).wf x3→(x3<(a1_l.length:Int)→((0:Int)≤x3∧x3<(a1_l.length:Int))∧((Ty.int IntKind.u32).kd.wf (rotl a0_x (IntKind.i64.wrap ((0:Int) - ix a1_l x3)))→x3<(9223372036854775807:Int)∧x0 (bxor IntKind.u32 x2 (rotl a0_x (IntKind.i64.wrap ((0:Int) - ix a1_l x3)))) (x3+(1:Int))∧x1 (bxor IntKind.u32 x2 (rotl a0_x (IntKind.i64.wrap ((0:Int) - ix a1_l x3)))) (x3+(1:Int))<x1 x2 x3))∧(¬x3<(a1_l.length:Int)→Q x2)
theorem qmN {a0_x:Int} {a1_l:List Int} (w_0:(Ty.kd (.int .u32)).wf a0_x) (w_1:(Ty.kd (.sl (.int .i64))).wf a1_l):qgG a0_x a1_l (fun o0=>o0=(qat a0_x a1_l)):=by
 unfold qgG
 refine ⟨fun s i=> ∃j:Nat,i=(j:Int)∧j≤a1_l.length∧s=qat a0_x (a1_l.take j),fun _ i=>a1_l.length - i.toNat,⟨0,rfl,by omega,rfl⟩,?_⟩
 rintro s i ⟨j,rfl,hj,rfl⟩ _ _
 refine ⟨fun hlt=>⟨⟨by omega,hlt⟩,fun _=>⟨by have:=w_1.1;unfold LM at this;omega,⟨j+1,by omega,by omega,?_⟩,?_⟩⟩,fun hge=>?_⟩
 ·rw [qbc hlt]
  simp [qat]
 ·show a1_l.length - ((j:Int)+1).toNat<a1_l.length - (j:Int).toNat
  omega
 ·have:j=a1_l.length:=by omega
  subst this
  rw [List.take_length]
theorem qmM:(∀a,qd6.pre a→PM.wfP qd6.pm a (fvc qll 200 146 qd6 a (eqO qd6 a)))=(∀a:Int×(List Int)×Unit,True→(Ty.kd (.int .u32)).wf a.1→(Ty.kd (.sl (.int .i64))).wf a.2.1→qgG a.1 a.2.1 (fun o0=>o0=(qat (a.1) (a.2.1)))):=by kernel_rfl
theorem qox:qd6.valid Try.prog 146:=qa6 (X:=qll) (qbT qaH (fun b hb=>by cases hb;exact qa5) qa8 ⟨qpq,trivial⟩) 200 (qmM.mpr fun a hp w_0 w_1=> @qmN a.1 a.2.1 w_0 w_1)
noncomputable def qfm:Ctr:=⟨[.bx (.pr (.arr 8 (.int .u32)) (.pr (.int .u64) (.sl .byte))) false],[.v (.int .u64)],none,fun a=>(fun (a0_h:(List Int)×Int×List UInt8)=>(((hLen a0_h),()),(()))) a.1⟩
noncomputable def qmW:Fx:=⟨seat,some bkT,fns,[],[],[],[(3,[],[.o 0 2,.o 1 2,.o 2 2,.o 3 2,.o 4 2,.o 5 2,.o 6 2,.o 7 2,.o 8 2,.o 9 2,.o 10 2,.o 11 2,.o 12 2])]⟩
def qjP (a0_h:(List Int)×Int×List UInt8) (Q:Int→Prop):Prop:=
 Q (IntKind.u64.wrap (IntKind.u64.wrap ((64:Int) *a0_h.snd.fst)+IntKind.u64.wrap (a0_h.snd.snd.length:Int)))
theorem qny {a0_h:(List Int)×Int×List UInt8} (w_0:(Ty.kd (.pr (.arr 8 (.int .u32)) (.pr (.int .u64) (.sl .byte)))).wf a0_h):qjP a0_h (fun o0=>o0=(hLen a0_h)):=by
 exact rfl
theorem qnx:(∀a,qfm.pre a→PM.wfP qfm.pm a (fvc qmW 200 138 qfm a (eqO qfm a)))=(∀a:((List Int)×Int×List UInt8)×Unit,True→(Ty.kd (.pr (.arr 8 (.int .u32)) (.pr (.int .u64) (.sl .byte)))).wf a.1→qjP a.1 (fun o0=>o0=(hLen (a.1)))):=by kernel_rfl
theorem qoP:qfm.valid Try.prog 138:=qa6 (X:=qmW) (qbT qaH (fun b hb=>by cases hb;exact qa5) qa8 trivial) 200 (qnx.mpr fun a hp w_0=> @qny a.1 w_0)
noncomputable def qdK:Ctr:=⟨[.bx (.pr (.arr 8 (.int .u32)) (.pr (.int .u64) (.sl .byte))) false],[.bx (.pr (.arr 8 (.int .u32)) (.pr (.int .u64) (.sl .byte)))],some (fun a=>(fun (a0_h:(List Int)×Int×List UInt8)=>(a0_h.2.2.length≤140737488355328:Prop)) a.1),fun a=>(fun (a0_h:(List Int)×Int×List UInt8)=>((a0_h,()),(()))) a.1⟩
noncomputable def qjO:Fx:=⟨seat,some bkT,fns,[(69,qcv)],[],[],[]⟩
def qil (a0_h:(List Int)×Int×List UInt8) (Q:((List Int)×Int×List UInt8)→Prop):Prop:=
 a0_h.snd.snd.length≤(140737488355328:Nat)∧(Ty.byte.kd.sl.wf a0_h.snd.snd→Q (a0_h.fst,a0_h.snd.fst,a0_h.snd.snd))
theorem qlQ {a0_h:(List Int)×Int×List UInt8} (w_0:(Ty.kd (.pr (.arr 8 (.int .u32)) (.pr (.int .u64) (.sl .byte)))).wf a0_h) (hp:a0_h.2.2.length≤140737488355328):qil a0_h (fun o0=>o0=a0_h):=by
 exact ⟨hp,fun _=>rfl⟩
theorem qlP:(∀a,qdK.pre a→PM.wfP qdK.pm a (fvc qjO 200 137 qdK a (eqO qdK a)))=(∀a:((List Int)×Int×List UInt8)×Unit,((a.1).2.2.length≤140737488355328)→(Ty.kd (.pr (.arr 8 (.int .u32)) (.pr (.int .u64) (.sl .byte)))).wf a.1→qil a.1 (fun o0=>o0=(a.1))):=by kernel_rfl
theorem qnw:qdK.valid Try.prog 137:=qa6 (X:=qjO) (qbT qaH (fun b hb=>by cases hb;exact qa5) qa8 ⟨qfX,trivial⟩) 200 (qlP.mpr fun a hp w_0=> @qlQ a.1 w_0 hp)
end Go.Proofs.Ytmjjkpiglbpkhaa

set_option linter.unusedVariables false
set_option maxRecDepth 100000
set_option maxHeartbeats 20000000
namespace Go.Proofs.Ytmjjkpiglbpkhaa
open Go Go.RowKit Go.Inc
noncomputable def qfQ:Ctr:=⟨[.bx (.arr 8 (.int .u32)) true,.v (.sl .byte)],[],some (fun a=>(fun (a0_s:List Int) (a1_b:List UInt8)=>(a1_b.length=64:Prop)) a.1 a.2.1),fun a=>(fun (a0_s:List Int) (a1_b:List UInt8)=>((()),((qhj a0_s a1_b),()))) a.1 a.2.1⟩
noncomputable def qnh:Fx:=⟨seat,some bkT,fns,[(146,qd6),(147,qc0)],[],[(2,[1],[]),(10,[2],[]),(18,[0],[])],[(5,[1],[.o 0 2,.o 1 2,.o 2 2,.o 3 2,.o 4 2,.o 5 2,.o 6 2,.o 7 2,.o 8 2,.o 9 2,.o 10 2,.o 11 2,.o 12 2,.o 13 2,.o 14 2,.o 15 2,.o 16 2,.o 17 2,.o 18 2,.o 19 2,.o 20 2,.o 21 2,.o 22 2,.o 23 2,.o 24 2,.o 25 2,.o 26 2,.o 27 2,.o 28 2,.o 29 2,.o 30 2,.o 31 2,.o 32 2,.o 33 2,.o 34 2,.o 35 1]),(6,[1],[.o 0 2,.o 1 2,.o 2 2,.o 3 2,.o 4 2,.o 5 2,.o 6 2,.o 7 2,.o 8 2,.o 9 2,.o 10 2,.o 11 2,.o 12 2,.o 13 2,.o 16 2,.o 17 2,.o 18 2,.o 19 2,.o 20 2,.o 23 2,.o 24 2,.o 25 2,.o 26 2,.o 29 2,.o 30 2,.o 31 2,.o 32 2,.o 33 2,.par [14,15,21,22,27] (.alt 14 0 (.alt 15 0 (.one 21 2 (.one 22 2 (.one 27 0 .fin))) (.alt 27 0 (.one 15 0 (.one 21 2 (.one 22 2 .fin))) .fin)) (.alt 27 0 (.one 14 0 (.one 15 0 (.one 21 2 (.one 22 2 .fin)))) .fin)),.o 28 0,.o 34 2,.o 35 2,.o 36 2,.o 37 1]),(12,[],[.o 0 2,.o 1 2,.o 2 2,.o 3 2,.o 4 2,.o 5 2]),(13,[],[.o 0 2,.o 1 2,.o 2 2,.o 6 2,.o 7 2,.o 8 2,.o 9 2,.o 10 2,.o 11 2,.o 12 2,.o 13 2,.o 14 2,.o 15 2,.o 17 2,.o 19 2,.o 20 2,.o 21 2,.o 3 0,.o 4 0,.o 5 2,.o 16 2,.o 18 2,.o 22 2,.o 23 2]),(14,[],[.o 0 2,.o 3 2,.o 4 2,.o 5 2,.o 6 2,.o 7 2,.o 8 2,.o 9 2,.o 10 2,.o 11 2,.o 12 2,.o 13 2,.o 14 2,.o 15 2,.o 16 2,.o 17 2,.o 1 0,.o 2 0,.o 18 2,.o 19 2]),(20,[0],[.o 0 2,.o 1 2,.o 2 2,.o 3 2,.o 4 2,.o 5 2,.o 6 2,.o 7 2,.o 8 2,.o 9 2,.o 10 2,.o 11 1])]⟩
def qh9 (a0_s:List Int) (a1_b:List UInt8) (Q:(List Int)→Prop):Prop:=
 ∃(x0:Int→List Int→Prop),∃(x1:Int→List Int→Nat),x0 (0:Int) (Ty.arr (64:Nat) (Ty.int IntKind.u32)).kd.z∧∀(x2:Int) (x3:List Int),x0 x2 x3→(Kd.int IntKind.i64).wf x2→(Ty.arr (64:Nat) (Ty.int IntKind.u32)).kd.wf x3→(x2<(64:Int)→(x2<(16:Int)→((0:Int)≤IntKind.i64.wrap ((4:Int) *x2)∧IntKind.i64.wrap ((4:Int) *x2)<(a1_b.length:Int))∧((0:Int)≤IntKind.i64.wrap (IntKind.i64.wrap ((4:Int) *x2)+(1:Int))∧IntKind.i64.wrap (IntKind.i64.wrap ((4:Int) *x2)+(1:Int))<(a1_b.length:Int))∧((0:Int)≤IntKind.i64.wrap (IntKind.i64.wrap ((4:Int) *x2)+(2:Int))∧IntKind.i64.wrap (IntKind.i64.wrap ((4:Int) *x2)+(2:Int))<(a1_b.length:Int))∧((0:Int)≤IntKind.i64.wrap (IntKind.i64.wrap ((4:Int) *x2)+(3:Int))∧IntKind.i64.wrap (IntKind.i64.wrap ((4:Int) *x2)+(3:Int))<(a1_b.length:Int))∧((0:Int)≤x2∧x2<((64:Nat):Int))∧x2<(9223372036854775807:Int)∧x0 (x2+(1:Int)) (x3.set x2.toNat (bor IntKind.u32 (bor IntKind.u32 (bor IntKind.u32 (shl IntKind.u32 (bI (ix a1_b (IntKind.i64.wrap ((4:Int) *x2)))) (24:Int)) (shl IntKind.u32 (bI (ix a1_b (IntKind.i64.wrap (IntKind.i64.wrap ((4:Int) *x2)+(1:Int))))) (16:Int))) (shl IntKind.u32 (bI (ix a1_b (IntKind.i64.wrap (IntKind.i64.wrap ((4:Int) *x2)+(2:Int))))) (8:Int))) (bI (ix a1_b (IntKind.i64.wrap (IntKind.i64.wrap ((4:Int) *x2)+(3:Int)))))))∧x1 (x2+(1:Int)) (x3.set x2.toNat (bor IntKind.u32 (bor IntKind.u32 (bor IntKind.u32 (shl IntKind.u32 (bI (ix a1_b (IntKind.i64.wrap ((4:Int) *x2)))) (24:Int)) (shl IntKind.u32 (bI (ix a1_b (IntKind.i64.wrap (IntKind.i64.wrap ((4:Int) *x2)+(1:Int))))) (16:Int))) (shl IntKind.u32 (bI (ix a1_b (IntKind.i64.wrap (IntKind.i64.wrap ((4:Int) *x2)+(2:Int))))) (8:Int))) (bI (ix a1_b (IntKind.i64.wrap (IntKind.i64.wrap ((4:Int) *x2)+(3:Int)))))))<x1 x2 x3)∧(¬x2<(16:Int)→((0:Int)≤IntKind.i64.wrap (x2 - (16:Int))∧IntKind.i64.wrap (x2 - (16:Int))<((64:Nat):Int))∧((0:Int)≤IntKind.i64.wrap (x2 - (7:Int))∧IntKind.i64.wrap (x2 - (7:Int))<((64:Nat):Int))∧((0:Int)≤IntKind.i64.wrap (x2 - (15:Int))∧IntKind.i64.wrap (x2 - (15:Int))<((64:Nat):Int))∧((0:Int)≤IntKind.i64.wrap (x2 - (15:Int))∧IntKind.i64.wrap (x2 - (15:Int))<((64:Nat):Int))∧((0:Int)≤IntKind.i64.wrap (x2 - (2:Int))∧IntKind.i64.wrap (x2 - (2:Int))<((64:Nat):Int))∧((0:Int)≤IntKind.i64.wrap (x2 - (2:Int))∧IntKind.i64.wrap (x2 - (2:Int))<((64:Nat):Int))∧(((Ty.int IntKind.u32).kd.wf (qat (ix x3 (IntKind.i64.wrap (x2 - (15:Int)))) ((7:Int)::(18:Int)::([]:List Int)))→(Ty.int IntKind.u32).kd.wf (qat (ix x3 (IntKind.i64.wrap (x2 - (2:Int)))) ((17:Int)::(19:Int)::([]:List Int)))→((0:Int)≤x2∧x2<((64:Nat):Int))∧x2<(9223372036854775807:Int)∧x0 (x2+(1:Int)) (x3.set x2.toNat (IntKind.u32.wrap (IntKind.u32.wrap (IntKind.u32.wrap (ix x3 (IntKind.i64.wrap (x2 - (16:Int)))+ix x3 (IntKind.i64.wrap (x2 - (7:Int))))+bxor IntKind.u32 (qat (ix x3 (IntKind.i64.wrap (x2 - (15:Int)))) ((7:Int)::(18:Int)::([]:List Int))) (shr IntKind.u32 (ix x3 (IntKind.i64.wrap (x2 - (15:Int)))) (3:Int)))+bxor IntKind.u32 (qat (ix x3 (IntKind.i64.wrap (x2 - (2:Int)))) ((17:Int)::(19:Int)::([]:List Int))) (shr IntKind.u32 (ix x3 (IntKind.i64.wrap (x2 - (2:Int)))) (10:Int)))))∧x1 (x2+(1:Int)) (x3.set x2.toNat (IntKind.u32.wrap (IntKind.u32.wrap (IntKind.u32.wrap (ix x3 (IntKind.i64.wrap (x2 - (16:Int)))+ix x3 (IntKind.i64.wrap (x2 - (7:Int))))+bxor IntKind.u32 (qat (ix x3 (IntKind.i64.wrap (x2 - (15:Int)))) ((7:Int)::(18:Int)::([]:List Int))) (shr IntKind.u32 (ix x3 (IntKind.i64.wrap (x2 - (15:Int)))) (3:Int)))+bxor IntKind.u32 (qat (ix x3 (IntKind.i64.wrap (x2 - (2:Int)))) ((17:Int)::(19:Int)::([]:List Int))) (shr IntKind.u32 (ix x3 (IntKind.i64.wrap (x2 - (2:Int)))) (10:Int)))))<x1 x2 x3)∧((Ty.int IntKind.u32).kd.wf (qat (ix x3 (IntKind.i64.wrap (x2 - (15:Int)))) ((7:Int)::(18:Int)::([]:List Int)))→(Ty.int IntKind.u32).kd.wf (qat (ix x3 (IntKind.i64.wrap (x2 - (2:Int)))) ((17:Int)::(19:Int)::([]:List Int)))→((0:Int)≤x2∧x2<((64:Nat):Int))∧x2<(9223372036854775807:Int)∧x0 (x2+(1:Int)) (x3.set x2.toNat (IntKind.u32.wrap (IntKind.u32.wrap (IntKind.u32.wrap (ix x3 (IntKind.i64.wrap (x2 - (16:Int)))+ix x3 (IntKind.i64.wrap (x2 - (7:Int))))+bxor IntKind.u32 (qat (ix x3 (IntKind.i64.wrap (x2 - (15:Int)))) ((7:Int)::(18:Int)::([]:List Int))) (shr IntKind.u32 (ix x3 (IntKind.i64.wrap (x2 - (15:Int)))) (3:Int)))+bxor IntKind.u32 (qat (ix x3 (IntKind.i64.wrap (x2 - (2:Int)))) ((17:Int)::(19:Int)::([]:List Int))) (shr IntKind.u32 (ix x3 (IntKind.i64.wrap (x2 - (2:Int)))) (10:Int)))))∧x1 (x2+(1:Int)) (x3.set x2.toNat (IntKind.u32.wrap (IntKind.u32.wrap (IntKind.u32.wrap (ix x3 (IntKind.i64.wrap (x2 - (16:Int)))+ix x3 (IntKind.i64.wrap (x2 - (7:Int))))+bxor IntKind.u32 (qat (ix x3 (IntKind.i64.wrap (x2 - (15:Int)))) ((7:Int)::(18:Int)::([]:List Int))) (shr IntKind.u32 (ix x3 (IntKind.i64.wrap (x2 - (15:Int)))) (3:Int)))+bxor IntKind.u32 (qat (ix x3 (IntKind.i64.wrap (x2 - (2:Int)))) ((17:Int)::(19:Int)::([]:List Int))) (shr IntKind.u32 (ix x3 (IntKind.i64.wrap (x2 - (2:Int)))) (10:Int)))))<x1 x2 x3)∧True)∧((Ty.int IntKind.u32).kd.wf (qat (ix x3 (IntKind.i64.wrap (x2 - (15:Int)))) ((7:Int)::(18:Int)::([]:List Int)))→(Ty.int IntKind.u32).kd.wf (qat (ix x3 (IntKind.i64.wrap (x2 - (2:Int)))) ((17:Int)::(19:Int)::([]:List Int)))→((0:Int)≤x2∧x2<((64:Nat):Int))∧x2<(9223372036854775807:Int)∧x0 (x2+(1:Int)) (x3.set x2.toNat (IntKind.u32.wrap (IntKind.u32.wrap (IntKind.u32.wrap (ix x3 (IntKind.i64.wrap (x2 - (16:Int)))+ix x3 (IntKind.i64.wrap (x2 - (7:Int))))+bxor IntKind.u32 (qat (ix x3 (IntKind.i64.wrap (x2 - (15:Int)))) ((7:Int)::(18:Int)::([]:List Int))) (shr IntKind.u32 (ix x3 (IntKind.i64.wrap (x2 - (15:Int)))) (3:Int)))+bxor IntKind.u32 (qat (ix x3 (IntKind.i64.wrap (x2 - (2:Int)))) ((17:Int)::(19:Int)::([]:List Int))) (shr IntKind.u32 (ix x3 (IntKind.i64.wrap (x2 - (2:Int)))) (10:Int)))))∧x1 (x2+(1:Int)) (x3.set x2.toNat (IntKind.u32.wrap (IntKind.u32.wrap (IntKind.u32.wrap (ix x3 (IntKind.i64.wrap (x2 - (16:Int)))+ix x3 (IntKind.i64.wrap (x2 - (7:Int))))+bxor IntKind.u32 (qat (ix x3 (IntKind.i64.wrap (x2 - (15:Int)))) ((7:Int)::(18:Int)::([]:List Int))) (shr IntKind.u32 (ix x3 (IntKind.i64.wrap (x2 - (15:Int)))) (3:Int)))+bxor IntKind.u32 (qat (ix x3 (IntKind.i64.wrap (x2 - (2:Int)))) ((17:Int)::(19:Int)::([]:List Int))) (shr IntKind.u32 (ix x3 (IntKind.i64.wrap (x2 - (2:Int)))) (10:Int)))))<x1 x2 x3)∧True))∧(¬x2<(64:Int)→(Ty.arr (64:Nat) (Ty.int IntKind.u32)).kd.wf shaK→∃(x9:Int→List Int→Prop),∃(x10:Int→List Int→Nat),x9 (0:Int) a0_s∧∀(x11:Int) (x12:List Int),x9 x11 x12→(Kd.int IntKind.i64).wf x11→(Ty.arr (8:Nat) (Ty.int IntKind.u32)).kd.wf x12→(x11<(64:Int)→((0:Int)≤x11∧x11<((64:Nat):Int))∧((0:Int)≤x11∧x11<((64:Nat):Int))∧((Ty.int IntKind.u32).kd.wf (qat (ix x12 (4:Int)) ((6:Int)::(11:Int)::(25:Int)::([]:List Int)))→(Ty.int IntKind.u32).kd.wf (qat (ix x12 (0:Int)) ((2:Int)::(13:Int)::(22:Int)::([]:List Int)))→x11<(9223372036854775807:Int)∧x9 (x11+(1:Int)) (IntKind.u32.wrap (IntKind.u32.wrap (IntKind.u32.wrap (IntKind.u32.wrap (IntKind.u32.wrap (ix x12 (7:Int)+qat (ix x12 (4:Int)) ((6:Int)::(11:Int)::(25:Int)::([]:List Int)))+bxor IntKind.u32 (band IntKind.u32 (ix x12 (4:Int)) (ix x12 (5:Int))) (band IntKind.u32 (bxor IntKind.u32 (if IntKind.u32.signed=true then (-1:Int) else IntKind.u32.max) (ix x12 (4:Int))) (ix x12 (6:Int))))+ix shaK x11)+ix x3 x11)+IntKind.u32.wrap (qat (ix x12 (0:Int)) ((2:Int)::(13:Int)::(22:Int)::([]:List Int))+bxor IntKind.u32 (bxor IntKind.u32 (band IntKind.u32 (ix x12 (0:Int)) (ix x12 (1:Int))) (band IntKind.u32 (ix x12 (0:Int)) (ix x12 (2:Int)))) (band IntKind.u32 (ix x12 (1:Int)) (ix x12 (2:Int)))))::ix x12 (0:Int)::ix x12 (1:Int)::ix x12 (2:Int)::IntKind.u32.wrap (ix x12 (3:Int)+IntKind.u32.wrap (IntKind.u32.wrap (IntKind.u32.wrap (IntKind.u32.wrap (ix x12 (7:Int)+qat (ix x12 (4:Int)) ((6:Int)::(11:Int)::(25:Int)::([]:List Int)))+bxor IntKind.u32 (band IntKind.u32 (ix x12 (4:Int)) (ix x12 (5:Int))) (band IntKind.u32 (bxor IntKind.u32 (if IntKind.u32.signed=true then (-1:Int) else IntKind.u32.max) (ix x12 (4:Int))) (ix x12 (6:Int))))+ix shaK x11)+ix x3 x11))::ix x12 (4:Int)::ix x12 (5:Int)::ix x12 (6:Int)::([]:List Int))∧x10 (x11+(1:Int)) (IntKind.u32.wrap (IntKind.u32.wrap (IntKind.u32.wrap (IntKind.u32.wrap (IntKind.u32.wrap (ix x12 (7:Int)+qat (ix x12 (4:Int)) ((6:Int)::(11:Int)::(25:Int)::([]:List Int)))+bxor IntKind.u32 (band IntKind.u32 (ix x12 (4:Int)) (ix x12 (5:Int))) (band IntKind.u32 (bxor IntKind.u32 (if IntKind.u32.signed=true then (-1:Int) else IntKind.u32.max) (ix x12 (4:Int))) (ix x12 (6:Int))))+ix shaK x11)+ix x3 x11)+IntKind.u32.wrap (qat (ix x12 (0:Int)) ((2:Int)::(13:Int)::(22:Int)::([]:List Int))+bxor IntKind.u32 (bxor IntKind.u32 (band IntKind.u32 (ix x12 (0:Int)) (ix x12 (1:Int))) (band IntKind.u32 (ix x12 (0:Int)) (ix x12 (2:Int)))) (band IntKind.u32 (ix x12 (1:Int)) (ix x12 (2:Int)))))::ix x12 (0:Int)::ix x12 (1:Int)::ix x12 (2:Int)::IntKind.u32.wrap (ix x12 (3:Int)+IntKind.u32.wrap (IntKind.u32.wrap (IntKind.u32.wrap (IntKind.u32.wrap (ix x12 (7:Int)+qat (ix x12 (4:Int)) ((6:Int)::(11:Int)::(25:Int)::([]:List Int)))+bxor IntKind.u32 (band IntKind.u32 (ix x12 (4:Int)) (ix x12 (5:Int))) (band IntKind.u32 (bxor IntKind.u32 (if IntKind.u32.signed=true then (-1:Int) else IntKind.u32.max) (ix x12 (4:Int))) (ix x12 (6:Int))))+ix shaK x11)+ix x3 x11))::ix x12 (4:Int)::ix x12 (5:Int)::ix x12 (6:Int)::([]:List Int))<x10 x11 x12))∧(¬x11<(64:Int)→∃(x17:Int→List Int→Prop),∃(x18:Int→List Int→Nat),x17 (0:Int) a0_s∧∀(x19:Int) (x20:List Int),x17 x19 x20→(Kd.int IntKind.i64).wf x19→(Ty.arr (8:Nat) (Ty.int IntKind.u32)).kd.wf x20→(x19<(8:Int)→((0:Int)≤x19∧x19<((8:Nat):Int))∧((0:Int)≤x19∧x19<((8:Nat):Int))∧((0:Int)≤x19∧x19<((8:Nat):Int))∧x19<(9223372036854775807:Int)∧x17 (x19+(1:Int)) (x20.set x19.toNat (IntKind.u32.wrap (ix x20 x19+ix x12 x19)))∧x18 (x19+(1:Int)) (x20.set x19.toNat (IntKind.u32.wrap (ix x20 x19+ix x12 x19)))<x18 x19 x20)∧(¬x19<(8:Int)→Q x20)))
theorem qow {a0_s:List Int} {a1_b:List UInt8} (w_0:(Ty.kd (.arr 8 (.int .u32))).wf a0_s) (w_1:(Ty.kd (.sl .byte)).wf a1_b) (hp:a1_b.length=64):qh9 a0_s a1_b (fun o0=>o0=(qhj a0_s a1_b)):=by
 have wr: ∀a:Int, -1000≤a→a≤1000→IntKind.i64.wrap a=a:=fun a h1 h2=>qaI (wf64 (by omega) (by omega))
 unfold qh9
 refine ⟨fun i w=> ∃n:Nat,i=(n:Int)∧n≤64∧w=qeg a1_b n,fun i _=>64 - i.toNat,⟨0,rfl,by omega,rfl⟩,?_⟩
 rintro i w ⟨n,rfl,hn,rfl⟩ _ _
 refine ⟨fun hlt=>⟨fun h16=>?_,fun h16=>?_⟩,fun hge _=>?_⟩
 ·rw [wr (4 *(n:Int)) (by omega) (by omega),wr (4 *(n:Int)+1) (by omega) (by omega),wr (4 *(n:Int)+2) (by omega) (by omega),wr (4 *(n:Int)+3) (by omega) (by omega)]
  refine ⟨by omega,by omega,by omega,by omega,by omega,by omega,⟨n+1,by omega,by omega,?_⟩,?_⟩
  ·simp only [qeg,Int.toNat_natCast]
   rw [if_pos (by omega)]
   rfl
  ·show 64 - ((n:Int)+1).toNat<64 - (n:Int).toNat
   omega
 ·rw [wr ((n:Int) - 16) (by omega) (by omega),wr ((n:Int) - 7) (by omega) (by omega),wr ((n:Int) - 15) (by omega) (by omega),wr ((n:Int) - 2) (by omega) (by omega)]
  iterate 14 (all_goals (try intros);all_goals (try omega);all_goals (try (refine And.intro ?_ ?_)))
  all_goals first | trivial | omega | exact ⟨n+1,by omega,by omega,by simp only [qeg,Int.toNat_natCast];rw [if_neg (by omega)];rfl⟩ | (show 64 - ((n:Int)+1).toNat<64 - (n:Int).toNat;omega)
 ·have:n=64:=by omega
  subst this
  refine ⟨fun i x=> ∃n:Nat,i=(n:Int)∧n≤64∧x=qgC (qeg a1_b 64) a0_s n,fun i _=>64 - i.toNat,⟨0,rfl,by omega,rfl⟩,?_⟩
  rintro i x ⟨n,rfl,hn,rfl⟩ _ _
  refine ⟨fun hlt=>?_,fun hge=>?_⟩
  ·iterate 14 (all_goals (try intros);all_goals (try omega);all_goals (try (refine And.intro ?_ ?_)))
   all_goals first | trivial | omega | exact ⟨n+1,by omega,by omega,rfl⟩ | (show 64 - ((n:Int)+1).toNat<64 - (n:Int).toNat;omega)
  ·have:n=64:=by omega
   subst this
   refine ⟨fun i s=> ∃n:Nat,i=(n:Int)∧n≤8∧s=addN a0_s (qgC (qeg a1_b 64) a0_s 64) n,fun i _=>8 - i.toNat,⟨0,rfl,by omega,rfl⟩,?_⟩
   rintro i s ⟨n,rfl,hn,rfl⟩ _ _
   refine ⟨fun hlt=>?_,fun hge=>?_⟩
   ·iterate 14 (all_goals (try intros);all_goals (try omega);all_goals (try (refine And.intro ?_ ?_)))
    all_goals first | trivial | omega | exact ⟨n+1,by omega,by omega,by simp [addN]⟩ | (show 8 - ((n:Int)+1).toNat<8 - (n:Int).toNat;omega)
   ·have:n=8:=by omega
    subst this
    rfl
theorem qov:(∀a,qfQ.pre a→PM.wfP qfQ.pm a (fvc qnh 200 136 qfQ a (eqO qfQ a)))=(∀a:(List Int)×(List UInt8)×Unit,((a.2.1).length=64)→(Ty.kd (.arr 8 (.int .u32))).wf a.1→(Ty.kd (.sl .byte)).wf a.2.1→qh9 a.1 a.2.1 (fun o0=>o0=(qhj (a.1) (a.2.1)))):=by kernel_rfl
theorem qp5:qfQ.valid Try.prog 136:=qa6 (X:=qnh) (qbT qaH (fun b hb=>by cases hb;exact qa5) qa8 ⟨qox,qmF,trivial⟩) 200 (qov.mpr fun a hp w_0 w_1=> @qow a.1 a.2.1 w_0 w_1 hp)
end Go.Proofs.Ytmjjkpiglbpkhaa

set_option linter.unusedVariables false
set_option maxRecDepth 100000
set_option maxHeartbeats 20000000
namespace Go.Proofs.Ytmjjkpiglbpkhaa
open Go Go.RowKit Go.Inc
noncomputable def qcg:Ctr:=⟨[.bx (.pr (.arr 8 (.int .u32)) (.pr (.int .u64) (.sl .byte))) true,.v (.sl (.sl .byte))],[],some (fun a=>(fun (a0_h:(List Int)×Int×List UInt8) (a1_parts:List (List UInt8))=>((1+a1_parts.length) *24≤140737488355328∧(a0_h.2.2++a1_parts.flatten).length≤140737488355328:Prop)) a.1 a.2.1),fun a=>(fun (a0_h:(List Int)×Int×List UInt8) (a1_parts:List (List UInt8))=>((()),((qas a0_h a1_parts),()))) a.1 a.2.1⟩
noncomputable def qim:Fx:=⟨seat,some bkT,fns,[(134,qii),(135,qdY),(136,qfQ)],[],[(2,[0],[])],[(6,[0,1,2,3,4,5,6,7,8,9,10,11,12],[.o 0 2,.o 1 2,.o 2 2,.o 3 2,.o 4 2,.o 5 2,.o 6 2,.o 7 2,.o 8 1])]⟩
def qeG (a0_h:(List Int)×Int×List UInt8) (a1_parts:List (List UInt8)) (Q:((List Int)×Int×List UInt8)→Prop):Prop:=
 ((a0_h.snd.snd::([]:List (List UInt8))).length+a1_parts.length) *(24:Nat)≤(140737488355328:Nat)∧(a0_h.snd.snd::([]:List (List UInt8))++a1_parts).flatten.length≤(140737488355328:Nat)∧(Ty.byte.kd.sl.wf (a0_h.snd.snd::([]:List (List UInt8))++a1_parts).flatten→∃(x0:List Int×Int×List UInt8→Prop),∃(x1:List Int×Int×List UInt8→Nat),x0 (a0_h.fst,a0_h.snd.fst,(a0_h.snd.snd::([]:List (List UInt8))++a1_parts).flatten)∧∀(x2:List Int×Int×List UInt8),x0 x2→((Ty.arr (8:Nat) (Ty.int IntKind.u32)).pr ((Ty.int IntKind.u64).pr Ty.byte.sl)).kd.wf x2→((64:Int)≤(x2.snd.snd.length:Int)→(x2.snd.fst=(0:Int)→(Ty.arr (8:Nat) (Ty.int IntKind.u32)).kd.wf shaH→((0:Int)≤(64:Int)∧(64:Int)≤(x2.snd.snd.length:Int))∧(List.take (Int.toNat (64:Int)) x2.snd.snd).length=(64:Nat)∧((0:Int)≤(64:Int)∧(64:Int)≤(x2.snd.snd.length:Int))∧x0 (qhj shaH (List.take (Int.toNat (64:Int)) x2.snd.snd),IntKind.u64.wrap (x2.snd.fst+(1:Int)),List.drop (Int.toNat (64:Int)) x2.snd.snd)∧x1 (qhj shaH (List.take (Int.toNat (64:Int)) x2.snd.snd),IntKind.u64.wrap (x2.snd.fst+(1:Int)),List.drop (Int.toNat (64:Int)) x2.snd.snd)<x1 x2)∧(¬x2.snd.fst=(0:Int)→((0:Int)≤(64:Int)∧(64:Int)≤(x2.snd.snd.length:Int))∧(List.take (Int.toNat (64:Int)) x2.snd.snd).length=(64:Nat)∧((0:Int)≤(64:Int)∧(64:Int)≤(x2.snd.snd.length:Int))∧x0 (qhj x2.fst (List.take (Int.toNat (64:Int)) x2.snd.snd),IntKind.u64.wrap (x2.snd.fst+(1:Int)),List.drop (Int.toNat (64:Int)) x2.snd.snd)∧x1 (qhj x2.fst (List.take (Int.toNat (64:Int)) x2.snd.snd),IntKind.u64.wrap (x2.snd.fst+(1:Int)),List.drop (Int.toNat (64:Int)) x2.snd.snd)<x1 x2))∧(¬(64:Int)≤(x2.snd.snd.length:Int)→Q x2))
theorem qjR {a0_h:(List Int)×Int×List UInt8} {a1_parts:List (List UInt8)} (w_0:(Ty.kd (.pr (.arr 8 (.int .u32)) (.pr (.int .u64) (.sl .byte)))).wf a0_h) (w_1:(Ty.kd (.sl (.sl .byte))).wf a1_parts) (hp:(1+a1_parts.length) *24≤140737488355328∧(a0_h.2.2++a1_parts.flatten).length≤140737488355328):qeG a0_h a1_parts (fun o0=>o0=(qas a0_h a1_parts)):=by
 obtain ⟨h1,h2⟩:=hp
 unfold qeG
 refine ⟨by simp only [List.length_cons,List.length_nil];omega,by simpa using h2,fun _=>⟨fun b=>eat b.1 b.2.1 b.2.2=qas a0_h a1_parts,fun b=>b.2.2.length,by simp [qas],?_⟩⟩
 rintro ⟨s,n,r⟩ hI hwf
 refine ⟨fun h64=>?_,fun h64=>?_⟩
 ·have hl:64≤r.length:=by
   have h:(64:Int)≤(r.length:Int):=h64
   omega
  have ht:(r.take 64).length=64:=by rw [List.length_take];omega
  have hd:(r.drop 64).length<r.length:=by rw [List.length_drop];omega
  dsimp only at hI⊢
  rw [eat,if_pos hl] at hI
  refine ⟨fun h0 _=>⟨⟨by omega,by omega⟩,ht,⟨by omega,by omega⟩,?_,hd⟩,fun h0=>⟨⟨by omega,by omega⟩,ht,⟨by omega,by omega⟩,?_,hd⟩⟩
  ·rw [if_pos h0] at hI
   exact hI
  ·rw [if_neg h0] at hI
   exact hI
 ·have hl: ¬(64≤r.length):=fun h=>h64 (by show (64:Int)≤(r.length:Int);omega)
  dsimp only at hI⊢
  rw [eat,if_neg hl] at hI
  exact hI
theorem qjQ:(∀a,qcg.pre a→PM.wfP qcg.pm a (fvc qim 200 124 qcg a (eqO qcg a)))=(∀a:((List Int)×Int×List UInt8)×(List (List UInt8))×Unit,((1+(a.2.1).length) *24≤140737488355328∧((a.1).2.2++(a.2.1).flatten).length≤140737488355328)→(Ty.kd (.pr (.arr 8 (.int .u32)) (.pr (.int .u64) (.sl .byte)))).wf a.1→(Ty.kd (.sl (.sl .byte))).wf a.2.1→qeG a.1 a.2.1 (fun o0=>o0=(qas (a.1) (a.2.1)))):=by kernel_rfl
theorem qin:qcg.valid Try.prog 124:=qa6 (X:=qim) (qbT qaH (fun b hb=>by cases hb;exact qa5) qa8 ⟨qlL,qn6,qp5,trivial⟩) 200 (qjQ.mpr fun a hp w_0 w_1=> @qjR a.1 a.2.1 w_0 w_1 hp)
noncomputable def qfn:Ctr:=⟨[.bx (.pr (.arr 8 (.int .u32)) (.pr (.int .u64) (.sl .byte))) false],[.v (.arr 32 .byte)],some (fun a=>(fun (a0_h:(List Int)×Int×List UInt8)=>(a0_h.2.2.length<64:Prop)) a.1),fun a=>(fun (a0_h:(List Int)×Int×List UInt8)=>(((hSum a0_h),()),(()))) a.1⟩
noncomputable def qmX:Fx:=⟨seat,some bkT,fns,[(123,qhy),(137,qdK),(138,qfm),(139,qfE),(124,qcg)],[],[(8,[8],[])],[(5,[0,1,2,3,4,5,6,7,8,9,10,11,12],[.o 0 2,.o 2 2,.o 3 2,.o 4 2,.o 5 2,.o 6 2,.o 7 2,.o 8 2,.o 10 2,.o 11 2,.par [1,9,12] (.alt 1 0 (.alt 9 0 (.one 12 0 .fin) (.alt 12 0 (.one 9 0 .fin) .fin)) (.alt 9 0 (.alt 1 0 (.one 12 0 .fin) (.alt 12 0 (.one 1 0 .fin) .fin)) (.alt 12 0 (.alt 1 0 (.one 9 0 .fin) (.alt 9 0 (.one 1 0 .fin) .fin)) .fin))),.o 13 0,.o 14 1]),(10,[0,1,2,3,4,5,6,7,8,9,10,11,12],[.o 0 2,.o 1 2,.o 2 2,.o 3 2,.o 4 2,.o 5 0,.o 6 2,.o 7 1])]⟩
def qhv (a0_h:(List Int)×Int×List UInt8) (Q:(List UInt8)→Prop):Prop:=
 ((Ty.arr (8:Nat) (Ty.int IntKind.u32)).pr ((Ty.int IntKind.u64).pr Ty.byte.sl)).kd.wf (List.replicate (8:Nat) (0:Int),(0:Int),([]:List UInt8))→a0_h.snd.snd.length≤(140737488355328:Nat)∧(((Ty.arr (8:Nat) (Ty.int IntKind.u32)).pr ((Ty.int IntKind.u64).pr Ty.byte.sl)).kd.wf a0_h→(Ty.int IntKind.u64).kd.wf (hLen a0_h)→((((0:Int)≤(IntKind.i64.wrap ((119:Int) - (a0_h.snd.snd.length:Int))).tmod (64:Int)∧(IntKind.i64.wrap ((119:Int) - (a0_h.snd.snd.length:Int))).tmod (64:Int)≤(IntKind.i64.wrap ((119:Int) - (a0_h.snd.snd.length:Int))).tmod (64:Int)∧((1:Nat):Int) *(IntKind.i64.wrap ((119:Int) - (a0_h.snd.snd.length:Int))).tmod (64:Int)≤(281474976710656:Int)∧(IntKind.i64.wrap ((119:Int) - (a0_h.snd.snd.length:Int))).tmod (64:Int)≤(281474976710656:Int))∧(Ty.byte.kd.sl.wf (be (IntKind.u64.wrap ((8:Int) *hLen a0_h)).toNat (8:Nat))→(((1:Nat)+((toB (128:Int)::([]:List UInt8))::List.replicate ((IntKind.i64.wrap ((119:Int) - (a0_h.snd.snd.length:Int))).tmod (64:Int)).toNat Ty.byte.kd.z::be (IntKind.u64.wrap ((8:Int) *hLen a0_h)).toNat (8:Nat)::([]:List (List UInt8))).length) *(24:Nat)≤(140737488355328:Nat)∧(a0_h.snd.snd++((toB (128:Int)::([]:List UInt8))::List.replicate ((IntKind.i64.wrap ((119:Int) - (a0_h.snd.snd.length:Int))).tmod (64:Int)).toNat Ty.byte.kd.z::be (IntKind.u64.wrap ((8:Int) *hLen a0_h)).toNat (8:Nat)::([]:List (List UInt8))).flatten).length≤(140737488355328:Nat))∧∃(x0:Int→List UInt8→Prop),∃(x1:Int→List UInt8→Nat),x0 (0:Int) (Ty.arr (32:Nat) Ty.byte).kd.z∧∀(x2:Int) (x3:List UInt8),x0 x2 x3→(Kd.int IntKind.i64).wf x2→(Ty.arr (32:Nat) Ty.byte).kd.wf x3→(x2<(8:Int)→((0:Int)≤x2∧x2<((8:Nat):Int))∧((0:Int)≤IntKind.i64.wrap ((4:Int) *x2)∧IntKind.i64.wrap ((4:Int) *x2)≤((32:Nat):Int)∧((32:Nat):Int)≤((32:Nat):Int)∧IntKind.i64.wrap ((4:Int) *x2)<((32:Nat):Int))∧(Ty.byte.kd.sl.wf (be (ix (qas a0_h ((toB (128:Int)::([]:List UInt8))::List.replicate ((IntKind.i64.wrap ((119:Int) - (a0_h.snd.snd.length:Int))).tmod (64:Int)).toNat Ty.byte.kd.z::be (IntKind.u64.wrap ((8:Int) *hLen a0_h)).toNat (8:Nat)::([]:List (List UInt8)))).fst x2).toNat (8:Nat))→((0:Int)≤(4:Int)∧(4:Int)≤((be (ix (qas a0_h ((toB (128:Int)::([]:List UInt8))::List.replicate ((IntKind.i64.wrap ((119:Int) - (a0_h.snd.snd.length:Int))).tmod (64:Int)).toNat Ty.byte.kd.z::be (IntKind.u64.wrap ((8:Int) *hLen a0_h)).toNat (8:Nat)::([]:List (List UInt8)))).fst x2).toNat (8:Nat)).length:Int))∧x2<(9223372036854775807:Int)∧x0 (x2+(1:Int)) (List.take (IntKind.i64.wrap ((4:Int) *x2)).toNat x3++List.take (((32:Nat):Int).toNat - (IntKind.i64.wrap ((4:Int) *x2)).toNat) (List.drop (Int.toNat (4:Int)) (be (ix (qas a0_h ((toB (128:Int)::([]:List UInt8))::List.replicate ((IntKind.i64.wrap ((119:Int) - (a0_h.snd.snd.length:Int))).tmod (64:Int)).toNat Ty.byte.kd.z::be (IntKind.u64.wrap ((8:Int) *hLen a0_h)).toNat (8:Nat)::([]:List (List UInt8)))).fst x2).toNat (8:Nat)))++List.drop ((IntKind.i64.wrap ((4:Int) *x2)).toNat+min (List.drop (Int.toNat (4:Int)) (be (ix (qas a0_h ((toB (128:Int)::([]:List UInt8))::List.replicate ((IntKind.i64.wrap ((119:Int) - (a0_h.snd.snd.length:Int))).tmod (64:Int)).toNat Ty.byte.kd.z::be (IntKind.u64.wrap ((8:Int) *hLen a0_h)).toNat (8:Nat)::([]:List (List UInt8)))).fst x2).toNat (8:Nat))).length (((32:Nat):Int).toNat - (IntKind.i64.wrap ((4:Int) *x2)).toNat)) x3)∧x1 (x2+(1:Int)) (List.take (IntKind.i64.wrap ((4:Int) *x2)).toNat x3++List.take (((32:Nat):Int).toNat - (IntKind.i64.wrap ((4:Int) *x2)).toNat) (List.drop (Int.toNat (4:Int)) (be (ix (qas a0_h ((toB (128:Int)::([]:List UInt8))::List.replicate ((IntKind.i64.wrap ((119:Int) - (a0_h.snd.snd.length:Int))).tmod (64:Int)).toNat Ty.byte.kd.z::be (IntKind.u64.wrap ((8:Int) *hLen a0_h)).toNat (8:Nat)::([]:List (List UInt8)))).fst x2).toNat (8:Nat)))++List.drop ((IntKind.i64.wrap ((4:Int) *x2)).toNat+min (List.drop (Int.toNat (4:Int)) (be (ix (qas a0_h ((toB (128:Int)::([]:List UInt8))::List.replicate ((IntKind.i64.wrap ((119:Int) - (a0_h.snd.snd.length:Int))).tmod (64:Int)).toNat Ty.byte.kd.z::be (IntKind.u64.wrap ((8:Int) *hLen a0_h)).toNat (8:Nat)::([]:List (List UInt8)))).fst x2).toNat (8:Nat))).length (((32:Nat):Int).toNat - (IntKind.i64.wrap ((4:Int) *x2)).toNat)) x3)<x1 x2 x3))∧(¬x2<(8:Int)→Q x3)))∧(Ty.byte.kd.sl.wf (be (IntKind.u64.wrap ((8:Int) *hLen a0_h)).toNat (8:Nat))→((0:Int)≤(IntKind.i64.wrap ((119:Int) - (a0_h.snd.snd.length:Int))).tmod (64:Int)∧(IntKind.i64.wrap ((119:Int) - (a0_h.snd.snd.length:Int))).tmod (64:Int)≤(IntKind.i64.wrap ((119:Int) - (a0_h.snd.snd.length:Int))).tmod (64:Int)∧((1:Nat):Int) *(IntKind.i64.wrap ((119:Int) - (a0_h.snd.snd.length:Int))).tmod (64:Int)≤(281474976710656:Int)∧(IntKind.i64.wrap ((119:Int) - (a0_h.snd.snd.length:Int))).tmod (64:Int)≤(281474976710656:Int))∧(((1:Nat)+((toB (128:Int)::([]:List UInt8))::List.replicate ((IntKind.i64.wrap ((119:Int) - (a0_h.snd.snd.length:Int))).tmod (64:Int)).toNat Ty.byte.kd.z::be (IntKind.u64.wrap ((8:Int) *hLen a0_h)).toNat (8:Nat)::([]:List (List UInt8))).length) *(24:Nat)≤(140737488355328:Nat)∧(a0_h.snd.snd++((toB (128:Int)::([]:List UInt8))::List.replicate ((IntKind.i64.wrap ((119:Int) - (a0_h.snd.snd.length:Int))).tmod (64:Int)).toNat Ty.byte.kd.z::be (IntKind.u64.wrap ((8:Int) *hLen a0_h)).toNat (8:Nat)::([]:List (List UInt8))).flatten).length≤(140737488355328:Nat))∧∃(x0:Int→List UInt8→Prop),∃(x1:Int→List UInt8→Nat),x0 (0:Int) (Ty.arr (32:Nat) Ty.byte).kd.z∧∀(x2:Int) (x3:List UInt8),x0 x2 x3→(Kd.int IntKind.i64).wf x2→(Ty.arr (32:Nat) Ty.byte).kd.wf x3→(x2<(8:Int)→((0:Int)≤x2∧x2<((8:Nat):Int))∧((0:Int)≤IntKind.i64.wrap ((4:Int) *x2)∧IntKind.i64.wrap ((4:Int) *x2)≤((32:Nat):Int)∧((32:Nat):Int)≤((32:Nat):Int)∧IntKind.i64.wrap ((4:Int) *x2)<((32:Nat):Int))∧(Ty.byte.kd.sl.wf (be (ix (qas a0_h ((toB (128:Int)::([]:List UInt8))::List.replicate ((IntKind.i64.wrap ((119:Int) - (a0_h.snd.snd.length:Int))).tmod (64:Int)).toNat Ty.byte.kd.z::be (IntKind.u64.wrap ((8:Int) *hLen a0_h)).toNat (8:Nat)::([]:List (List UInt8)))).fst x2).toNat (8:Nat))→((0:Int)≤(4:Int)∧(4:Int)≤((be (ix (qas a0_h ((toB (128:Int)::([]:List UInt8))::List.replicate ((IntKind.i64.wrap ((119:Int) - (a0_h.snd.snd.length:Int))).tmod (64:Int)).toNat Ty.byte.kd.z::be (IntKind.u64.wrap ((8:Int) *hLen a0_h)).toNat (8:Nat)::([]:List (List UInt8)))).fst x2).toNat (8:Nat)).length:Int))∧x2<(9223372036854775807:Int)∧x0 (x2+(1:Int)) (List.take (IntKind.i64.wrap ((4:Int) *x2)).toNat x3++List.take (((32:Nat):Int).toNat - (IntKind.i64.wrap ((4:Int) *x2)).toNat) (List.drop (Int.toNat (4:Int)) (be (ix (qas a0_h ((toB (128:Int)::([]:List UInt8))::List.replicate ((IntKind.i64.wrap ((119:Int) - (a0_h.snd.snd.length:Int))).tmod (64:Int)).toNat Ty.byte.kd.z::be (IntKind.u64.wrap ((8:Int) *hLen a0_h)).toNat (8:Nat)::([]:List (List UInt8)))).fst x2).toNat (8:Nat)))++List.drop ((IntKind.i64.wrap ((4:Int) *x2)).toNat+min (List.drop (Int.toNat (4:Int)) (be (ix (qas a0_h ((toB (128:Int)::([]:List UInt8))::List.replicate ((IntKind.i64.wrap ((119:Int) - (a0_h.snd.snd.length:Int))).tmod (64:Int)).toNat Ty.byte.kd.z::be (IntKind.u64.wrap ((8:Int) *hLen a0_h)).toNat (8:Nat)::([]:List (List UInt8)))).fst x2).toNat (8:Nat))).length (((32:Nat):Int).toNat - (IntKind.i64.wrap ((4:Int) *x2)).toNat)) x3)∧x1 (x2+(1:Int)) (List.take (IntKind.i64.wrap ((4:Int) *x2)).toNat x3++List.take (((32:Nat):Int).toNat - (IntKind.i64.wrap ((4:Int) *x2)).toNat) (List.drop (Int.toNat (4:Int)) (be (ix (qas a0_h ((toB (128:Int)::([]:List UInt8))::List.replicate ((IntKind.i64.wrap ((119:Int) - (a0_h.snd.snd.length:Int))).tmod (64:Int)).toNat Ty.byte.kd.z::be (IntKind.u64.wrap ((8:Int) *hLen a0_h)).toNat (8:Nat)::([]:List (List UInt8)))).fst x2).toNat (8:Nat)))++List.drop ((IntKind.i64.wrap ((4:Int) *x2)).toNat+min (List.drop (Int.toNat (4:Int)) (be (ix (qas a0_h ((toB (128:Int)::([]:List UInt8))::List.replicate ((IntKind.i64.wrap ((119:Int) - (a0_h.snd.snd.length:Int))).tmod (64:Int)).toNat Ty.byte.kd.z::be (IntKind.u64.wrap ((8:Int) *hLen a0_h)).toNat (8:Nat)::([]:List (List UInt8)))).fst x2).toNat (8:Nat))).length (((32:Nat):Int).toNat - (IntKind.i64.wrap ((4:Int) *x2)).toNat)) x3)<x1 x2 x3))∧(¬x2<(8:Int)→Q x3))∧True)∧(((0:Int)≤(IntKind.i64.wrap ((119:Int) - (a0_h.snd.snd.length:Int))).tmod (64:Int)∧(IntKind.i64.wrap ((119:Int) - (a0_h.snd.snd.length:Int))).tmod (64:Int)≤(IntKind.i64.wrap ((119:Int) - (a0_h.snd.snd.length:Int))).tmod (64:Int)∧((1:Nat):Int) *(IntKind.i64.wrap ((119:Int) - (a0_h.snd.snd.length:Int))).tmod (64:Int)≤(281474976710656:Int)∧(IntKind.i64.wrap ((119:Int) - (a0_h.snd.snd.length:Int))).tmod (64:Int)≤(281474976710656:Int))∧(Ty.byte.kd.sl.wf (be (IntKind.u64.wrap ((8:Int) *hLen a0_h)).toNat (8:Nat))→(((1:Nat)+((toB (128:Int)::([]:List UInt8))::List.replicate ((IntKind.i64.wrap ((119:Int) - (a0_h.snd.snd.length:Int))).tmod (64:Int)).toNat Ty.byte.kd.z::be (IntKind.u64.wrap ((8:Int) *hLen a0_h)).toNat (8:Nat)::([]:List (List UInt8))).length) *(24:Nat)≤(140737488355328:Nat)∧(a0_h.snd.snd++((toB (128:Int)::([]:List UInt8))::List.replicate ((IntKind.i64.wrap ((119:Int) - (a0_h.snd.snd.length:Int))).tmod (64:Int)).toNat Ty.byte.kd.z::be (IntKind.u64.wrap ((8:Int) *hLen a0_h)).toNat (8:Nat)::([]:List (List UInt8))).flatten).length≤(140737488355328:Nat))∧∃(x0:Int→List UInt8→Prop),∃(x1:Int→List UInt8→Nat),x0 (0:Int) (Ty.arr (32:Nat) Ty.byte).kd.z∧∀(x2:Int) (x3:List UInt8),x0 x2 x3→(Kd.int IntKind.i64).wf x2→(Ty.arr (32:Nat) Ty.byte).kd.wf x3→(x2<(8:Int)→((0:Int)≤x2∧x2<((8:Nat):Int))∧((0:Int)≤IntKind.i64.wrap ((4:Int) *x2)∧IntKind.i64.wrap ((4:Int) *x2)≤((32:Nat):Int)∧((32:Nat):Int)≤((32:Nat):Int)∧IntKind.i64.wrap ((4:Int) *x2)<((32:Nat):Int))∧(Ty.byte.kd.sl.wf (be (ix (qas a0_h ((toB (128:Int)::([]:List UInt8))::List.replicate ((IntKind.i64.wrap ((119:Int) - (a0_h.snd.snd.length:Int))).tmod (64:Int)).toNat Ty.byte.kd.z::be (IntKind.u64.wrap ((8:Int) *hLen a0_h)).toNat (8:Nat)::([]:List (List UInt8)))).fst x2).toNat (8:Nat))→((0:Int)≤(4:Int)∧(4:Int)≤((be (ix (qas a0_h ((toB (128:Int)::([]:List UInt8))::List.replicate ((IntKind.i64.wrap ((119:Int) - (a0_h.snd.snd.length:Int))).tmod (64:Int)).toNat Ty.byte.kd.z::be (IntKind.u64.wrap ((8:Int) *hLen a0_h)).toNat (8:Nat)::([]:List (List UInt8)))).fst x2).toNat (8:Nat)).length:Int))∧x2<(9223372036854775807:Int)∧x0 (x2+(1:Int)) (List.take (IntKind.i64.wrap ((4:Int) *x2)).toNat x3++List.take (((32:Nat):Int).toNat - (IntKind.i64.wrap ((4:Int) *x2)).toNat) (List.drop (Int.toNat (4:Int)) (be (ix (qas a0_h ((toB (128:Int)::([]:List UInt8))::List.replicate ((IntKind.i64.wrap ((119:Int) - (a0_h.snd.snd.length:Int))).tmod (64:Int)).toNat Ty.byte.kd.z::be (IntKind.u64.wrap ((8:Int) *hLen a0_h)).toNat (8:Nat)::([]:List (List UInt8)))).fst x2).toNat (8:Nat)))++List.drop ((IntKind.i64.wrap ((4:Int) *x2)).toNat+min (List.drop (Int.toNat (4:Int)) (be (ix (qas a0_h ((toB (128:Int)::([]:List UInt8))::List.replicate ((IntKind.i64.wrap ((119:Int) - (a0_h.snd.snd.length:Int))).tmod (64:Int)).toNat Ty.byte.kd.z::be (IntKind.u64.wrap ((8:Int) *hLen a0_h)).toNat (8:Nat)::([]:List (List UInt8)))).fst x2).toNat (8:Nat))).length (((32:Nat):Int).toNat - (IntKind.i64.wrap ((4:Int) *x2)).toNat)) x3)∧x1 (x2+(1:Int)) (List.take (IntKind.i64.wrap ((4:Int) *x2)).toNat x3++List.take (((32:Nat):Int).toNat - (IntKind.i64.wrap ((4:Int) *x2)).toNat) (List.drop (Int.toNat (4:Int)) (be (ix (qas a0_h ((toB (128:Int)::([]:List UInt8))::List.replicate ((IntKind.i64.wrap ((119:Int) - (a0_h.snd.snd.length:Int))).tmod (64:Int)).toNat Ty.byte.kd.z::be (IntKind.u64.wrap ((8:Int) *hLen a0_h)).toNat (8:Nat)::([]:List (List UInt8)))).fst x2).toNat (8:Nat)))++List.drop ((IntKind.i64.wrap ((4:Int) *x2)).toNat+min (List.drop (Int.toNat (4:Int)) (be (ix (qas a0_h ((toB (128:Int)::([]:List UInt8))::List.replicate ((IntKind.i64.wrap ((119:Int) - (a0_h.snd.snd.length:Int))).tmod (64:Int)).toNat Ty.byte.kd.z::be (IntKind.u64.wrap ((8:Int) *hLen a0_h)).toNat (8:Nat)::([]:List (List UInt8)))).fst x2).toNat (8:Nat))).length (((32:Nat):Int).toNat - (IntKind.i64.wrap ((4:Int) *x2)).toNat)) x3)<x1 x2 x3))∧(¬x2<(8:Int)→Q x3))∧(Ty.byte.kd.sl.wf (be (IntKind.u64.wrap ((8:Int) *hLen a0_h)).toNat (8:Nat))→(((1:Nat)+((toB (128:Int)::([]:List UInt8))::List.replicate ((IntKind.i64.wrap ((119:Int) - (a0_h.snd.snd.length:Int))).tmod (64:Int)).toNat Ty.byte.kd.z::be (IntKind.u64.wrap ((8:Int) *hLen a0_h)).toNat (8:Nat)::([]:List (List UInt8))).length) *(24:Nat)≤(140737488355328:Nat)∧(a0_h.snd.snd++((toB (128:Int)::([]:List UInt8))::List.replicate ((IntKind.i64.wrap ((119:Int) - (a0_h.snd.snd.length:Int))).tmod (64:Int)).toNat Ty.byte.kd.z::be (IntKind.u64.wrap ((8:Int) *hLen a0_h)).toNat (8:Nat)::([]:List (List UInt8))).flatten).length≤(140737488355328:Nat))∧∃(x0:Int→List UInt8→Prop),∃(x1:Int→List UInt8→Nat),x0 (0:Int) (Ty.arr (32:Nat) Ty.byte).kd.z∧∀(x2:Int) (x3:List UInt8),x0 x2 x3→(Kd.int IntKind.i64).wf x2→(Ty.arr (32:Nat) Ty.byte).kd.wf x3→(x2<(8:Int)→((0:Int)≤x2∧x2<((8:Nat):Int))∧((0:Int)≤IntKind.i64.wrap ((4:Int) *x2)∧IntKind.i64.wrap ((4:Int) *x2)≤((32:Nat):Int)∧((32:Nat):Int)≤((32:Nat):Int)∧IntKind.i64.wrap ((4:Int) *x2)<((32:Nat):Int))∧(Ty.byte.kd.sl.wf (be (ix (qas a0_h ((toB (128:Int)::([]:List UInt8))::List.replicate ((IntKind.i64.wrap ((119:Int) - (a0_h.snd.snd.length:Int))).tmod (64:Int)).toNat Ty.byte.kd.z::be (IntKind.u64.wrap ((8:Int) *hLen a0_h)).toNat (8:Nat)::([]:List (List UInt8)))).fst x2).toNat (8:Nat))→((0:Int)≤(4:Int)∧(4:Int)≤((be (ix (qas a0_h ((toB (128:Int)::([]:List UInt8))::List.replicate ((IntKind.i64.wrap ((119:Int) - (a0_h.snd.snd.length:Int))).tmod (64:Int)).toNat Ty.byte.kd.z::be (IntKind.u64.wrap ((8:Int) *hLen a0_h)).toNat (8:Nat)::([]:List (List UInt8)))).fst x2).toNat (8:Nat)).length:Int))∧x2<(9223372036854775807:Int)∧x0 (x2+(1:Int)) (List.take (IntKind.i64.wrap ((4:Int) *x2)).toNat x3++List.take (((32:Nat):Int).toNat - (IntKind.i64.wrap ((4:Int) *x2)).toNat) (List.drop (Int.toNat (4:Int)) (be (ix (qas a0_h ((toB (128:Int)::([]:List UInt8))::List.replicate ((IntKind.i64.wrap ((119:Int) - (a0_h.snd.snd.length:Int))).tmod (64:Int)).toNat Ty.byte.kd.z::be (IntKind.u64.wrap ((8:Int) *hLen a0_h)).toNat (8:Nat)::([]:List (List UInt8)))).fst x2).toNat (8:Nat)))++List.drop ((IntKind.i64.wrap ((4:Int) *x2)).toNat+min (List.drop (Int.toNat (4:Int)) (be (ix (qas a0_h ((toB (128:Int)::([]:List UInt8))::List.replicate ((IntKind.i64.wrap ((119:Int) - (a0_h.snd.snd.length:Int))).tmod (64:Int)).toNat Ty.byte.kd.z::be (IntKind.u64.wrap ((8:Int) *hLen a0_h)).toNat (8:Nat)::([]:List (List UInt8)))).fst x2).toNat (8:Nat))).length (((32:Nat):Int).toNat - (IntKind.i64.wrap ((4:Int) *x2)).toNat)) x3)∧x1 (x2+(1:Int)) (List.take (IntKind.i64.wrap ((4:Int) *x2)).toNat x3++List.take (((32:Nat):Int).toNat - (IntKind.i64.wrap ((4:Int) *x2)).toNat) (List.drop (Int.toNat (4:Int)) (be (ix (qas a0_h ((toB (128:Int)::([]:List UInt8))::List.replicate ((IntKind.i64.wrap ((119:Int) - (a0_h.snd.snd.length:Int))).tmod (64:Int)).toNat Ty.byte.kd.z::be (IntKind.u64.wrap ((8:Int) *hLen a0_h)).toNat (8:Nat)::([]:List (List UInt8)))).fst x2).toNat (8:Nat)))++List.drop ((IntKind.i64.wrap ((4:Int) *x2)).toNat+min (List.drop (Int.toNat (4:Int)) (be (ix (qas a0_h ((toB (128:Int)::([]:List UInt8))::List.replicate ((IntKind.i64.wrap ((119:Int) - (a0_h.snd.snd.length:Int))).tmod (64:Int)).toNat Ty.byte.kd.z::be (IntKind.u64.wrap ((8:Int) *hLen a0_h)).toNat (8:Nat)::([]:List (List UInt8)))).fst x2).toNat (8:Nat))).length (((32:Nat):Int).toNat - (IntKind.i64.wrap ((4:Int) *x2)).toNat)) x3)<x1 x2 x3))∧(¬x2<(8:Int)→Q x3))∧True)∧(Ty.byte.kd.sl.wf (be (IntKind.u64.wrap ((8:Int) *hLen a0_h)).toNat (8:Nat))→(((0:Int)≤(IntKind.i64.wrap ((119:Int) - (a0_h.snd.snd.length:Int))).tmod (64:Int)∧(IntKind.i64.wrap ((119:Int) - (a0_h.snd.snd.length:Int))).tmod (64:Int)≤(IntKind.i64.wrap ((119:Int) - (a0_h.snd.snd.length:Int))).tmod (64:Int)∧((1:Nat):Int) *(IntKind.i64.wrap ((119:Int) - (a0_h.snd.snd.length:Int))).tmod (64:Int)≤(281474976710656:Int)∧(IntKind.i64.wrap ((119:Int) - (a0_h.snd.snd.length:Int))).tmod (64:Int)≤(281474976710656:Int))∧(((1:Nat)+((toB (128:Int)::([]:List UInt8))::List.replicate ((IntKind.i64.wrap ((119:Int) - (a0_h.snd.snd.length:Int))).tmod (64:Int)).toNat Ty.byte.kd.z::be (IntKind.u64.wrap ((8:Int) *hLen a0_h)).toNat (8:Nat)::([]:List (List UInt8))).length) *(24:Nat)≤(140737488355328:Nat)∧(a0_h.snd.snd++((toB (128:Int)::([]:List UInt8))::List.replicate ((IntKind.i64.wrap ((119:Int) - (a0_h.snd.snd.length:Int))).tmod (64:Int)).toNat Ty.byte.kd.z::be (IntKind.u64.wrap ((8:Int) *hLen a0_h)).toNat (8:Nat)::([]:List (List UInt8))).flatten).length≤(140737488355328:Nat))∧∃(x0:Int→List UInt8→Prop),∃(x1:Int→List UInt8→Nat),x0 (0:Int) (Ty.arr (32:Nat) Ty.byte).kd.z∧∀(x2:Int) (x3:List UInt8),x0 x2 x3→(Kd.int IntKind.i64).wf x2→(Ty.arr (32:Nat) Ty.byte).kd.wf x3→(x2<(8:Int)→((0:Int)≤x2∧x2<((8:Nat):Int))∧((0:Int)≤IntKind.i64.wrap ((4:Int) *x2)∧IntKind.i64.wrap ((4:Int) *x2)≤((32:Nat):Int)∧((32:Nat):Int)≤((32:Nat):Int)∧IntKind.i64.wrap ((4:Int) *x2)<((32:Nat):Int))∧(Ty.byte.kd.sl.wf (be (ix (qas a0_h ((toB (128:Int)::([]:List UInt8))::List.replicate ((IntKind.i64.wrap ((119:Int) - (a0_h.snd.snd.length:Int))).tmod (64:Int)).toNat Ty.byte.kd.z::be (IntKind.u64.wrap ((8:Int) *hLen a0_h)).toNat (8:Nat)::([]:List (List UInt8)))).fst x2).toNat (8:Nat))→((0:Int)≤(4:Int)∧(4:Int)≤((be (ix (qas a0_h ((toB (128:Int)::([]:List UInt8))::List.replicate ((IntKind.i64.wrap ((119:Int) - (a0_h.snd.snd.length:Int))).tmod (64:Int)).toNat Ty.byte.kd.z::be (IntKind.u64.wrap ((8:Int) *hLen a0_h)).toNat (8:Nat)::([]:List (List UInt8)))).fst x2).toNat (8:Nat)).length:Int))∧x2<(9223372036854775807:Int)∧x0 (x2+(1:Int)) (List.take (IntKind.i64.wrap ((4:Int) *x2)).toNat x3++List.take (((32:Nat):Int).toNat - (IntKind.i64.wrap ((4:Int) *x2)).toNat) (List.drop (Int.toNat (4:Int)) (be (ix (qas a0_h ((toB (128:Int)::([]:List UInt8))::List.replicate ((IntKind.i64.wrap ((119:Int) - (a0_h.snd.snd.length:Int))).tmod (64:Int)).toNat Ty.byte.kd.z::be (IntKind.u64.wrap ((8:Int) *hLen a0_h)).toNat (8:Nat)::([]:List (List UInt8)))).fst x2).toNat (8:Nat)))++List.drop ((IntKind.i64.wrap ((4:Int) *x2)).toNat+min (List.drop (Int.toNat (4:Int)) (be (ix (qas a0_h ((toB (128:Int)::([]:List UInt8))::List.replicate ((IntKind.i64.wrap ((119:Int) - (a0_h.snd.snd.length:Int))).tmod (64:Int)).toNat Ty.byte.kd.z::be (IntKind.u64.wrap ((8:Int) *hLen a0_h)).toNat (8:Nat)::([]:List (List UInt8)))).fst x2).toNat (8:Nat))).length (((32:Nat):Int).toNat - (IntKind.i64.wrap ((4:Int) *x2)).toNat)) x3)∧x1 (x2+(1:Int)) (List.take (IntKind.i64.wrap ((4:Int) *x2)).toNat x3++List.take (((32:Nat):Int).toNat - (IntKind.i64.wrap ((4:Int) *x2)).toNat) (List.drop (Int.toNat (4:Int)) (be (ix (qas a0_h ((toB (128:Int)::([]:List UInt8))::List.replicate ((IntKind.i64.wrap ((119:Int) - (a0_h.snd.snd.length:Int))).tmod (64:Int)).toNat Ty.byte.kd.z::be (IntKind.u64.wrap ((8:Int) *hLen a0_h)).toNat (8:Nat)::([]:List (List UInt8)))).fst x2).toNat (8:Nat)))++List.drop ((IntKind.i64.wrap ((4:Int) *x2)).toNat+min (List.drop (Int.toNat (4:Int)) (be (ix (qas a0_h ((toB (128:Int)::([]:List UInt8))::List.replicate ((IntKind.i64.wrap ((119:Int) - (a0_h.snd.snd.length:Int))).tmod (64:Int)).toNat Ty.byte.kd.z::be (IntKind.u64.wrap ((8:Int) *hLen a0_h)).toNat (8:Nat)::([]:List (List UInt8)))).fst x2).toNat (8:Nat))).length (((32:Nat):Int).toNat - (IntKind.i64.wrap ((4:Int) *x2)).toNat)) x3)<x1 x2 x3))∧(¬x2<(8:Int)→Q x3))∧(((0:Int)≤(IntKind.i64.wrap ((119:Int) - (a0_h.snd.snd.length:Int))).tmod (64:Int)∧(IntKind.i64.wrap ((119:Int) - (a0_h.snd.snd.length:Int))).tmod (64:Int)≤(IntKind.i64.wrap ((119:Int) - (a0_h.snd.snd.length:Int))).tmod (64:Int)∧((1:Nat):Int) *(IntKind.i64.wrap ((119:Int) - (a0_h.snd.snd.length:Int))).tmod (64:Int)≤(281474976710656:Int)∧(IntKind.i64.wrap ((119:Int) - (a0_h.snd.snd.length:Int))).tmod (64:Int)≤(281474976710656:Int))∧(((1:Nat)+((toB (128:Int)::([]:List UInt8))::List.replicate ((IntKind.i64.wrap ((119:Int) - (a0_h.snd.snd.length:Int))).tmod (64:Int)).toNat Ty.byte.kd.z::be (IntKind.u64.wrap ((8:Int) *hLen a0_h)).toNat (8:Nat)::([]:List (List UInt8))).length) *(24:Nat)≤(140737488355328:Nat)∧(a0_h.snd.snd++((toB (128:Int)::([]:List UInt8))::List.replicate ((IntKind.i64.wrap ((119:Int) - (a0_h.snd.snd.length:Int))).tmod (64:Int)).toNat Ty.byte.kd.z::be (IntKind.u64.wrap ((8:Int) *hLen a0_h)).toNat (8:Nat)::([]:List (List UInt8))).flatten).length≤(140737488355328:Nat))∧∃(x0:Int→List UInt8→Prop),∃(x1:Int→List UInt8→Nat),x0 (0:Int) (Ty.arr (32:Nat) Ty.byte).kd.z∧∀(x2:Int) (x3:List UInt8),x0 x2 x3→(Kd.int IntKind.i64).wf x2→(Ty.arr (32:Nat) Ty.byte).kd.wf x3→(x2<(8:Int)→((0:Int)≤x2∧x2<((8:Nat):Int))∧((0:Int)≤IntKind.i64.wrap ((4:Int) *x2)∧IntKind.i64.wrap ((4:Int) *x2)≤((32:Nat):Int)∧((32:Nat):Int)≤((32:Nat):Int)∧IntKind.i64.wrap ((4:Int) *x2)<((32:Nat):Int))∧(Ty.byte.kd.sl.wf (be (ix (qas a0_h ((toB (128:Int)::([]:List UInt8))::List.replicate ((IntKind.i64.wrap ((119:Int) - (a0_h.snd.snd.length:Int))).tmod (64:Int)).toNat Ty.byte.kd.z::be (IntKind.u64.wrap ((8:Int) *hLen a0_h)).toNat (8:Nat)::([]:List (List UInt8)))).fst x2).toNat (8:Nat))→((0:Int)≤(4:Int)∧(4:Int)≤((be (ix (qas a0_h ((toB (128:Int)::([]:List UInt8))::List.replicate ((IntKind.i64.wrap ((119:Int) - (a0_h.snd.snd.length:Int))).tmod (64:Int)).toNat Ty.byte.kd.z::be (IntKind.u64.wrap ((8:Int) *hLen a0_h)).toNat (8:Nat)::([]:List (List UInt8)))).fst x2).toNat (8:Nat)).length:Int))∧x2<(9223372036854775807:Int)∧x0 (x2+(1:Int)) (List.take (IntKind.i64.wrap ((4:Int) *x2)).toNat x3++List.take (((32:Nat):Int).toNat - (IntKind.i64.wrap ((4:Int) *x2)).toNat) (List.drop (Int.toNat (4:Int)) (be (ix (qas a0_h ((toB (128:Int)::([]:List UInt8))::List.replicate ((IntKind.i64.wrap ((119:Int) - (a0_h.snd.snd.length:Int))).tmod (64:Int)).toNat Ty.byte.kd.z::be (IntKind.u64.wrap ((8:Int) *hLen a0_h)).toNat (8:Nat)::([]:List (List UInt8)))).fst x2).toNat (8:Nat)))++List.drop ((IntKind.i64.wrap ((4:Int) *x2)).toNat+min (List.drop (Int.toNat (4:Int)) (be (ix (qas a0_h ((toB (128:Int)::([]:List UInt8))::List.replicate ((IntKind.i64.wrap ((119:Int) - (a0_h.snd.snd.length:Int))).tmod (64:Int)).toNat Ty.byte.kd.z::be (IntKind.u64.wrap ((8:Int) *hLen a0_h)).toNat (8:Nat)::([]:List (List UInt8)))).fst x2).toNat (8:Nat))).length (((32:Nat):Int).toNat - (IntKind.i64.wrap ((4:Int) *x2)).toNat)) x3)∧x1 (x2+(1:Int)) (List.take (IntKind.i64.wrap ((4:Int) *x2)).toNat x3++List.take (((32:Nat):Int).toNat - (IntKind.i64.wrap ((4:Int) *x2)).toNat) (List.drop (Int.toNat (4:Int)) (be (ix (qas a0_h ((toB (128:Int)::([]:List UInt8))::List.replicate ((IntKind.i64.wrap ((119:Int) - (a0_h.snd.snd.length:Int))).tmod (64:Int)).toNat Ty.byte.kd.z::be (IntKind.u64.wrap ((8:Int) *hLen a0_h)).toNat (8:Nat)::([]:List (List UInt8)))).fst x2).toNat (8:Nat)))++List.drop ((IntKind.i64.wrap ((4:Int) *x2)).toNat+min (List.drop (Int.toNat (4:Int)) (be (ix (qas a0_h ((toB (128:Int)::([]:List UInt8))::List.replicate ((IntKind.i64.wrap ((119:Int) - (a0_h.snd.snd.length:Int))).tmod (64:Int)).toNat Ty.byte.kd.z::be (IntKind.u64.wrap ((8:Int) *hLen a0_h)).toNat (8:Nat)::([]:List (List UInt8)))).fst x2).toNat (8:Nat))).length (((32:Nat):Int).toNat - (IntKind.i64.wrap ((4:Int) *x2)).toNat)) x3)<x1 x2 x3))∧(¬x2<(8:Int)→Q x3))∧True)∧True)
theorem qnA {a0_h:(List Int)×Int×List UInt8} (w_0:(Ty.kd (.pr (.arr 8 (.int .u32)) (.pr (.int .u64) (.sl .byte)))).wf a0_h) (hp:a0_h.2.2.length<64):qhv a0_h (fun o0=>o0=(hSum a0_h)):=by
 have wr: ∀a:Int, -1000≤a→a≤1000→IntKind.i64.wrap a=a:=fun a h1 h2=>qaI (wf64 (by omega) (by omega))
 have hk:Int.tmod (IntKind.i64.wrap (119 - (a0_h.2.2.length:Int))) 64=((119 - (a0_h.2.2.length:Int))%64):=by
  rw [wr _ (by omega) (by omega),Int.tmod_eq_emod_of_nonneg (by omega)]
 have hsum: ∀n,(sumN (qas a0_h (qjs a0_h)).1 n).length=32:=by
  intro n
  induction n with
  | zero=>simp [sumN]
  | succ n ih=>
    simp only [sumN,List.length_append,List.length_take,List.length_drop,ih,qbu]
    omega
 have hp': [[toB 128],List.replicate ((119 - (a0_h.2.2.length:Int))%64).toNat Ty.byte.kd.z,be (IntKind.u64.wrap (8 *hLen a0_h)).toNat 8]=qjs a0_h:=by unfold qjs;rw [hk];rfl
 unfold qhv
 rw [hk,hp']
 intro _
 refine ⟨by omega,fun _ _=>?_⟩
 repeat' (first | apply And.intro | intro _)
 all_goals first | trivial | omega | (simp only [←hp',List.length_cons,List.length_nil,List.length_append,List.flatten_cons,List.flatten_nil,List.length_replicate,qbu];omega) | skip
 all_goals
  refine ⟨fun i b=> ∃n:Nat,i=(n:Int)∧n≤8∧b=sumN (qas a0_h (qjs a0_h)).1 n,fun i _=>8 - i.toNat,⟨0,rfl,by omega,rfl⟩,?_⟩
  rintro i b ⟨n,rfl,hn,rfl⟩ _ _
  refine ⟨fun hlt=>?_,fun hge=>?_⟩
  ·rw [wr (4 *(n:Int)) (by omega) (by omega)]
   have e4:(4 *(n:Int)).toNat=4 *n:=by omega
   rw [e4]
   refine ⟨⟨by omega,hlt⟩,⟨by omega,by omega,by omega,by omega⟩,fun _=>⟨⟨by omega,by rw [qbu];omega⟩,by omega,⟨n+1,by omega,by omega,rfl⟩,?_⟩⟩
   show 8 - ((n:Int)+1).toNat<8 - (n:Int).toNat
   omega
  ·have:n=8:=by omega
   subst this
   rfl
theorem qnz:(∀a,qfn.pre a→PM.wfP qfn.pm a (fvc qmX 200 125 qfn a (eqO qfn a)))=(∀a:((List Int)×Int×List UInt8)×Unit,((a.1).2.2.length<64)→(Ty.kd (.pr (.arr 8 (.int .u32)) (.pr (.int .u64) (.sl .byte)))).wf a.1→qhv a.1 (fun o0=>o0=(hSum (a.1)))):=by kernel_rfl
theorem qoQ:qfn.valid Try.prog 125:=qa6 (X:=qmX) (qbT qaH (fun b hb=>by cases hb;exact qa5) qa8 ⟨qoU,qnw,qoP,qpV,qin,trivial⟩) 200 (qnz.mpr fun a hp w_0=> @qnA a.1 w_0 hp)
noncomputable def qds:Ctr:=⟨[.v (.sl (.sl .byte))],[.v (.arr 32 .byte)],some (fun a=>(fun (a0_parts:List (List UInt8))=>((1+a0_parts.length) *24≤140737488355328∧a0_parts.flatten.length≤140737488355328:Prop)) a.1),fun a=>(fun (a0_parts:List (List UInt8))=>(((qaZ a0_parts),()),(()))) a.1⟩
noncomputable def qir:Fx:=⟨seat,some bkT,fns,[(123,qhy),(124,qcg),(125,qfn)],[],[],[]⟩
def qeJ (a0_parts:List (List UInt8)) (Q:(List UInt8)→Prop):Prop:=
 ((Ty.arr (8:Nat) (Ty.int IntKind.u32)).pr ((Ty.int IntKind.u64).pr Ty.byte.sl)).kd.wf (List.replicate (8:Nat) (0:Int),(0:Int),([]:List UInt8))→(((1:Nat)+a0_parts.length) *(24:Nat)≤(140737488355328:Nat)∧(([]:List UInt8)++a0_parts.flatten).length≤(140737488355328:Nat))∧(qas (List.replicate (8:Nat) (0:Int),(0:Int),([]:List UInt8)) a0_parts).snd.snd.length<(64:Nat)∧((Ty.arr (32:Nat) Ty.byte).kd.wf (hSum (qas (List.replicate (8:Nat) (0:Int),(0:Int),([]:List UInt8)) a0_parts))→Q (hSum (qas (List.replicate (8:Nat) (0:Int),(0:Int),([]:List UInt8)) a0_parts)))
theorem qj7 {a0_parts:List (List UInt8)} (w_0:(Ty.kd (.sl (.sl .byte))).wf a0_parts) (hp:(1+a0_parts.length) *24≤140737488355328∧a0_parts.flatten.length≤140737488355328):qeJ a0_parts (fun o0=>o0=(qaZ a0_parts)):=by
 unfold qeJ
 exact fun _=>⟨⟨hp.1,hp.2⟩,qmf _ _ _,fun _=>rfl⟩
theorem qj6:(∀a,qds.pre a→PM.wfP qds.pm a (fvc qir 200 110 qds a (eqO qds a)))=(∀a:(List (List UInt8))×Unit,((1+(a.1).length) *24≤140737488355328∧(a.1).flatten.length≤140737488355328)→(Ty.kd (.sl (.sl .byte))).wf a.1→qeJ a.1 (fun o0=>o0=(qaZ (a.1)))):=by kernel_rfl
theorem qlZ:qds.valid Try.prog 110:=qa6 (X:=qir) (qbT qaH (fun b hb=>by cases hb;exact qa5) qa8 ⟨qoU,qin,qoQ,trivial⟩) 200 (qj6.mpr fun a hp w_0=> @qj7 a.1 w_0 hp)
end Go.Proofs.Ytmjjkpiglbpkhaa

set_option linter.unusedVariables false
set_option maxRecDepth 100000
set_option maxHeartbeats 2000000
namespace Go.Proofs.Ytmjjkpiglbpkhaa
open Go Go.RowKit Go.Inc
theorem qh8 {θ:Th} {n:Nat} {K:Ghost} {s:SVal} {v:Value} (h:s.rel θ n K v):SVal.relL θ n K [s] [v]:=⟨v,[],rfl,h,rfl⟩
theorem qp2 {θ:Th} {n:Nat} {K:Ghost} {s s':SVal} {v v':Value} (h:s.rel θ n K v) (h':s'.rel θ n K v'):SVal.relL θ n K [s,s'] [v,v']:=⟨v,[v'],rfl,h,qh8 h'⟩
theorem qeE {w0:World} {K0:Ghost} {a0_s_v:Value} {a0_s:(List UInt8)} (hM0:Models w0 K0) (h_a0_s:qah.V K0 a0_s a0_s_v) (hp:a0_s.length≤140737488355328):Calls Try.prog 69 #[a0_s_v] w0 (fun e w'=> ∃(K':Ghost) (r0:Value),e= .returned r0∧Ext NX w0 K0 w' K'∧Models w' K'∧Own Kd.byte 5 w' K' a0_s r0∧(∀g,ob r0=some g→w0.heap.size≤g)):=
 qqf (k:= .byte) qfX (fun _=>rfl) (a:=(a0_s,())) (vs:=[a0_s_v]) hp hM0 fun θ=>qh8 (SVal.of_rel (t:= .sl .byte) h_a0_s)
theorem qjK {w0:World} {K0:Ghost} {a0_a_v:Value} {a0_a:(List UInt8)} {a1_b_v:Value} {a1_b:(List UInt8)} (hM0:Models w0 K0) (h_a0_a:qah.V K0 a0_a a0_a_v) (h_a1_b:qah.V K0 a1_b a1_b_v):Calls Try.prog 85 #[a0_a_v,a1_b_v] w0 (fun e w'=> ∃(K':Ghost) (r0:Value),e= .returned r0∧Ext NX w0 K0 w' K'∧Models w' K'∧Kd.bool.V K' (decide (a0_a=a1_b)) r0):=
 un_v (t:= .bool) qnq (fun _=>rfl) (fun _=>rfl) (a:=(a0_a,a1_b,())) (vs:=[a0_a_v,a1_b_v]) trivial hM0 fun θ=>qp2 (SVal.of_rel (t:= .sl .byte) h_a0_a) (SVal.of_rel (t:= .sl .byte) h_a1_b)
theorem qfp {w0:World} {K0:Ghost} {a0_kind_v:Value} {a0_kind:Int} {a1_parts_v:Value} {a1_parts:(List (List UInt8))} (hM0:Models w0 K0) (h_a0_kind:(Kd.int .i64).V K0 a0_kind a0_kind_v) (h_a1_parts:qaN.V K0 a1_parts a1_parts_v) (hp:1+qao a1_parts≤140737488355328):Calls Try.prog 98 #[a0_kind_v,a1_parts_v] w0 (fun e w'=> ∃(K':Ghost) (r0:Value),e= .returned r0∧Ext NX w0 K0 w' K'∧Models w' K'∧Own Kd.byte 5 w' K' (preimage a0_kind a1_parts) r0∧(∀g,ob r0=some g→w0.heap.size≤g)):=
 qqf (k:= .byte) qfq (fun _=>rfl) (a:=(a0_kind,a1_parts,())) (vs:=[a0_kind_v,a1_parts_v]) hp hM0 fun θ=>qp2 (SVal.of_rel (t:= .int .i64) h_a0_kind) (SVal.of_rel (t:= .sl (.sl .byte)) h_a1_parts)
theorem qis {w0:World} {K0:Ghost} {a0_parts_v:Value} {a0_parts:(List (List UInt8))} (hM0:Models w0 K0) (h_a0_parts:qaN.V K0 a0_parts a0_parts_v) (hp:(1+a0_parts.length) *24≤140737488355328∧a0_parts.flatten.length≤140737488355328):Calls Try.prog 110 #[a0_parts_v] w0 (fun e w'=> ∃(K':Ghost) (r0:Value),e= .returned r0∧Ext NX w0 K0 w' K'∧Models w' K'∧(Kd.arr 32 Kd.byte).V K' (qaZ a0_parts) r0):=
 un_v (t:= .arr 32 .byte) qlZ (fun _=>rfl) (fun _=>rfl) (a:=(a0_parts,())) (vs:=[a0_parts_v]) hp hM0 fun θ=>qh8 (SVal.of_rel (t:= .sl (.sl .byte)) h_a0_parts)
end Go.Proofs.Ytmjjkpiglbpkhaa
