/- K15: a part of the proof about training through the decoder: how the program's functions run, and what they compute, for every input. -/
import Derived.Test.YtdciabokggfpbaaGreatProg
import Derived.Test.YtdciabokggfpbaaGreatK14
set_option linter.all false
set_option maxRecDepth 20000
namespace Go.E3
open Go Go.Ear Go.Proofs
instance : MixO Tryz.prog := ⟨rfl⟩
instance : RT Tryz.prog 134 Nat rU 4 0 := ⟨Tryz.sizeOf134,_,_,⟨Tryz.type134,rfl,rfl,rfl,rfl⟩,fun _ => ⟨rfl,trivial⟩⟩
instance : RT Tryz.prog 3 Int rI 8 0 := ⟨Tryz.sizeOf3,_,_,⟨Tryz.type3,rfl,rfl,rfl,rfl⟩,fun _ => ⟨rfl,trivial⟩⟩
instance : RT Tryz.prog 32 Fr rF 56 fr0 := ⟨Tryz.sizeOf32,_,_,⟨Tryz.type32,rfl,rfl,rfl,rfl⟩,fun _ => ⟨rfl,nil_lv rfl,nil_lv rfl,trivial⟩⟩
instance : RT Tryz.prog 22 (List Fr) (rL rF) 24 [] := ⟨Tryz.sizeOf22,_,_,⟨Tryz.type22,rfl,rfl,rfl,rfl⟩,fun _ => ⟨nil_lv rfl,trivial⟩⟩
instance : TZ Tryz.prog 3 1 := ⟨Tryz.sizeOf3⟩
instance : TA Tryz.prog 3 false := ⟨Tryz.isAgg3⟩
instance : TI Tryz.prog 3 .i64 := ⟨Tryz.underlying3⟩
instance : TD Tryz.prog 3 := ⟨_,Tryz.underlying3⟩
instance : ZC Tryz.prog 3 [.cv (.int .i64 0)] := ⟨_,Tryz.zeroValue3,by first | exact ⟨rfl,trivial⟩⟩
instance : TA Tryz.prog 4 false := ⟨Tryz.isAgg4⟩
instance : TB Tryz.prog 4 := ⟨Tryz.underlying4⟩
instance : TI Tryz.prog 5 .u8 := ⟨Tryz.underlying5⟩
instance : TD Tryz.prog 5 := ⟨_,Tryz.underlying5⟩
instance : TStr Tryz.prog 9 := ⟨Tryz.underlying9⟩
instance : TZ Tryz.prog 22 1 := ⟨Tryz.sizeOf22⟩
instance : TA Tryz.prog 22 false := ⟨Tryz.isAgg22⟩
instance : TS Tryz.prog 22 32 := ⟨Tryz.underlying22⟩
instance : TZ Tryz.prog 23 1 := ⟨Tryz.sizeOf23⟩
instance : TA Tryz.prog 23 false := ⟨Tryz.isAgg23⟩
instance : TS Tryz.prog 23 22 := ⟨Tryz.underlying23⟩
instance : ZC Tryz.prog 23 [.cv (.slice none 0 0)] := ⟨_,Tryz.zeroValue23,by first | exact ⟨rfl,trivial⟩⟩
instance : TZ Tryz.prog 25 4 := ⟨Tryz.sizeOf25⟩
instance : TA Tryz.prog 25 true := ⟨Tryz.isAgg25⟩
instance : ZC Tryz.prog 25 [.cv (.slice none 0 0),.cv (.slice none 0 0),.cv (.slice none 0 0),.cv (.slice none 0 0)] := ⟨_,Tryz.zeroValue25,by first | exact ⟨rfl,rfl,rfl,rfl,trivial⟩⟩
instance : FA Tryz.prog 25 0 0 := ⟨_,_,_,Tryz.underlying25,rfl,Tryz.sizeOf22,by decide,rfl⟩
instance : FA Tryz.prog 25 1 1 := ⟨_,_,_,Tryz.underlying25,rfl,Tryz.sizeOf23,by decide,rfl⟩
instance : FA Tryz.prog 25 2 2 := ⟨_,_,_,Tryz.underlying25,rfl,Tryz.sizeOf22,by decide,rfl⟩
instance : FA Tryz.prog 25 3 3 := ⟨_,_,_,Tryz.underlying25,rfl,Tryz.sizeOf23,by decide,rfl⟩
instance : BT Tryz.prog 25 [(0,1),(1,1),(2,1),(3,1)] [.cv (.slice none 0 0),.cv (.slice none 0 0),.cv (.slice none 0 0),.cv (.slice none 0 0)] := ⟨_,_,Tryz.underlying25,Tryz.zeroValue25,fun _ => by kernel_rfl,by first | exact ⟨rfl,rfl,rfl,rfl,trivial⟩⟩
instance : TA Tryz.prog 26 false := ⟨Tryz.isAgg26⟩
instance : TS Tryz.prog 26 105 := ⟨Tryz.underlying26⟩
instance : TZ Tryz.prog 28 3 := ⟨Tryz.sizeOf28⟩
instance : TA Tryz.prog 28 true := ⟨Tryz.isAgg28⟩
instance : FA Tryz.prog 28 0 0 := ⟨_,_,_,Tryz.underlying28,rfl,Tryz.sizeOf3,by decide,rfl⟩
instance : FA Tryz.prog 28 1 1 := ⟨_,_,_,Tryz.underlying28,rfl,Tryz.sizeOf3,by decide,rfl⟩
instance : FA Tryz.prog 28 2 2 := ⟨_,_,_,Tryz.underlying28,rfl,Tryz.sizeOf26,by decide,rfl⟩
instance : TA Tryz.prog 29 false := ⟨Tryz.isAgg29⟩
instance : TZ Tryz.prog 30 1 := ⟨Tryz.sizeOf30⟩
instance : TA Tryz.prog 30 false := ⟨Tryz.isAgg30⟩
instance : TS Tryz.prog 30 134 := ⟨Tryz.underlying30⟩
instance : TZ Tryz.prog 32 3 := ⟨Tryz.sizeOf32⟩
instance : TA Tryz.prog 32 true := ⟨Tryz.isAgg32⟩
instance : ZC Tryz.prog 32 [.cv (.bool false),.cv (.slice none 0 0),.cv (.slice none 0 0)] := ⟨_,Tryz.zeroValue32,by first | exact ⟨rfl,rfl,rfl,trivial⟩⟩
instance : FA Tryz.prog 32 0 0 := ⟨_,_,_,Tryz.underlying32,rfl,Tryz.sizeOf4,by decide,rfl⟩
instance : FA Tryz.prog 32 1 1 := ⟨_,_,_,Tryz.underlying32,rfl,Tryz.sizeOf30,by decide,rfl⟩
instance : FA Tryz.prog 32 2 2 := ⟨_,_,_,Tryz.underlying32,rfl,Tryz.sizeOf30,by decide,rfl⟩
instance : BT Tryz.prog 32 [(0,1),(1,1),(2,1)] [.cv (.bool false),.cv (.slice none 0 0),.cv (.slice none 0 0)] := ⟨_,_,Tryz.underlying32,Tryz.zeroValue32,fun _ => by kernel_rfl,by first | exact ⟨rfl,rfl,rfl,trivial⟩⟩
instance : TZ Tryz.prog 34 8 := ⟨Tryz.sizeOf34⟩
instance : TA Tryz.prog 34 true := ⟨Tryz.isAgg34⟩
instance : FA Tryz.prog 34 0 0 := ⟨_,_,_,Tryz.underlying34,rfl,Tryz.sizeOf28,by decide,rfl⟩
instance : FA Tryz.prog 34 1 3 := ⟨_,_,_,Tryz.underlying34,rfl,Tryz.sizeOf29,by decide,rfl⟩
instance : FA Tryz.prog 34 2 4 := ⟨_,_,_,Tryz.underlying34,rfl,Tryz.sizeOf32,by decide,rfl⟩
instance : FA Tryz.prog 34 3 7 := ⟨_,_,_,Tryz.underlying34,rfl,Tryz.sizeOf22,by decide,rfl⟩
instance : TZ Tryz.prog 35 1 := ⟨Tryz.sizeOf35⟩
instance : TA Tryz.prog 35 false := ⟨Tryz.isAgg35⟩
instance : TS Tryz.prog 35 3 := ⟨Tryz.underlying35⟩
instance : TS Tryz.prog 42 35 := ⟨Tryz.underlying42⟩
instance : TA Tryz.prog 48 false := ⟨Tryz.isAgg48⟩
instance : TS Tryz.prog 48 25 := ⟨Tryz.underlying48⟩
instance : TA Tryz.prog 49 false := ⟨Tryz.isAgg49⟩
instance : TS Tryz.prog 49 92 := ⟨Tryz.underlying49⟩
instance : TZ Tryz.prog 51 10 := ⟨Tryz.sizeOf51⟩
instance : TA Tryz.prog 51 true := ⟨Tryz.isAgg51⟩
instance : ZC Tryz.prog 51 [.cv (.slice none 0 0),.cv (.slice none 0 0),.cv (.int .i64 0),.cv (.int .i64 0),.cv (.slice none 0 0),.cv (.int .i64 0),.cv (.bool false),.cv (.slice none 0 0),.cv (.slice none 0 0),.cv (.slice none 0 0)] := ⟨_,Tryz.zeroValue51,by first | exact ⟨rfl,rfl,rfl,rfl,rfl,rfl,rfl,rfl,rfl,rfl,trivial⟩⟩
instance : FA Tryz.prog 51 0 0 := ⟨_,_,_,Tryz.underlying51,rfl,Tryz.sizeOf48,by decide,rfl⟩
instance : FA Tryz.prog 51 1 1 := ⟨_,_,_,Tryz.underlying51,rfl,Tryz.sizeOf49,by decide,rfl⟩
instance : FA Tryz.prog 51 2 2 := ⟨_,_,_,Tryz.underlying51,rfl,Tryz.sizeOf34,by decide,rfl⟩
instance : BT Tryz.prog 51 [(0,1),(1,1),(2,8)] [.cv (.slice none 0 0),.cv (.slice none 0 0),.cv (.int .i64 0),.cv (.int .i64 0),.cv (.slice none 0 0),.cv (.int .i64 0),.cv (.bool false),.cv (.slice none 0 0),.cv (.slice none 0 0),.cv (.slice none 0 0)] := ⟨_,_,Tryz.underlying51,Tryz.zeroValue51,fun _ => by kernel_rfl,by first | exact ⟨rfl,rfl,rfl,rfl,rfl,rfl,rfl,rfl,rfl,rfl,trivial⟩⟩
instance : TA Tryz.prog 54 false := ⟨Tryz.isAgg54⟩
instance : TZ Tryz.prog 67 6 := ⟨Tryz.sizeOf67⟩
instance : TA Tryz.prog 67 true := ⟨Tryz.isAgg67⟩
instance : FA Tryz.prog 67 0 0 := ⟨_,_,_,Tryz.underlying67,rfl,Tryz.sizeOf22,by decide,rfl⟩
instance : FA Tryz.prog 67 1 1 := ⟨_,_,_,Tryz.underlying67,rfl,Tryz.sizeOf23,by decide,rfl⟩
instance : FA Tryz.prog 67 2 2 := ⟨_,_,_,Tryz.underlying67,rfl,Tryz.sizeOf22,by decide,rfl⟩
instance : FA Tryz.prog 67 3 3 := ⟨_,_,_,Tryz.underlying67,rfl,Tryz.sizeOf23,by decide,rfl⟩
instance : FA Tryz.prog 67 4 4 := ⟨_,_,_,Tryz.underlying67,rfl,Tryz.sizeOf3,by decide,rfl⟩
instance : FA Tryz.prog 67 5 5 := ⟨_,_,_,Tryz.underlying67,rfl,Tryz.sizeOf3,by decide,rfl⟩
instance : BT Tryz.prog 67 [(0,1),(1,1),(2,1),(3,1),(4,1),(5,1)] [.cv (.slice none 0 0),.cv (.slice none 0 0),.cv (.slice none 0 0),.cv (.slice none 0 0),.cv (.int .i64 0),.cv (.int .i64 0)] := ⟨_,_,Tryz.underlying67,Tryz.zeroValue67,fun _ => by kernel_rfl,by first | exact ⟨rfl,rfl,rfl,rfl,rfl,rfl,trivial⟩⟩
instance : FA Tryz.prog 69 0 0 := ⟨_,_,_,Tryz.underlying69,rfl,Tryz.sizeOf67,by decide,rfl⟩
instance : FA Tryz.prog 69 1 6 := ⟨_,_,_,Tryz.underlying69,rfl,Tryz.sizeOf32,by decide,rfl⟩
instance : BT Tryz.prog 69 [(0,6),(6,3)] [.cv (.slice none 0 0),.cv (.slice none 0 0),.cv (.slice none 0 0),.cv (.slice none 0 0),.cv (.int .i64 0),.cv (.int .i64 0),.cv (.bool false),.cv (.slice none 0 0),.cv (.slice none 0 0)] := ⟨_,_,Tryz.underlying69,Tryz.zeroValue69,fun _ => by kernel_rfl,by first | exact ⟨rfl,rfl,rfl,rfl,rfl,rfl,rfl,rfl,rfl,trivial⟩⟩
instance : TZ Tryz.prog 70 1 := ⟨Tryz.sizeOf70⟩
instance : TA Tryz.prog 70 false := ⟨Tryz.isAgg70⟩
instance : ZC Tryz.prog 70 [.cv (.pointer none)] := ⟨_,Tryz.zeroValue70,by first | exact ⟨rfl,trivial⟩⟩
instance : TI Tryz.prog 75 .u64 := ⟨Tryz.underlying75⟩
instance : TD Tryz.prog 75 := ⟨_,Tryz.underlying75⟩
instance : TA Tryz.prog 77 false := ⟨Tryz.isAgg77⟩
instance : TS Tryz.prog 82 85 := ⟨Tryz.underlying82⟩
instance : TZ Tryz.prog 85 1 := ⟨Tryz.sizeOf85⟩
instance : TA Tryz.prog 85 false := ⟨Tryz.isAgg85⟩
instance : ZC Tryz.prog 85 [.cv (.map none)] := ⟨_,Tryz.zeroValue85,by first | exact ⟨rfl,trivial⟩⟩
instance : TZ Tryz.prog 86 4 := ⟨Tryz.sizeOf86⟩
instance : TA Tryz.prog 86 true := ⟨Tryz.isAgg86⟩
instance : ZC Tryz.prog 86 [.cv (.int .i64 0),.cv (.int .i64 0),.cv (.int .i64 0),.cv (.int .i64 0)] := ⟨_,Tryz.zeroValue86,by first | exact ⟨rfl,rfl,rfl,rfl,trivial⟩⟩
instance : TZ Tryz.prog 88 8 := ⟨Tryz.sizeOf88⟩
instance : TA Tryz.prog 88 true := ⟨Tryz.isAgg88⟩
instance : ZC Tryz.prog 88 [.cv (.int .i64 0),.cv (.int .i64 0),.cv (.int .i64 0),.cv (.int .i64 0),.cv (.int .i64 0),.cv (.int .i64 0),.cv (.int .i64 0),.cv (.int .i64 0)] := ⟨_,Tryz.zeroValue88,by first | exact ⟨rfl,rfl,rfl,rfl,rfl,rfl,rfl,rfl,trivial⟩⟩
instance : FA Tryz.prog 88 0 0 := ⟨_,_,_,Tryz.underlying88,rfl,Tryz.sizeOf86,by decide,rfl⟩
instance : FA Tryz.prog 88 1 4 := ⟨_,_,_,Tryz.underlying88,rfl,Tryz.sizeOf3,by decide,rfl⟩
instance : FA Tryz.prog 88 2 5 := ⟨_,_,_,Tryz.underlying88,rfl,Tryz.sizeOf3,by decide,rfl⟩
instance : FA Tryz.prog 88 3 6 := ⟨_,_,_,Tryz.underlying88,rfl,Tryz.sizeOf3,by decide,rfl⟩
instance : FA Tryz.prog 88 4 7 := ⟨_,_,_,Tryz.underlying88,rfl,Tryz.sizeOf3,by decide,rfl⟩
instance : BT Tryz.prog 88 [(0,4),(4,1),(5,1),(6,1),(7,1)] [.cv (.int .i64 0),.cv (.int .i64 0),.cv (.int .i64 0),.cv (.int .i64 0),.cv (.int .i64 0),.cv (.int .i64 0),.cv (.int .i64 0),.cv (.int .i64 0)] := ⟨_,_,Tryz.underlying88,Tryz.zeroValue88,fun _ => by kernel_rfl,by first | exact ⟨rfl,rfl,rfl,rfl,rfl,rfl,rfl,rfl,trivial⟩⟩
instance : TZ Tryz.prog 91 4 := ⟨Tryz.sizeOf91⟩
instance : TA Tryz.prog 91 true := ⟨Tryz.isAgg91⟩
instance : ZC Tryz.prog 91 [.cv (.slice none 0 0),.cv (.bool false),.cv (.slice none 0 0),.cv (.slice none 0 0)] := ⟨_,Tryz.zeroValue91,by first | exact ⟨rfl,rfl,rfl,rfl,trivial⟩⟩
instance : FA Tryz.prog 91 0 0 := ⟨_,_,_,Tryz.underlying91,rfl,Tryz.sizeOf35,by decide,rfl⟩
instance : FA Tryz.prog 91 1 1 := ⟨_,_,_,Tryz.underlying91,rfl,Tryz.sizeOf32,by decide,rfl⟩
instance : BT Tryz.prog 91 [(0,1),(1,3)] [.cv (.slice none 0 0),.cv (.bool false),.cv (.slice none 0 0),.cv (.slice none 0 0)] := ⟨_,_,Tryz.underlying91,Tryz.zeroValue91,fun _ => by kernel_rfl,by first | exact ⟨rfl,rfl,rfl,rfl,trivial⟩⟩
instance : TZ Tryz.prog 92 1 := ⟨Tryz.sizeOf92⟩
instance : TA Tryz.prog 92 false := ⟨Tryz.isAgg92⟩
instance : TS Tryz.prog 92 91 := ⟨Tryz.underlying92⟩
instance : TA Tryz.prog 93 false := ⟨Tryz.isAgg93⟩
instance : TS Tryz.prog 93 134 := ⟨Tryz.underlying93⟩
instance : TZ Tryz.prog 95 3 := ⟨Tryz.sizeOf95⟩
instance : TA Tryz.prog 95 true := ⟨Tryz.isAgg95⟩
instance : ZC Tryz.prog 95 [.cv (.bool false),.cv (.slice none 0 0),.cv (.slice none 0 0)] := ⟨_,Tryz.zeroValue95,by first | exact ⟨rfl,rfl,rfl,trivial⟩⟩
instance : FA Tryz.prog 95 0 0 := ⟨_,_,_,Tryz.underlying95,rfl,Tryz.sizeOf4,by decide,rfl⟩
instance : FA Tryz.prog 95 1 1 := ⟨_,_,_,Tryz.underlying95,rfl,Tryz.sizeOf93,by decide,rfl⟩
instance : FA Tryz.prog 95 2 2 := ⟨_,_,_,Tryz.underlying95,rfl,Tryz.sizeOf93,by decide,rfl⟩
instance : BT Tryz.prog 95 [(0,1),(1,1),(2,1)] [.cv (.bool false),.cv (.slice none 0 0),.cv (.slice none 0 0)] := ⟨_,_,Tryz.underlying95,Tryz.zeroValue95,fun _ => by kernel_rfl,by first | exact ⟨rfl,rfl,rfl,trivial⟩⟩
instance : TZ Tryz.prog 105 2 := ⟨Tryz.sizeOf105⟩
instance : TA Tryz.prog 105 true := ⟨Tryz.isAgg105⟩
instance : ZC Tryz.prog 105 [.cv (.slice none 0 0),.cv (.int .i64 0)] := ⟨_,Tryz.zeroValue105,by first | exact ⟨rfl,rfl,trivial⟩⟩
instance : FA Tryz.prog 105 0 0 := ⟨_,_,_,Tryz.underlying105,rfl,Tryz.sizeOf35,by decide,rfl⟩
instance : FA Tryz.prog 105 1 1 := ⟨_,_,_,Tryz.underlying105,rfl,Tryz.sizeOf3,by decide,rfl⟩
instance : TA Tryz.prog 112 false := ⟨Tryz.isAgg112⟩
instance : TA Tryz.prog 113 false := ⟨Tryz.isAgg113⟩
instance : TS Tryz.prog 113 190 := ⟨Tryz.underlying113⟩
instance : FA Tryz.prog 115 0 0 := ⟨_,_,_,Tryz.underlying115,rfl,Tryz.sizeOf25,by decide,rfl⟩
instance : FA Tryz.prog 115 1 4 := ⟨_,_,_,Tryz.underlying115,rfl,Tryz.sizeOf35,by decide,rfl⟩
instance : FA Tryz.prog 115 2 5 := ⟨_,_,_,Tryz.underlying115,rfl,Tryz.sizeOf113,by decide,rfl⟩
instance : BT Tryz.prog 115 [(0,4),(4,1),(5,1)] [.cv (.slice none 0 0),.cv (.slice none 0 0),.cv (.slice none 0 0),.cv (.slice none 0 0),.cv (.slice none 0 0),.cv (.slice none 0 0)] := ⟨_,_,Tryz.underlying115,Tryz.zeroValue115,fun _ => by kernel_rfl,by first | exact ⟨rfl,rfl,rfl,rfl,rfl,rfl,trivial⟩⟩
instance : TZ Tryz.prog 134 1 := ⟨Tryz.sizeOf134⟩
instance : TA Tryz.prog 134 false := ⟨Tryz.isAgg134⟩
instance : TI Tryz.prog 134 .u32 := ⟨Tryz.underlying134⟩
instance : TD Tryz.prog 134 := ⟨_,Tryz.underlying134⟩
instance : TZ Tryz.prog 148 12 := ⟨Tryz.sizeOf148⟩
instance : ZC Tryz.prog 148 [.cv (.int .i64 0),.cv (.int .i64 0),.cv (.int .i64 0),.cv (.int .i64 0),.cv (.int .i64 0),.cv (.int .i64 0),.cv (.int .i64 0),.cv (.int .i64 0),.cv (.bool false),.cv (.bool false),.cv (.slice none 0 0),.cv (.slice none 0 0)] := ⟨_,Tryz.zeroValue148,by first | exact ⟨rfl,rfl,rfl,rfl,rfl,rfl,rfl,rfl,rfl,rfl,rfl,rfl,trivial⟩⟩
instance : FA Tryz.prog 148 0 0 := ⟨_,_,_,Tryz.underlying148,rfl,Tryz.sizeOf88,by decide,rfl⟩
instance : FA Tryz.prog 148 2 9 := ⟨_,_,_,Tryz.underlying148,rfl,Tryz.sizeOf32,by decide,rfl⟩
instance : BT Tryz.prog 148 [(0,8),(8,1),(9,3)] [.cv (.int .i64 0),.cv (.int .i64 0),.cv (.int .i64 0),.cv (.int .i64 0),.cv (.int .i64 0),.cv (.int .i64 0),.cv (.int .i64 0),.cv (.int .i64 0),.cv (.bool false),.cv (.bool false),.cv (.slice none 0 0),.cv (.slice none 0 0)] := ⟨_,_,Tryz.underlying148,Tryz.zeroValue148,fun _ => by kernel_rfl,by first | exact ⟨rfl,rfl,rfl,rfl,rfl,rfl,rfl,rfl,rfl,rfl,rfl,rfl,trivial⟩⟩
instance : TA Tryz.prog 180 false := ⟨Tryz.isAgg180⟩
instance : FA Tryz.prog 182 0 0 := ⟨_,_,_,Tryz.underlying182,rfl,Tryz.sizeOf51,by decide,rfl⟩
instance : FA Tryz.prog 182 1 10 := ⟨_,_,_,Tryz.underlying182,rfl,Tryz.sizeOf180,by decide,rfl⟩
instance : FA Tryz.prog 182 2 11 := ⟨_,_,_,Tryz.underlying182,rfl,Tryz.sizeOf3,by decide,rfl⟩
instance : BT Tryz.prog 182 [(0,10),(10,1),(11,1)] [.cv (.slice none 0 0),.cv (.slice none 0 0),.cv (.int .i64 0),.cv (.int .i64 0),.cv (.slice none 0 0),.cv (.int .i64 0),.cv (.bool false),.cv (.slice none 0 0),.cv (.slice none 0 0),.cv (.slice none 0 0),.cv (.map none),.cv (.int .i64 0)] := ⟨_,_,Tryz.underlying182,Tryz.zeroValue182,fun _ => by kernel_rfl,by first | exact ⟨rfl,rfl,rfl,rfl,rfl,rfl,rfl,rfl,rfl,rfl,rfl,rfl,trivial⟩⟩
instance : TZ Tryz.prog 208 1 := ⟨Tryz.sizeOf208⟩
instance : TA Tryz.prog 208 false := ⟨Tryz.isAgg208⟩
instance : TS Tryz.prog 208 224 := ⟨Tryz.underlying208⟩
instance : TZ Tryz.prog 210 2 := ⟨Tryz.sizeOf210⟩
instance : TA Tryz.prog 210 true := ⟨Tryz.isAgg210⟩
instance : ZC Tryz.prog 210 [.cv (.slice none 0 0),.cv (.int .i64 0)] := ⟨_,Tryz.zeroValue210,by first | exact ⟨rfl,rfl,trivial⟩⟩
instance : FA Tryz.prog 210 0 0 := ⟨_,_,_,Tryz.underlying210,rfl,Tryz.sizeOf208,by decide,rfl⟩
instance : FA Tryz.prog 210 1 1 := ⟨_,_,_,Tryz.underlying210,rfl,Tryz.sizeOf3,by decide,rfl⟩
instance : BT Tryz.prog 210 [(0,1),(1,1)] [.cv (.slice none 0 0),.cv (.int .i64 0)] := ⟨_,_,Tryz.underlying210,Tryz.zeroValue210,fun _ => by kernel_rfl,by first | exact ⟨rfl,rfl,trivial⟩⟩
instance : TZ Tryz.prog 215 5 := ⟨Tryz.sizeOf215⟩
instance : TA Tryz.prog 215 true := ⟨Tryz.isAgg215⟩
instance : FA Tryz.prog 215 0 0 := ⟨_,_,_,Tryz.underlying215,rfl,Tryz.sizeOf210,by decide,rfl⟩
instance : FA Tryz.prog 215 1 2 := ⟨_,_,_,Tryz.underlying215,rfl,Tryz.sizeOf32,by decide,rfl⟩
instance : BT Tryz.prog 215 [(0,2),(2,3)] [.cv (.slice none 0 0),.cv (.int .i64 0),.cv (.bool false),.cv (.slice none 0 0),.cv (.slice none 0 0)] := ⟨_,_,Tryz.underlying215,Tryz.zeroValue215,fun _ => by kernel_rfl,by first | exact ⟨rfl,rfl,rfl,rfl,rfl,trivial⟩⟩
instance : TZ Tryz.prog 217 2 := ⟨Tryz.sizeOf217⟩
instance : TA Tryz.prog 217 true := ⟨Tryz.isAgg217⟩
instance : FA Tryz.prog 217 0 0 := ⟨_,_,_,Tryz.underlying217,rfl,Tryz.sizeOf210,by decide,rfl⟩
instance : BT Tryz.prog 217 [(0,2)] [.cv (.slice none 0 0),.cv (.int .i64 0)] := ⟨_,_,Tryz.underlying217,Tryz.zeroValue217,fun _ => by kernel_rfl,by first | exact ⟨rfl,rfl,trivial⟩⟩
instance : FA Tryz.prog 218 0 0 := ⟨_,_,_,Tryz.underlying218,rfl,Tryz.sizeOf210,by decide,rfl⟩
instance : FA Tryz.prog 218 1 2 := ⟨_,_,_,Tryz.underlying218,rfl,Tryz.sizeOf32,by decide,rfl⟩
instance : BT Tryz.prog 218 [(0,2),(2,3)] [.cv (.slice none 0 0),.cv (.int .i64 0),.cv (.bool false),.cv (.slice none 0 0),.cv (.slice none 0 0)] := ⟨_,_,Tryz.underlying218,Tryz.zeroValue218,fun _ => by kernel_rfl,by first | exact ⟨rfl,rfl,rfl,rfl,rfl,trivial⟩⟩
instance : TZ Tryz.prog 221 4 := ⟨Tryz.sizeOf221⟩
instance : TA Tryz.prog 221 true := ⟨Tryz.isAgg221⟩
instance : ZC Tryz.prog 221 [.cv (.int .i64 0),.cv (.int .i64 0),.cv (.int .i64 0),.cv (.int .i64 0)] := ⟨_,Tryz.zeroValue221,by first | exact ⟨rfl,rfl,rfl,rfl,trivial⟩⟩
instance : TZ Tryz.prog 224 1 := ⟨Tryz.sizeOf224⟩
instance : TA Tryz.prog 224 false := ⟨Tryz.isAgg224⟩
instance clone_c {l : List Nat} {S : SV} [i : Vw (lv rU) S l] : Ct Tryz.prog 148 [S] (l.length <= 1000000000000) (lv rU l) := by
 refine ct1 i (ctI Tryz.call148 Tryz.func148 Tryz.ntmps148 rfl Tryz.results148 rfl [5] fun h0 w0 hl => ?_)
 repeat first | refine nx ?_ | intro _
 rename_i b hb
 refine gIf (fun c => ?_) fun c => ?_ <;> repeat first | refine nx ?_ | intro _
 · exact hb c
 · rfl
instance clone2_c {l : List Nat} {S : SV} [i : Vw (lv rU) S l] : Ct Tryz.prog 142 [S] (l.length <= 1000000000000) (lv rU l) := by
 refine ct1 i (ctI Tryz.call142 Tryz.func142 Tryz.ntmps142 rfl Tryz.results142 rfl [5] fun h0 w0 hl => ?_)
 repeat first | refine nx ?_ | intro _
 rename_i b hb
 refine gIf (fun c => ?_) fun c => ?_ <;> repeat first | refine nx ?_ | intro _
 · exact hb c
 · rfl
instance clone2O_c {l : List Nat} {S : SV} [i : Vw (lv rU) S l] : CtO Tryz.prog 142 [S] (l.length <= 1000000000000) (fun g => [rA rU 134 g.v l]) := by
 refine cO1 i (ctO Tryz.call142 Tryz.func142 Tryz.ntmps142 rfl Tryz.results142 rfl [5] fun h0 w0 hl => ?_)
 repeat first | refine nx ?_ | intro _
 rename_i b hb
 refine gIf (fun c => ?_) fun c => ?_ <;> repeat first | refine nx ?_ | intro _
 · exact hb c
 · rfl
instance trimmed_c {l : List Nat} {S : SV} [i : Vw (lv rU) S l] [f : FtL l] : Ct Tryz.prog 93 [S] (l.length <= 1000000000000) (nv (val l)) := by
 refine ct1 i (ctI Tryz.call93 Tryz.func93 Tryz.ntmps93 rfl Tryz.results93 rfl [] fun h0 w0 hl => ?_)
 repeat refine nx ?_
 refine gLp (fun k : Nat => [(3,iv k)]) (fun _ => []) (fun k => k <= l.length /\ trim (l.take k) = trim l) (fun k => k) l.length ⟨Nat.le_refl _,by rw [List.take_length]⟩ fun k ⟨h1,h2⟩ => ?_
 repeat refine nx ?_
 refine gIf (fun c => ?_) fun c => ?_ <;> repeat refine nx ?_
 · exact gBk (k - 1) ⟨by omega,by rw [<- h2, <- trim_take_zero (k := k - 1) (by omega) c.2,show k - 1 + 1 = k by omega]⟩ (by omega)
 · rw [digs_val f.h, <- h2,trim_take h1 c]
instance : FtL [] := ⟨fun _ h => by cases h⟩
instance {a : Nat} {l : List Nat} [i : FtL l] : FtL (a % 4294967296 :: l) := ⟨fun x hx => by
 rcases List.mem_cons.1 hx with rfl | hx
 · exact Nat.mod_lt _ (by decide)
 · exact i.h x hx⟩
instance small_c {i : Int} {n : Nat} [x : IN i n] : Ct Tryz.prog 94 [.cv (.int .u64 i)] (n < 18446744073709551616) (nv n) := by
 obtain rfl := x.e
 refine ctI Tryz.call94 Tryz.func94 Tryz.ntmps94 rfl Tryz.results94 rfl [] fun h0 w0 hl => ?_
 repeat refine nx ?_
 rw [Nat.mod_eq_of_lt (show n / 2 ^ 32 < 4294967296 by omega),small_val hl]
instance compare_c {a b A B : Nat} {S T : SV} [i : Vw nv S a] [j : Vw nv T b] [p : Sz a A] [q : Sz b B] : Ct Tryz.prog 102 [S,T] (A <= 1073741824 /\ B <= 1073741824) (iv (cmpN a b)) := by
 refine ct2 i j (ctI Tryz.call102 Tryz.func102 Tryz.ntmps102 rfl Tryz.results102 rfl [] fun h0 w0 hl => ?_)
 have hp0 := p.h
 have hp1 := q.h
 unfold sz at hp0 hp1
 repeat refine nx ?_
 refine gIf (fun c => ?_) fun c => ?_ <;> repeat refine nx ?_
 · refine gIf (fun c => ?_) fun c => ?_ <;> repeat refine nx ?_
   · exact (cmpN_lt (sz_lt (by unfold sz; omega))).symm
   · exact (cmpN_gt (sz_lt (by unfold sz; omega))).symm
 · have hlen : (digs a).length = (digs b).length := by omega
   refine gLp (fun k : Nat => [(5,iv ((k : Int) - 1))]) (fun _ => []) (fun k => k <= (digs a).length /\ (digs a).drop k = (digs b).drop k) (fun k => k) (digs a).length ⟨Nat.le_refl _,by rw [List.drop_length,hlen,List.drop_length]⟩ fun k ⟨hk,hd⟩ => ?_
   repeat refine nx ?_
   refine gIf (fun c => ?_) fun c => ?_ <;> repeat first | refine nx ?_ | intro _
   · refine gIf (fun c => ?_) fun c => ?_ <;> repeat first | refine nx ?_ | intro _
     · refine gIf (fun c => ?_) fun c => ?_ <;> repeat refine nx ?_
       · exact (cmpN_lt (cmp_at hlen (by omega) (by omega) hd (by omega))).symm
       · exact (cmpN_gt (cmp_at hlen.symm (by omega) (by omega) hd.symm (by omega))).symm
     · exact gBk (k - 1) ⟨by omega,drop_eq_succ (by omega) (by omega) (by rw [show k - 1 + 1 = k by omega]; exact hd) (by omega)⟩ (by omega)
   · exact (cmp_end hd (by omega)).symm
instance digit_c {a A : Nat} {i : Int} {S : SV} [s : Vw nv S a] [p : Sz a A] {j : Nat} {sd : Prop} [tn : TN i j sd] : Ct Tryz.prog 166 [S,iv i] (sd /\ A <= 1073741824) (.cv (.int .u64 (((digs a).getD j 0 : Nat) : Int))) := by
 refine ct1 s (ctI Tryz.call166 Tryz.func166 Tryz.ntmps166 rfl Tryz.results166 rfl [] fun h0 w0 hs => ?_)
 have hp := p.h
 unfold sz at hp
 have hf := (digs_fit a).getD j
 rw [tn.e hs.1]
 repeat refine nx ?_
 refine gIf (fun c => ?_) fun c => ?_ <;> repeat refine nx ?_
 · rw [getD_ge (by omega)]; rfl
 · trivial
instance add_c {a b A B : Nat} {S T : SV} [i : Vw nv S a] [j : Vw nv T b] [p : Sz a A] [q : Sz b B] : Ct Tryz.prog 101 [S,T] (A <= 1073741824 /\ B <= 1073741824) (nv (a + b)) := by
 refine ct2 i j (ctI Tryz.call101 Tryz.func101 Tryz.ntmps101 rfl Tryz.results101 rfl [] fun h0 w0 hl => ?_)
 have hp0 := p.h
 have hp1 := q.h
 unfold sz at hp0 hp1
 repeat first | refine nx ?_ | intro _
 rename_i v
 generalize hN : max (digs a).length (digs b).length + 1 = N
 simp only [List.length_replicate]
 refine gLp (fun s : Nat × Nat × List Nat => [(17,iv s.1),(6,.cv (.int .u64 (s.2.1 : Int)))]) (fun s => [rA rU 134 v s.2.2]) (fun s => s.1 <= N /\ s.2.2.length = N /\ Fit s.2.2 /\ s.2.1 <= 1 /\ val (s.2.2.take s.1) + s.2.1 * B32 ^ s.1 = val ((digs a).take s.1) + val ((digs b).take s.1)) (fun s => N - s.1) (0,0,List.replicate N 0) ⟨Nat.zero_le _,List.length_replicate,Fit.replicate _,Nat.zero_le _,by simp [val]⟩ fun ⟨k,c,out⟩ ⟨hk,hl,hf,hc,hv⟩ => ?_
 have bda := (digs_fit a).getD k
 have bdb := (digs_fit b).getD k
 dsimp only at *
 haveI : FtL out := ⟨hf⟩
 repeat first | refine nx ?_ | intro _
 refine gIf (fun c1 => ?_) fun c1 => ?_ <;> repeat first | refine nx ?_ | intro _
 · refine gJ [(6,.cv (.int .u64 ((c + (digs a).getD k 0 : Nat) : Int)))] (fun c2 => ?_) (fun c2 => ?_) ?_ <;> repeat first | refine nx ?_ | intro _
   · exact gM
   · exact gM (by rw [getD_ge (by omega)]; exact ⟨rfl,by trivial⟩)
   · refine gJ [(6,.cv (.int .u64 ((c + (digs a).getD k 0 + (digs b).getD k 0 : Nat) : Int)))] (fun c3 => ?_) (fun c3 => ?_) ?_ <;> repeat first | refine nx ?_ | intro _
     · exact gM
     · exact gM (by rw [getD_ge (l := digs b) (by omega)]; exact ⟨rfl,by trivial⟩)
     · exact gBk (k + 1,(c + (digs a).getD k 0 + (digs b).getD k 0) / 2 ^ 32,out.set k ((c + (digs a).getD k 0 + (digs b).getD k 0) % 4294967296)) ⟨by omega,by rw [List.length_set]; exact hl,hf.set _ _ (Nat.mod_lt _ (by decide)),by have : (2:Nat)^32 = 4294967296 := rfl; dsimp only; omega,add_step (by omega) hv⟩ (by dsimp only; omega)
 · rw [add_close (by omega) (by rw [hl,hN]) hv]
set_option synthInstance.maxSize 1000
instance sub_c {a b A B : Nat} {S T : SV} [i : Vw nv S a] [j : Vw nv T b] [p : Sz a A] [q : Sz b B] : Ct Tryz.prog 103 [S,T] (A <= 1073741824 /\ B <= 1073741824 /\ b <= a) (nv (a - b)) := by
 refine ct2 i j (ctI Tryz.call103 Tryz.func103 Tryz.ntmps103 rfl Tryz.results103 rfl [11] fun h0 w0 hl => ?_)
 have hp0 := p.h
 have hp1 := q.h
 have hsz := sz_mono hl.2.2
 unfold sz at hp0 hp1 hsz
 repeat first | refine nx ?_ | intro _
 rename_i v
 obtain ⟨v,_⟩ := v
 dsimp only
 refine gLp (fun s : Nat × Nat × List Nat => [(14,iv s.1),(6,.cv (.int .u64 (s.2.1 : Int)))]) (fun s => [rA rU 134 v s.2.2]) (fun s => s.1 <= (digs a).length /\ s.2.2.length = (digs a).length /\ Fit s.2.2 /\ s.2.1 <= 1 /\ s.2.2.drop s.1 = (digs a).drop s.1 /\ val (s.2.2.take s.1) + val ((digs b).take s.1) = val ((digs a).take s.1) + s.2.1 * B32 ^ s.1) (fun s => (digs a).length - s.1) (0,0,digs a) ⟨Nat.zero_le _,rfl,digs_fit a,Nat.zero_le _,rfl,by simp [val]⟩ fun ⟨k,br,out⟩ ⟨hk,hll,hf,hb,hd,hv⟩ => ?_
 have bdb := (digs_fit b).getD k
 have bdo := hf.getD k
 dsimp only at *
 haveI : FtL out := ⟨hf⟩
 repeat first | refine nx ?_ | intro _
 refine gIf (fun c1 => ?_) fun c1 => ?_ <;> repeat first | refine nx ?_ | intro _
 · refine gJ [(9,.cv (.int .u64 ((br + (digs b).getD k 0 : Nat) : Int)))] (fun c3 => ?_) (fun c3 => ?_) ?_ <;> repeat first | refine nx ?_ | intro _
   · exact gM
   · exact gM (by rw [getD_ge (l := digs b) (by omega)]; exact ⟨rfl,by trivial⟩)
   · refine gIf (fun c2 => ?_) fun c2 => ?_ <;> repeat first | refine nx ?_ | intro _
     · refine gBk (k + 1,1,out.set k ((out.getD k 0 + 4294967296 - (br + (digs b).getD k 0)) % 4294967296)) ⟨by omega,by rw [List.length_set]; exact hll, ?_,Nat.le_refl _,drop_set_succ (by omega) hd, ?_⟩ (by dsimp only; omega)
       · exact hf.set _ _ (Nat.mod_lt _ (by decide))
       · dsimp only; rw [Nat.mod_eq_of_lt (by omega)]; exact sub_step1 (by omega) (by omega) (by omega) hd hv
     · refine gBk (k + 1,0,out.set k ((out.getD k 0 - (br + (digs b).getD k 0)) % 4294967296)) ⟨by omega,by rw [List.length_set]; exact hll, ?_,Nat.zero_le _,drop_set_succ (by omega) hd, ?_⟩ (by dsimp only; omega)
       · exact hf.set _ _ (Nat.mod_lt _ (by decide))
       · dsimp only; rw [Nat.mod_eq_of_lt (by omega)]; exact sub_step2 (by omega) (by omega) (by omega) hd hv
 · rw [sub_close (by omega) hll hf (by omega) hl.2.2 hv]
instance mul_c {a b A B : Nat} {S T : SV} [i : Vw nv S a] [j : Vw nv T b] [p : Sz a A] [q : Sz b B] : Ct Tryz.prog 100 [S,T] (A <= 1073741824 /\ B <= 1073741824) (nv (a * b)) := by
 refine ct2 i j (ctI Tryz.call100 Tryz.func100 Tryz.ntmps100 rfl Tryz.results100 rfl [] fun h0 w0 hl => ?_)
 have hp0 := p.h
 have hp1 := q.h
 unfold sz at hp0 hp1
 repeat first | refine nx ?_ | intro _
 rename_i v
 generalize hLA : (digs a).length = LA at *
 generalize hLB : (digs b).length = LB at *
 refine gLp (fun s : Nat × List Nat => [(19,iv s.1)]) (fun s => [rA rU 134 v s.2]) (fun s => s.1 <= LA /\ s.2.length = LA + LB /\ Fit s.2 /\ (∀ t,s.1 + LB <= t -> s.2.getD t 0 = 0) /\ val s.2 = val ((digs a).take s.1) * b) (fun s => LA - s.1) (0,List.replicate (LA + LB) 0) ⟨Nat.zero_le _,List.length_replicate,Fit.replicate _,fun t _ => getD_replicate _ t,by simp [val,val_replicate]⟩ fun ⟨x,out⟩ ⟨hi,hll,hf,hz,hv⟩ => ?_
 have bdx := (digs_fit a).getD x
 dsimp only at *
 haveI : FtL out := ⟨hf⟩
 repeat first | refine nx ?_ | intro _
 refine gIf (fun c1 => ?_) fun c1 => ?_ <;> repeat first | refine nx ?_ | intro _
 · refine gLp (fun s : Nat × Nat × List Nat => [(26,iv s.1),(8,.cv (.int .u64 (s.2.1 : Int)))]) (fun s => [rA rU 134 v s.2.2]) (fun s => s.1 <= LB /\ s.2.2.length = LA + LB /\ Fit s.2.2 /\ s.2.1 < 4294967296 /\ (∀ t,x + LB <= t -> s.2.2.getD t 0 = 0) /\ val s.2.2 + s.2.1 * B32 ^ (x + s.1) = val ((digs a).take x) * b + (digs a).getD x 0 * val ((digs b).take s.1) * B32 ^ x) (fun s => LB - s.1) (0,0,out) ⟨Nat.zero_le _,hll,hf,Nat.lt_of_lt_of_le (Nat.zero_lt_one) (by decide),hz,by rw [hv]; simp [val]⟩ fun ⟨y,c,o⟩ ⟨hj,hl2,hf2,hc,hz2,hv2⟩ => ?_
   have bdy := (digs_fit b).getD y
   have bdo := hf2.getD (x + y)
   have bxy := mul_bd bdx bdy
   dsimp only at *
   repeat first | refine nx ?_ | intro _
   refine gIf (fun c2 => ?_) fun c2 => ?_ <;> repeat first | refine nx ?_ | intro _
   · exact gBk (y + 1,(c + ((digs a).getD x 0 * (digs b).getD y 0 + o.getD (x + y) 0)) / 2 ^ 32,o.set (x + y) ((c + ((digs a).getD x 0 * (digs b).getD y 0 + o.getD (x + y) 0)) % 4294967296)) ⟨by omega,by rw [List.length_set]; exact hl2,hf2.set _ _ (Nat.mod_lt _ (by decide)),by dsimp only; have : (2:Nat)^32 = 4294967296 := rfl; omega,fun t ht => by rw [getD_set_ne (by omega)]; exact hz2 t ht,mul_inner (by omega) hv2⟩ (by dsimp only; omega)
   · exact gBk (x + 1,o.set (x + (digs b).length) (c % 4294967296)) ⟨by omega,by rw [List.length_set]; exact hl2,hf2.set _ _ (Nat.mod_lt _ (by decide)),fun t ht => by rw [getD_set_ne (by omega)]; exact hz2 t (by omega),by
      rw [Nat.mod_eq_of_lt hc]
      exact mul_outer (by omega) (by omega) (hz2 _ (by omega)) hv2⟩ (by dsimp only; omega)
 · rw [hv,val_take_all (by omega),val_digs]
end Go.E3
