/- Texts that a law rests on, part z3: plain lemmas and what functions of the program do. No condition. -/
import Derived.Sort.OwnSorted
import Derived.Sort.OwnSortedInts
import Derived.Test.YtnconfggojpkcaaGreatRows
import Derived.Test.YtnconfggojpkcaaGreatSz2
set_option linter.all false
set_option maxHeartbeats 16000000
set_option maxRecDepth 100000
namespace Go.Proofs.YtnconfggojpkcaaGreat
open Go.RowKit AM
namespace Ty
@[simp] theorem g1:yJ Tryz.prog 1=some false:=by kernel_rfl
@[simp] theorem s1:sizeT Tryz.prog 1=some 1:=by kernel_rfl
@[simp] theorem z1:za Tryz.prog 1=some [.sc (.nilFunc)]:=by kernel_rfl
@[simp] theorem g2:yJ Tryz.prog 2=some false:=by kernel_rfl
@[simp] theorem s2:sizeT Tryz.prog 2=some 1:=by kernel_rfl
@[simp] theorem z2:za Tryz.prog 2=some [.sc (.int .i64 0)]:=by kernel_rfl
@[simp] theorem u2:Tryz.prog.underlying 2=some (.int .i64):=by kernel_rfl
@[simp] theorem g3:yJ Tryz.prog 3=some false:=by kernel_rfl
@[simp] theorem s3:sizeT Tryz.prog 3=some 1:=by kernel_rfl
@[simp] theorem z3:za Tryz.prog 3=some [.sc (.int .i64 0)]:=by kernel_rfl
@[simp] theorem u3:Tryz.prog.underlying 3=some (.int .i64):=by kernel_rfl
@[simp] theorem g4:yJ Tryz.prog 4=some false:=by kernel_rfl
@[simp] theorem s4:sizeT Tryz.prog 4=some 1:=by kernel_rfl
@[simp] theorem z4:za Tryz.prog 4=some [.sc (.bool false)]:=by kernel_rfl
@[simp] theorem u4:Tryz.prog.underlying 4=some .bool:=by kernel_rfl
@[simp] theorem g5:yJ Tryz.prog 5=some false:=by kernel_rfl
@[simp] theorem s5:sizeT Tryz.prog 5=some 1:=by kernel_rfl
@[simp] theorem z5:za Tryz.prog 5=some [.sc (.int .u8 0)]:=by kernel_rfl
@[simp] theorem u5:Tryz.prog.underlying 5=some (.int .u8):=by kernel_rfl
@[simp] theorem g6:yJ Tryz.prog 6=some false:=by kernel_rfl
@[simp] theorem s6:sizeT Tryz.prog 6=some 1:=by kernel_rfl
@[simp] theorem z6:za Tryz.prog 6=some [.sc (.int .u8 0)]:=by kernel_rfl
@[simp] theorem u6:Tryz.prog.underlying 6=some (.int .u8):=by kernel_rfl
@[simp] theorem g7:yJ Tryz.prog 7=some true:=by kernel_rfl
@[simp] theorem s7:sizeT Tryz.prog 7=some 4:=by kernel_rfl
@[simp] theorem z7:za Tryz.prog 7=some [.sc (.int .i64 0),.sc (.int .i64 0),.sc (.bool false),.sc (.int .u8 0)]:=by kernel_rfl
@[simp] theorem f7_0:qC Tryz.prog 7 0=some 0:=by kernel_rfl
@[simp] theorem f7_1:qC Tryz.prog 7 1=some 1:=by kernel_rfl
@[simp] theorem f7_2:qC Tryz.prog 7 2=some 2:=by kernel_rfl
@[simp] theorem f7_3:qC Tryz.prog 7 3=some 3:=by kernel_rfl
@[simp] theorem p7:placeOf Tryz.prog 7=some (fun i=>([(0,1),(1,1),(2,1),(3,1)]:List (Nat×Nat))[i]?):=by kernel_rfl
@[simp] theorem g8:yJ Tryz.prog 8=some true:=by kernel_rfl
@[simp] theorem s8:sizeT Tryz.prog 8=some 4:=by kernel_rfl
@[simp] theorem z8:za Tryz.prog 8=some [.sc (.int .i64 0),.sc (.int .i64 0),.sc (.bool false),.sc (.int .u8 0)]:=by kernel_rfl
@[simp] theorem f8_0:qC Tryz.prog 8 0=some 0:=by kernel_rfl
@[simp] theorem f8_1:qC Tryz.prog 8 1=some 1:=by kernel_rfl
@[simp] theorem f8_2:qC Tryz.prog 8 2=some 2:=by kernel_rfl
@[simp] theorem f8_3:qC Tryz.prog 8 3=some 3:=by kernel_rfl
@[simp] theorem p8:placeOf Tryz.prog 8=some (fun i=>([(0,1),(1,1),(2,1),(3,1)]:List (Nat×Nat))[i]?):=by kernel_rfl
@[simp] theorem g9:yJ Tryz.prog 9=some false:=by kernel_rfl
@[simp] theorem s9:sizeT Tryz.prog 9=some 1:=by kernel_rfl
@[simp] theorem z9:za Tryz.prog 9=some [.sc (.string ⟨#[]⟩)]:=by kernel_rfl
@[simp] theorem u9:Tryz.prog.underlying 9=some .string:=by kernel_rfl
@[simp] theorem g10:yJ Tryz.prog 10=some false:=by kernel_rfl
@[simp] theorem s10:sizeT Tryz.prog 10=some 1:=by kernel_rfl
@[simp] theorem z10:za Tryz.prog 10=some [.sc (.string ⟨#[]⟩)]:=by kernel_rfl
@[simp] theorem u10:Tryz.prog.underlying 10=some .string:=by kernel_rfl
@[simp] theorem g12:yJ Tryz.prog 12=some false:=by kernel_rfl
@[simp] theorem s12:sizeT Tryz.prog 12=some 1:=by kernel_rfl
@[simp] theorem z12:za Tryz.prog 12=some [.sc (.int .u64 0)]:=by kernel_rfl
@[simp] theorem u12:Tryz.prog.underlying 12=some (.int .u64):=by kernel_rfl
@[simp] theorem g17:yJ Tryz.prog 17=some false:=by kernel_rfl
@[simp] theorem s17:sizeT Tryz.prog 17=some 1:=by kernel_rfl
@[simp] theorem z17:za Tryz.prog 17=some [.sc (.pointer none)]:=by kernel_rfl
@[simp] theorem u17:Tryz.prog.underlying 17=some (.pointer 314):=by kernel_rfl
@[simp] theorem g21:yJ Tryz.prog 21=some false:=by kernel_rfl
@[simp] theorem s21:sizeT Tryz.prog 21=some 1:=by kernel_rfl
@[simp] theorem z21:za Tryz.prog 21=some [.sc (.int .i32 0)]:=by kernel_rfl
@[simp] theorem u21:Tryz.prog.underlying 21=some (.int .i32):=by kernel_rfl
@[simp] theorem g22:yJ Tryz.prog 22=some false:=by kernel_rfl
@[simp] theorem s22:sizeT Tryz.prog 22=some 1:=by kernel_rfl
@[simp] theorem z22:za Tryz.prog 22=some [.nil]:=by kernel_rfl
@[simp] theorem e22:elT Tryz.prog 22=some (95,7,72):=by kernel_rfl
@[simp] theorem u22:Tryz.prog.underlying 22=some (.slice 95):=by kernel_rfl
@[simp] theorem g23:yJ Tryz.prog 23=some true:=by kernel_rfl
@[simp] theorem s23:sizeT Tryz.prog 23=some 4:=by kernel_rfl
@[simp] theorem z23:za Tryz.prog 23=some [.sc (.int .i64 0),.sc (.int .i64 0),.sc (.int .i64 0),.sc (.int .i64 0)]:=by kernel_rfl
@[simp] theorem f23_0:qC Tryz.prog 23 0=some 0:=by kernel_rfl
@[simp] theorem f23_1:qC Tryz.prog 23 1=some 1:=by kernel_rfl
@[simp] theorem f23_2:qC Tryz.prog 23 2=some 2:=by kernel_rfl
@[simp] theorem f23_3:qC Tryz.prog 23 3=some 3:=by kernel_rfl
@[simp] theorem p23:placeOf Tryz.prog 23=some (fun i=>([(0,1),(1,1),(2,1),(3,1)]:List (Nat×Nat))[i]?):=by kernel_rfl
@[simp] theorem g24:yJ Tryz.prog 24=some true:=by kernel_rfl
@[simp] theorem s24:sizeT Tryz.prog 24=some 4:=by kernel_rfl
@[simp] theorem z24:za Tryz.prog 24=some [.sc (.int .i64 0),.sc (.int .i64 0),.sc (.int .i64 0),.sc (.int .i64 0)]:=by kernel_rfl
@[simp] theorem f24_0:qC Tryz.prog 24 0=some 0:=by kernel_rfl
@[simp] theorem f24_1:qC Tryz.prog 24 1=some 1:=by kernel_rfl
@[simp] theorem f24_2:qC Tryz.prog 24 2=some 2:=by kernel_rfl
@[simp] theorem f24_3:qC Tryz.prog 24 3=some 3:=by kernel_rfl
@[simp] theorem p24:placeOf Tryz.prog 24=some (fun i=>([(0,1),(1,1),(2,1),(3,1)]:List (Nat×Nat))[i]?):=by kernel_rfl
@[simp] theorem g25:yJ Tryz.prog 25=some true:=by kernel_rfl
@[simp] theorem s25:sizeT Tryz.prog 25=some 8:=by kernel_rfl
@[simp] theorem z25:za Tryz.prog 25=some [.sc (.int .i64 0),.sc (.int .i64 0),.sc (.int .i64 0),.sc (.int .i64 0),.sc (.int .i64 0),.sc (.int .i64 0),.sc (.bool false),.sc (.int .i64 0)]:=by kernel_rfl
@[simp] theorem f25_0:qC Tryz.prog 25 0=some 0:=by kernel_rfl
@[simp] theorem f25_1:qC Tryz.prog 25 1=some 1:=by kernel_rfl
@[simp] theorem f25_2:qC Tryz.prog 25 2=some 2:=by kernel_rfl
@[simp] theorem f25_3:qC Tryz.prog 25 3=some 6:=by kernel_rfl
@[simp] theorem f25_4:qC Tryz.prog 25 4=some 7:=by kernel_rfl
@[simp] theorem p25:placeOf Tryz.prog 25=some (fun i=>([(0,1),(1,1),(2,4),(6,1),(7,1)]:List (Nat×Nat))[i]?):=by kernel_rfl
@[simp] theorem g26:yJ Tryz.prog 26=some true:=by kernel_rfl
@[simp] theorem s26:sizeT Tryz.prog 26=some 8:=by kernel_rfl
@[simp] theorem z26:za Tryz.prog 26=some [.sc (.int .i64 0),.sc (.int .i64 0),.sc (.int .i64 0),.sc (.int .i64 0),.sc (.int .i64 0),.sc (.int .i64 0),.sc (.bool false),.sc (.int .i64 0)]:=by kernel_rfl
@[simp] theorem f26_0:qC Tryz.prog 26 0=some 0:=by kernel_rfl
@[simp] theorem f26_1:qC Tryz.prog 26 1=some 1:=by kernel_rfl
@[simp] theorem f26_2:qC Tryz.prog 26 2=some 2:=by kernel_rfl
@[simp] theorem f26_3:qC Tryz.prog 26 3=some 6:=by kernel_rfl
@[simp] theorem f26_4:qC Tryz.prog 26 4=some 7:=by kernel_rfl
@[simp] theorem p26:placeOf Tryz.prog 26=some (fun i=>([(0,1),(1,1),(2,4),(6,1),(7,1)]:List (Nat×Nat))[i]?):=by kernel_rfl
@[simp] theorem g27:yJ Tryz.prog 27=some true:=by kernel_rfl
@[simp] theorem s27:sizeT Tryz.prog 27=some 10:=by kernel_rfl
@[simp] theorem z27:za Tryz.prog 27=some [.sc (.int .i64 0),.sc (.int .i64 0),.sc (.int .i64 0),.sc (.int .i64 0),.sc (.int .i64 0),.sc (.int .i64 0),.sc (.int .i64 0),.sc (.int .i64 0),.sc (.bool false),.sc (.int .i64 0)]:=by kernel_rfl
@[simp] theorem f27_0:qC Tryz.prog 27 0=some 0:=by kernel_rfl
@[simp] theorem f27_1:qC Tryz.prog 27 1=some 1:=by kernel_rfl
@[simp] theorem f27_2:qC Tryz.prog 27 2=some 2:=by kernel_rfl
@[simp] theorem p27:placeOf Tryz.prog 27=some (fun i=>([(0,1),(1,1),(2,8)]:List (Nat×Nat))[i]?):=by kernel_rfl
@[simp] theorem g28:yJ Tryz.prog 28=some true:=by kernel_rfl
@[simp] theorem s28:sizeT Tryz.prog 28=some 10:=by kernel_rfl
@[simp] theorem z28:za Tryz.prog 28=some [.sc (.int .i64 0),.sc (.int .i64 0),.sc (.int .i64 0),.sc (.int .i64 0),.sc (.int .i64 0),.sc (.int .i64 0),.sc (.int .i64 0),.sc (.int .i64 0),.sc (.bool false),.sc (.int .i64 0)]:=by kernel_rfl
@[simp] theorem f28_0:qC Tryz.prog 28 0=some 0:=by kernel_rfl
@[simp] theorem f28_1:qC Tryz.prog 28 1=some 1:=by kernel_rfl
@[simp] theorem f28_2:qC Tryz.prog 28 2=some 2:=by kernel_rfl
@[simp] theorem p28:placeOf Tryz.prog 28=some (fun i=>([(0,1),(1,1),(2,8)]:List (Nat×Nat))[i]?):=by kernel_rfl
@[simp] theorem g29:yJ Tryz.prog 29=some true:=by kernel_rfl
@[simp] theorem s29:sizeT Tryz.prog 29=some 2:=by kernel_rfl
@[simp] theorem z29:za Tryz.prog 29=some [.sc (.int .i64 0),.sc (.int .i64 0)]:=by kernel_rfl
@[simp] theorem f29_0:qC Tryz.prog 29 0=some 0:=by kernel_rfl
@[simp] theorem f29_1:qC Tryz.prog 29 1=some 1:=by kernel_rfl
@[simp] theorem p29:placeOf Tryz.prog 29=some (fun i=>([(0,1),(1,1)]:List (Nat×Nat))[i]?):=by kernel_rfl
@[simp] theorem g30:yJ Tryz.prog 30=some true:=by kernel_rfl
@[simp] theorem s30:sizeT Tryz.prog 30=some 2:=by kernel_rfl
@[simp] theorem z30:za Tryz.prog 30=some [.sc (.int .i64 0),.sc (.int .i64 0)]:=by kernel_rfl
@[simp] theorem f30_0:qC Tryz.prog 30 0=some 0:=by kernel_rfl
@[simp] theorem f30_1:qC Tryz.prog 30 1=some 1:=by kernel_rfl
@[simp] theorem p30:placeOf Tryz.prog 30=some (fun i=>([(0,1),(1,1)]:List (Nat×Nat))[i]?):=by kernel_rfl
@[simp] theorem g31:yJ Tryz.prog 31=some true:=by kernel_rfl
@[simp] theorem s31:sizeT Tryz.prog 31=some 18:=by kernel_rfl
@[simp] theorem z31:za Tryz.prog 31=some [.nil,.sc (.int .i64 0),.sc (.int .i64 0),.sc (.int .i64 0),.sc (.int .i64 0),.sc (.int .i64 0),.sc (.int .i64 0),.sc (.int .i64 0),.sc (.int .i64 0),.sc (.bool false),.sc (.int .i64 0),.sc (.int .i64 0),.sc (.int .i64 0),.sc (.int .i64 0),.sc (.int .i64 0),.sc (.int .i64 0),.sc (.int .i64 0),.sc (.int .i64 0)]:=by kernel_rfl
@[simp] theorem f31_0:qC Tryz.prog 31 0=some 0:=by kernel_rfl
@[simp] theorem f31_1:qC Tryz.prog 31 1=some 1:=by kernel_rfl
@[simp] theorem f31_2:qC Tryz.prog 31 2=some 11:=by kernel_rfl
@[simp] theorem f31_3:qC Tryz.prog 31 3=some 15:=by kernel_rfl
@[simp] theorem f31_4:qC Tryz.prog 31 4=some 17:=by kernel_rfl
@[simp] theorem p31:placeOf Tryz.prog 31=some (fun i=>([(0,1),(1,10),(11,4),(15,2),(17,1)]:List (Nat×Nat))[i]?):=by kernel_rfl
@[simp] theorem g32:yJ Tryz.prog 32=some true:=by kernel_rfl
@[simp] theorem s32:sizeT Tryz.prog 32=some 18:=by kernel_rfl
@[simp] theorem z32:za Tryz.prog 32=some [.nil,.sc (.int .i64 0),.sc (.int .i64 0),.sc (.int .i64 0),.sc (.int .i64 0),.sc (.int .i64 0),.sc (.int .i64 0),.sc (.int .i64 0),.sc (.int .i64 0),.sc (.bool false),.sc (.int .i64 0),.sc (.int .i64 0),.sc (.int .i64 0),.sc (.int .i64 0),.sc (.int .i64 0),.sc (.int .i64 0),.sc (.int .i64 0),.sc (.int .i64 0)]:=by kernel_rfl
@[simp] theorem f32_0:qC Tryz.prog 32 0=some 0:=by kernel_rfl
@[simp] theorem f32_1:qC Tryz.prog 32 1=some 1:=by kernel_rfl
@[simp] theorem f32_2:qC Tryz.prog 32 2=some 11:=by kernel_rfl
@[simp] theorem f32_3:qC Tryz.prog 32 3=some 15:=by kernel_rfl
@[simp] theorem f32_4:qC Tryz.prog 32 4=some 17:=by kernel_rfl
@[simp] theorem p32:placeOf Tryz.prog 32=some (fun i=>([(0,1),(1,10),(11,4),(15,2),(17,1)]:List (Nat×Nat))[i]?):=by kernel_rfl
@[simp] theorem g33:yJ Tryz.prog 33=some false:=by kernel_rfl
@[simp] theorem s33:sizeT Tryz.prog 33=some 1:=by kernel_rfl
@[simp] theorem z33:za Tryz.prog 33=some [.nil]:=by kernel_rfl
@[simp] theorem e33:elT Tryz.prog 33=some (55,4,32):=by kernel_rfl
@[simp] theorem u33:Tryz.prog.underlying 33=some (.slice 55):=by kernel_rfl
@[simp] theorem g34:yJ Tryz.prog 34=some false:=by kernel_rfl
@[simp] theorem s34:sizeT Tryz.prog 34=some 1:=by kernel_rfl
@[simp] theorem z34:za Tryz.prog 34=some [.sc (.pointer none)]:=by kernel_rfl
@[simp] theorem u34:Tryz.prog.underlying 34=some (.pointer 137):=by kernel_rfl
@[simp] theorem g35:yJ Tryz.prog 35=some false:=by kernel_rfl
@[simp] theorem s35:sizeT Tryz.prog 35=some 1:=by kernel_rfl
@[simp] theorem z35:za Tryz.prog 35=some [.sc (.pointer none)]:=by kernel_rfl
@[simp] theorem u35:Tryz.prog.underlying 35=some (.pointer 141):=by kernel_rfl
@[simp] theorem g36:yJ Tryz.prog 36=some false:=by kernel_rfl
@[simp] theorem s36:sizeT Tryz.prog 36=some 1:=by kernel_rfl
@[simp] theorem z36:za Tryz.prog 36=some [.sc (.pointer none)]:=by kernel_rfl
@[simp] theorem u36:Tryz.prog.underlying 36=some (.pointer 147):=by kernel_rfl
@[simp] theorem g37:yJ Tryz.prog 37=some true:=by kernel_rfl
@[simp] theorem s37:sizeT Tryz.prog 37=some 3:=by kernel_rfl
@[simp] theorem z37:za Tryz.prog 37=some [.sc (.pointer none),.sc (.pointer none),.sc (.pointer none)]:=by kernel_rfl
@[simp] theorem f37_0:qC Tryz.prog 37 0=some 0:=by kernel_rfl
@[simp] theorem f37_1:qC Tryz.prog 37 1=some 1:=by kernel_rfl
@[simp] theorem f37_2:qC Tryz.prog 37 2=some 2:=by kernel_rfl
@[simp] theorem p37:placeOf Tryz.prog 37=some (fun i=>([(0,1),(1,1),(2,1)]:List (Nat×Nat))[i]?):=by kernel_rfl
@[simp] theorem g38:yJ Tryz.prog 38=some true:=by kernel_rfl
@[simp] theorem s38:sizeT Tryz.prog 38=some 3:=by kernel_rfl
@[simp] theorem z38:za Tryz.prog 38=some [.sc (.pointer none),.sc (.pointer none),.sc (.pointer none)]:=by kernel_rfl
@[simp] theorem f38_0:qC Tryz.prog 38 0=some 0:=by kernel_rfl
@[simp] theorem f38_1:qC Tryz.prog 38 1=some 1:=by kernel_rfl
@[simp] theorem f38_2:qC Tryz.prog 38 2=some 2:=by kernel_rfl
@[simp] theorem p38:placeOf Tryz.prog 38=some (fun i=>([(0,1),(1,1),(2,1)]:List (Nat×Nat))[i]?):=by kernel_rfl
@[simp] theorem g43:yJ Tryz.prog 43=some true:=by kernel_rfl
@[simp] theorem s43:sizeT Tryz.prog 43=some 10:=by kernel_rfl
@[simp] theorem z43:za Tryz.prog 43=some [.sc (.int .i64 0),.sc (.int .i64 0),.sc (.int .i64 0),.sc (.int .i64 0),.sc (.int .i64 0),.sc (.int .i64 0),.sc (.int .i64 0),.sc (.int .i64 0),.sc (.bool false),.sc (.int .i64 0)]:=by kernel_rfl
@[simp] theorem f43_0:qC Tryz.prog 43 0=some 0:=by kernel_rfl
@[simp] theorem f43_1:qC Tryz.prog 43 1=some 1:=by kernel_rfl
@[simp] theorem f43_2:qC Tryz.prog 43 2=some 2:=by kernel_rfl
@[simp] theorem p43:placeOf Tryz.prog 43=some (fun i=>([(0,1),(1,1),(2,8)]:List (Nat×Nat))[i]?):=by kernel_rfl
@[simp] theorem g46:yJ Tryz.prog 46=some false:=by kernel_rfl
@[simp] theorem s46:sizeT Tryz.prog 46=some 1:=by kernel_rfl
@[simp] theorem z46:za Tryz.prog 46=some [.nil]:=by kernel_rfl
@[simp] theorem e46:elT Tryz.prog 46=some (59,6,48):=by kernel_rfl
@[simp] theorem u46:Tryz.prog.underlying 46=some (.slice 59):=by kernel_rfl
@[simp] theorem g49:yJ Tryz.prog 49=some false:=by kernel_rfl
@[simp] theorem s49:sizeT Tryz.prog 49=some 1:=by kernel_rfl
@[simp] theorem z49:za Tryz.prog 49=some [.sc (.int .i64 0)]:=by kernel_rfl
@[simp] theorem u49:Tryz.prog.underlying 49=some (.int .i64):=by kernel_rfl
@[simp] theorem g54:yJ Tryz.prog 54=some true:=by kernel_rfl
@[simp] theorem s54:sizeT Tryz.prog 54=some 4:=by kernel_rfl
@[simp] theorem z54:za Tryz.prog 54=some [.sc (.int .i64 0),.sc (.int .i64 0),.sc (.int .i64 0),.sc (.int .i64 0)]:=by kernel_rfl
@[simp] theorem f54_0:qC Tryz.prog 54 0=some 0:=by kernel_rfl
@[simp] theorem f54_1:qC Tryz.prog 54 1=some 1:=by kernel_rfl
@[simp] theorem f54_2:qC Tryz.prog 54 2=some 3:=by kernel_rfl
@[simp] theorem p54:placeOf Tryz.prog 54=some (fun i=>([(0,1),(1,2),(3,1)]:List (Nat×Nat))[i]?):=by kernel_rfl
@[simp] theorem g55:yJ Tryz.prog 55=some true:=by kernel_rfl
@[simp] theorem s55:sizeT Tryz.prog 55=some 4:=by kernel_rfl
@[simp] theorem z55:za Tryz.prog 55=some [.sc (.int .i64 0),.sc (.int .i64 0),.sc (.int .i64 0),.sc (.int .i64 0)]:=by kernel_rfl
@[simp] theorem f55_0:qC Tryz.prog 55 0=some 0:=by kernel_rfl
@[simp] theorem f55_1:qC Tryz.prog 55 1=some 1:=by kernel_rfl
@[simp] theorem f55_2:qC Tryz.prog 55 2=some 3:=by kernel_rfl
@[simp] theorem p55:placeOf Tryz.prog 55=some (fun i=>([(0,1),(1,2),(3,1)]:List (Nat×Nat))[i]?):=by kernel_rfl
@[simp] theorem g56:yJ Tryz.prog 56=some true:=by kernel_rfl
@[simp] theorem s56:sizeT Tryz.prog 56=some 6:=by kernel_rfl
@[simp] theorem z56:za Tryz.prog 56=some [.sc (.int .i64 0),.sc (.int .i64 0),.sc (.int .i64 0),.sc (.int .i64 0),.sc (.int .i64 0),.sc (.int .i64 0)]:=by kernel_rfl
@[simp] theorem f56_0:qC Tryz.prog 56 0=some 0:=by kernel_rfl
@[simp] theorem f56_1:qC Tryz.prog 56 1=some 1:=by kernel_rfl
@[simp] theorem f56_2:qC Tryz.prog 56 2=some 5:=by kernel_rfl
@[simp] theorem p56:placeOf Tryz.prog 56=some (fun i=>([(0,1),(1,4),(5,1)]:List (Nat×Nat))[i]?):=by kernel_rfl
@[simp] theorem g57:yJ Tryz.prog 57=some true:=by kernel_rfl
@[simp] theorem s57:sizeT Tryz.prog 57=some 6:=by kernel_rfl
@[simp] theorem z57:za Tryz.prog 57=some [.sc (.int .i64 0),.sc (.int .i64 0),.sc (.int .i64 0),.sc (.int .i64 0),.sc (.int .i64 0),.sc (.int .i64 0)]:=by kernel_rfl
@[simp] theorem f57_0:qC Tryz.prog 57 0=some 0:=by kernel_rfl
@[simp] theorem f57_1:qC Tryz.prog 57 1=some 1:=by kernel_rfl
@[simp] theorem f57_2:qC Tryz.prog 57 2=some 5:=by kernel_rfl
@[simp] theorem p57:placeOf Tryz.prog 57=some (fun i=>([(0,1),(1,4),(5,1)]:List (Nat×Nat))[i]?):=by kernel_rfl
@[simp] theorem g58:yJ Tryz.prog 58=some true:=by kernel_rfl
@[simp] theorem s58:sizeT Tryz.prog 58=some 6:=by kernel_rfl
@[simp] theorem z58:za Tryz.prog 58=some [.sc (.int .i64 0),.sc (.int .i64 0),.sc (.int .i64 0),.sc (.int .i64 0),.sc (.int .i64 0),.sc (.int .i64 0)]:=by kernel_rfl
@[simp] theorem f58_0:qC Tryz.prog 58 0=some 0:=by kernel_rfl
@[simp] theorem f58_1:qC Tryz.prog 58 1=some 1:=by kernel_rfl
@[simp] theorem f58_2:qC Tryz.prog 58 2=some 2:=by kernel_rfl
@[simp] theorem p58:placeOf Tryz.prog 58=some (fun i=>([(0,1),(1,1),(2,4)]:List (Nat×Nat))[i]?):=by kernel_rfl
@[simp] theorem g59:yJ Tryz.prog 59=some true:=by kernel_rfl
@[simp] theorem s59:sizeT Tryz.prog 59=some 6:=by kernel_rfl
@[simp] theorem z59:za Tryz.prog 59=some [.sc (.int .i64 0),.sc (.int .i64 0),.sc (.int .i64 0),.sc (.int .i64 0),.sc (.int .i64 0),.sc (.int .i64 0)]:=by kernel_rfl
@[simp] theorem f59_0:qC Tryz.prog 59 0=some 0:=by kernel_rfl
@[simp] theorem f59_1:qC Tryz.prog 59 1=some 1:=by kernel_rfl
@[simp] theorem f59_2:qC Tryz.prog 59 2=some 2:=by kernel_rfl
@[simp] theorem p59:placeOf Tryz.prog 59=some (fun i=>([(0,1),(1,1),(2,4)]:List (Nat×Nat))[i]?):=by kernel_rfl
@[simp] theorem g70:yJ Tryz.prog 70=some false:=by kernel_rfl
@[simp] theorem s70:sizeT Tryz.prog 70=some 1:=by kernel_rfl
@[simp] theorem z70:za Tryz.prog 70=some [.nil]:=by kernel_rfl
@[simp] theorem e70:elT Tryz.prog 70=some (57,6,48):=by kernel_rfl
@[simp] theorem u70:Tryz.prog.underlying 70=some (.slice 57):=by kernel_rfl
@[simp] theorem g71:yJ Tryz.prog 71=some false:=by kernel_rfl
@[simp] theorem s71:sizeT Tryz.prog 71=some 1:=by kernel_rfl
@[simp] theorem z71:za Tryz.prog 71=some [.sc (.nilFunc)]:=by kernel_rfl
@[simp] theorem g76:yJ Tryz.prog 76=some false:=by kernel_rfl
@[simp] theorem s76:sizeT Tryz.prog 76=some 1:=by kernel_rfl
@[simp] theorem z76:za Tryz.prog 76=some [.sc (.nilFunc)]:=by kernel_rfl
@[simp] theorem g93:yJ Tryz.prog 93=some false:=by kernel_rfl
@[simp] theorem s93:sizeT Tryz.prog 93=some 1:=by kernel_rfl
@[simp] theorem z93:za Tryz.prog 93=some [.nil]:=by kernel_rfl
@[simp] theorem e93:elT Tryz.prog 93=some (24,4,32):=by kernel_rfl
@[simp] theorem u93:Tryz.prog.underlying 93=some (.slice 24):=by kernel_rfl
@[simp] theorem g94:yJ Tryz.prog 94=some true:=by kernel_rfl
@[simp] theorem s94:sizeT Tryz.prog 94=some 7:=by kernel_rfl
@[simp] theorem z94:za Tryz.prog 94=some [.sc (.int .i64 0),.sc (.int .i64 0),.sc (.int .i64 0),.sc (.int .i64 0),.sc (.int .i64 0),.nil,.sc (.int .i64 0)]:=by kernel_rfl
@[simp] theorem f94_0:qC Tryz.prog 94 0=some 0:=by kernel_rfl
@[simp] theorem f94_1:qC Tryz.prog 94 1=some 1:=by kernel_rfl
@[simp] theorem f94_2:qC Tryz.prog 94 2=some 2:=by kernel_rfl
@[simp] theorem f94_3:qC Tryz.prog 94 3=some 3:=by kernel_rfl
@[simp] theorem f94_4:qC Tryz.prog 94 4=some 4:=by kernel_rfl
@[simp] theorem f94_5:qC Tryz.prog 94 5=some 5:=by kernel_rfl
@[simp] theorem f94_6:qC Tryz.prog 94 6=some 6:=by kernel_rfl
@[simp] theorem p94:placeOf Tryz.prog 94=some (fun i=>([(0,1),(1,1),(2,1),(3,1),(4,1),(5,1),(6,1)]:List (Nat×Nat))[i]?):=by kernel_rfl
@[simp] theorem g95:yJ Tryz.prog 95=some true:=by kernel_rfl
@[simp] theorem s95:sizeT Tryz.prog 95=some 7:=by kernel_rfl
@[simp] theorem z95:za Tryz.prog 95=some [.sc (.int .i64 0),.sc (.int .i64 0),.sc (.int .i64 0),.sc (.int .i64 0),.sc (.int .i64 0),.nil,.sc (.int .i64 0)]:=by kernel_rfl
@[simp] theorem f95_0:qC Tryz.prog 95 0=some 0:=by kernel_rfl
@[simp] theorem f95_1:qC Tryz.prog 95 1=some 1:=by kernel_rfl
@[simp] theorem f95_2:qC Tryz.prog 95 2=some 2:=by kernel_rfl
@[simp] theorem f95_3:qC Tryz.prog 95 3=some 3:=by kernel_rfl
@[simp] theorem f95_4:qC Tryz.prog 95 4=some 4:=by kernel_rfl
@[simp] theorem f95_5:qC Tryz.prog 95 5=some 5:=by kernel_rfl
@[simp] theorem f95_6:qC Tryz.prog 95 6=some 6:=by kernel_rfl
@[simp] theorem p95:placeOf Tryz.prog 95=some (fun i=>([(0,1),(1,1),(2,1),(3,1),(4,1),(5,1),(6,1)]:List (Nat×Nat))[i]?):=by kernel_rfl
@[simp] theorem g100:yJ Tryz.prog 100=some false:=by kernel_rfl
@[simp] theorem s100:sizeT Tryz.prog 100=some 1:=by kernel_rfl
@[simp] theorem z100:za Tryz.prog 100=some [.sc (.pointer none)]:=by kernel_rfl
@[simp] theorem u100:Tryz.prog.underlying 100=some (.pointer 159):=by kernel_rfl
@[simp] theorem g108:yJ Tryz.prog 108=some false:=by kernel_rfl
@[simp] theorem s108:sizeT Tryz.prog 108=some 1:=by kernel_rfl
@[simp] theorem z108:za Tryz.prog 108=some [.sc (.int .u64 0)]:=by kernel_rfl
@[simp] theorem qmY:Tryz.prog.underlying 108=some (.int .u64):=by kernel_rfl
@[simp] theorem g109:yJ Tryz.prog 109=some false:=by kernel_rfl
@[simp] theorem s109:sizeT Tryz.prog 109=some 1:=by kernel_rfl
@[simp] theorem z109:za Tryz.prog 109=some [.sc (.nilFunc)]:=by kernel_rfl
@[simp] theorem g111:yJ Tryz.prog 111=some false:=by kernel_rfl
@[simp] theorem s111:sizeT Tryz.prog 111=some 1:=by kernel_rfl
@[simp] theorem z111:za Tryz.prog 111=some [.sc (.nilFunc)]:=by kernel_rfl
@[simp] theorem g114:yJ Tryz.prog 114=some false:=by kernel_rfl
@[simp] theorem s114:sizeT Tryz.prog 114=some 1:=by kernel_rfl
@[simp] theorem z114:za Tryz.prog 114=some [.sc (.nilFunc)]:=by kernel_rfl
@[simp] theorem g115:yJ Tryz.prog 115=some true:=by kernel_rfl
@[simp] theorem s115:sizeT Tryz.prog 115=some 3:=by kernel_rfl
@[simp] theorem z115:za Tryz.prog 115=some [.sc (.int .i64 0),.sc (.int .i64 0),.sc (.int .i64 0)]:=by kernel_rfl
@[simp] theorem f115_0:qC Tryz.prog 115 0=some 0:=by kernel_rfl
@[simp] theorem f115_1:qC Tryz.prog 115 1=some 1:=by kernel_rfl
@[simp] theorem f115_2:qC Tryz.prog 115 2=some 2:=by kernel_rfl
@[simp] theorem p115:placeOf Tryz.prog 115=some (fun i=>([(0,1),(1,1),(2,1)]:List (Nat×Nat))[i]?):=by kernel_rfl
@[simp] theorem g116:yJ Tryz.prog 116=some true:=by kernel_rfl
@[simp] theorem s116:sizeT Tryz.prog 116=some 3:=by kernel_rfl
@[simp] theorem z116:za Tryz.prog 116=some [.sc (.int .i64 0),.sc (.int .i64 0),.sc (.int .i64 0)]:=by kernel_rfl
@[simp] theorem f116_0:qC Tryz.prog 116 0=some 0:=by kernel_rfl
@[simp] theorem f116_1:qC Tryz.prog 116 1=some 1:=by kernel_rfl
@[simp] theorem f116_2:qC Tryz.prog 116 2=some 2:=by kernel_rfl
@[simp] theorem p116:placeOf Tryz.prog 116=some (fun i=>([(0,1),(1,1),(2,1)]:List (Nat×Nat))[i]?):=by kernel_rfl
@[simp] theorem g131:yJ Tryz.prog 131=some false:=by kernel_rfl
@[simp] theorem s131:sizeT Tryz.prog 131=some 1:=by kernel_rfl
@[simp] theorem z131:za Tryz.prog 131=some [.sc (.nilFunc)]:=by kernel_rfl
@[simp] theorem g133:yJ Tryz.prog 133=some false:=by kernel_rfl
@[simp] theorem s133:sizeT Tryz.prog 133=some 1:=by kernel_rfl
@[simp] theorem z133:za Tryz.prog 133=some [.nil]:=by kernel_rfl
@[simp] theorem e133:elT Tryz.prog 133=some (200,10,96):=by kernel_rfl
@[simp] theorem u133:Tryz.prog.underlying 133=some (.slice 200):=by kernel_rfl
@[simp] theorem g134:yJ Tryz.prog 134=some false:=by kernel_rfl
@[simp] theorem s134:sizeT Tryz.prog 134=some 1:=by kernel_rfl
@[simp] theorem z134:za Tryz.prog 134=some [.nil]:=by kernel_rfl
@[simp] theorem e134:elT Tryz.prog 134=some (3,1,8):=by kernel_rfl
@[simp] theorem u134:Tryz.prog.underlying 134=some (.slice 3):=by kernel_rfl
@[simp] theorem g135:yJ Tryz.prog 135=some false:=by kernel_rfl
@[simp] theorem s135:sizeT Tryz.prog 135=some 1:=by kernel_rfl
@[simp] theorem z135:za Tryz.prog 135=some [.sc (.map none)]:=by kernel_rfl
@[simp] theorem u135:Tryz.prog.underlying 135=some (.map 3 55):=by kernel_rfl
@[simp] theorem g136:yJ Tryz.prog 136=some true:=by kernel_rfl
@[simp] theorem s136:sizeT Tryz.prog 136=some 4:=by kernel_rfl
@[simp] theorem z136:za Tryz.prog 136=some [.sc (.int .i64 0),.nil,.nil,.sc (.map none)]:=by kernel_rfl
@[simp] theorem f136_0:qC Tryz.prog 136 0=some 0:=by kernel_rfl
@[simp] theorem f136_1:qC Tryz.prog 136 1=some 1:=by kernel_rfl
@[simp] theorem f136_2:qC Tryz.prog 136 2=some 2:=by kernel_rfl
@[simp] theorem f136_3:qC Tryz.prog 136 3=some 3:=by kernel_rfl
@[simp] theorem p136:placeOf Tryz.prog 136=some (fun i=>([(0,1),(1,1),(2,1),(3,1)]:List (Nat×Nat))[i]?):=by kernel_rfl
@[simp] theorem g137:yJ Tryz.prog 137=some true:=by kernel_rfl
@[simp] theorem s137:sizeT Tryz.prog 137=some 4:=by kernel_rfl
@[simp] theorem z137:za Tryz.prog 137=some [.sc (.int .i64 0),.nil,.nil,.sc (.map none)]:=by kernel_rfl
@[simp] theorem f137_0:qC Tryz.prog 137 0=some 0:=by kernel_rfl
@[simp] theorem f137_1:qC Tryz.prog 137 1=some 1:=by kernel_rfl
@[simp] theorem f137_2:qC Tryz.prog 137 2=some 2:=by kernel_rfl
@[simp] theorem f137_3:qC Tryz.prog 137 3=some 3:=by kernel_rfl
@[simp] theorem p137:placeOf Tryz.prog 137=some (fun i=>([(0,1),(1,1),(2,1),(3,1)]:List (Nat×Nat))[i]?):=by kernel_rfl
@[simp] theorem g138:yJ Tryz.prog 138=some false:=by kernel_rfl
@[simp] theorem s138:sizeT Tryz.prog 138=some 1:=by kernel_rfl
@[simp] theorem z138:za Tryz.prog 138=some [.sc (.pointer none)]:=by kernel_rfl
@[simp] theorem u138:Tryz.prog.underlying 138=some (.pointer 204):=by kernel_rfl
@[simp] theorem g139:yJ Tryz.prog 139=some false:=by kernel_rfl
@[simp] theorem s139:sizeT Tryz.prog 139=some 1:=by kernel_rfl
@[simp] theorem z139:za Tryz.prog 139=some [.sc (.map none)]:=by kernel_rfl
@[simp] theorem u139:Tryz.prog.underlying 139=some (.map 3 57):=by kernel_rfl
@[simp] theorem g140:yJ Tryz.prog 140=some true:=by kernel_rfl
@[simp] theorem s140:sizeT Tryz.prog 140=some 2:=by kernel_rfl
@[simp] theorem z140:za Tryz.prog 140=some [.sc (.pointer none),.sc (.map none)]:=by kernel_rfl
@[simp] theorem f140_0:qC Tryz.prog 140 0=some 0:=by kernel_rfl
@[simp] theorem f140_1:qC Tryz.prog 140 1=some 1:=by kernel_rfl
@[simp] theorem p140:placeOf Tryz.prog 140=some (fun i=>([(0,1),(1,1)]:List (Nat×Nat))[i]?):=by kernel_rfl
@[simp] theorem g141:yJ Tryz.prog 141=some true:=by kernel_rfl
@[simp] theorem s141:sizeT Tryz.prog 141=some 2:=by kernel_rfl
@[simp] theorem z141:za Tryz.prog 141=some [.sc (.pointer none),.sc (.map none)]:=by kernel_rfl
@[simp] theorem f141_0:qC Tryz.prog 141 0=some 0:=by kernel_rfl
@[simp] theorem f141_1:qC Tryz.prog 141 1=some 1:=by kernel_rfl
@[simp] theorem p141:placeOf Tryz.prog 141=some (fun i=>([(0,1),(1,1)]:List (Nat×Nat))[i]?):=by kernel_rfl
@[simp] theorem g145:yJ Tryz.prog 145=some false:=by kernel_rfl
@[simp] theorem s145:sizeT Tryz.prog 145=some 1:=by kernel_rfl
@[simp] theorem z145:za Tryz.prog 145=some [.sc (.map none)]:=by kernel_rfl
@[simp] theorem u145:Tryz.prog.underlying 145=some (.map 221 165):=by kernel_rfl
@[simp] theorem g146:yJ Tryz.prog 146=some true:=by kernel_rfl
@[simp] theorem s146:sizeT Tryz.prog 146=some 2:=by kernel_rfl
@[simp] theorem z146:za Tryz.prog 146=some [.nil,.sc (.map none)]:=by kernel_rfl
@[simp] theorem f146_0:qC Tryz.prog 146 0=some 0:=by kernel_rfl
@[simp] theorem f146_1:qC Tryz.prog 146 1=some 1:=by kernel_rfl
@[simp] theorem p146:placeOf Tryz.prog 146=some (fun i=>([(0,1),(1,1)]:List (Nat×Nat))[i]?):=by kernel_rfl
@[simp] theorem g147:yJ Tryz.prog 147=some true:=by kernel_rfl
@[simp] theorem s147:sizeT Tryz.prog 147=some 2:=by kernel_rfl
@[simp] theorem z147:za Tryz.prog 147=some [.nil,.sc (.map none)]:=by kernel_rfl
@[simp] theorem f147_0:qC Tryz.prog 147 0=some 0:=by kernel_rfl
@[simp] theorem f147_1:qC Tryz.prog 147 1=some 1:=by kernel_rfl
@[simp] theorem p147:placeOf Tryz.prog 147=some (fun i=>([(0,1),(1,1)]:List (Nat×Nat))[i]?):=by kernel_rfl
@[simp] theorem g154:yJ Tryz.prog 154=some true:=by kernel_rfl
@[simp] theorem s154:sizeT Tryz.prog 154=some 4:=by kernel_rfl
@[simp] theorem z154:za Tryz.prog 154=some [.sc (.int .i64 0),.sc (.int .i64 0),.sc (.int .i64 0),.sc (.int .i64 0)]:=by kernel_rfl
@[simp] theorem f154_0:qC Tryz.prog 154 0=some 0:=by kernel_rfl
@[simp] theorem f154_1:qC Tryz.prog 154 1=some 1:=by kernel_rfl
@[simp] theorem f154_2:qC Tryz.prog 154 2=some 2:=by kernel_rfl
@[simp] theorem f154_3:qC Tryz.prog 154 3=some 3:=by kernel_rfl
@[simp] theorem p154:placeOf Tryz.prog 154=some (fun i=>([(0,1),(1,1),(2,1),(3,1)]:List (Nat×Nat))[i]?):=by kernel_rfl
@[simp] theorem g155:yJ Tryz.prog 155=some false:=by kernel_rfl
@[simp] theorem s155:sizeT Tryz.prog 155=some 1:=by kernel_rfl
@[simp] theorem z155:za Tryz.prog 155=some [.sc (.pointer none)]:=by kernel_rfl
@[simp] theorem u155:Tryz.prog.underlying 155=some (.pointer 215):=by kernel_rfl
@[simp] theorem g157:yJ Tryz.prog 157=some false:=by kernel_rfl
@[simp] theorem s157:sizeT Tryz.prog 157=some 1:=by kernel_rfl
@[simp] theorem z157:za Tryz.prog 157=some [.sc (.map none)]:=by kernel_rfl
@[simp] theorem u157:Tryz.prog.underlying 157=some (.map 3 59):=by kernel_rfl
@[simp] theorem g158:yJ Tryz.prog 158=some true:=by kernel_rfl
@[simp] theorem s158:sizeT Tryz.prog 158=some 2:=by kernel_rfl
@[simp] theorem z158:za Tryz.prog 158=some [.sc (.pointer none),.sc (.map none)]:=by kernel_rfl
@[simp] theorem f158_0:qC Tryz.prog 158 0=some 0:=by kernel_rfl
@[simp] theorem f158_1:qC Tryz.prog 158 1=some 1:=by kernel_rfl
@[simp] theorem p158:placeOf Tryz.prog 158=some (fun i=>([(0,1),(1,1)]:List (Nat×Nat))[i]?):=by kernel_rfl
@[simp] theorem g159:yJ Tryz.prog 159=some true:=by kernel_rfl
@[simp] theorem s159:sizeT Tryz.prog 159=some 2:=by kernel_rfl
@[simp] theorem z159:za Tryz.prog 159=some [.sc (.pointer none),.sc (.map none)]:=by kernel_rfl
@[simp] theorem f159_0:qC Tryz.prog 159 0=some 0:=by kernel_rfl
@[simp] theorem f159_1:qC Tryz.prog 159 1=some 1:=by kernel_rfl
@[simp] theorem p159:placeOf Tryz.prog 159=some (fun i=>([(0,1),(1,1)]:List (Nat×Nat))[i]?):=by kernel_rfl
@[simp] theorem g163:yJ Tryz.prog 163=some false:=by kernel_rfl
@[simp] theorem s163:sizeT Tryz.prog 163=some 1:=by kernel_rfl
@[simp] theorem z163:za Tryz.prog 163=some [.sc (.nilFunc)]:=by kernel_rfl
@[simp] theorem g165:yJ Tryz.prog 165=some false:=by kernel_rfl
@[simp] theorem s165:sizeT Tryz.prog 165=some 1:=by kernel_rfl
@[simp] theorem z165:za Tryz.prog 165=some [.nil]:=by kernel_rfl
@[simp] theorem e165:elT Tryz.prog 165=some (168,5,40):=by kernel_rfl
@[simp] theorem u165:Tryz.prog.underlying 165=some (.slice 168):=by kernel_rfl
@[simp] theorem g167:yJ Tryz.prog 167=some true:=by kernel_rfl
@[simp] theorem s167:sizeT Tryz.prog 167=some 5:=by kernel_rfl
@[simp] theorem z167:za Tryz.prog 167=some [.sc (.int .i64 0),.sc (.int .i64 0),.sc (.int .i64 0),.sc (.int .i64 0),.sc (.int .i64 0)]:=by kernel_rfl
@[simp] theorem f167_0:qC Tryz.prog 167 0=some 0:=by kernel_rfl
@[simp] theorem f167_1:qC Tryz.prog 167 1=some 4:=by kernel_rfl
@[simp] theorem p167:placeOf Tryz.prog 167=some (fun i=>([(0,4),(4,1)]:List (Nat×Nat))[i]?):=by kernel_rfl
@[simp] theorem g168:yJ Tryz.prog 168=some true:=by kernel_rfl
@[simp] theorem s168:sizeT Tryz.prog 168=some 5:=by kernel_rfl
@[simp] theorem z168:za Tryz.prog 168=some [.sc (.int .i64 0),.sc (.int .i64 0),.sc (.int .i64 0),.sc (.int .i64 0),.sc (.int .i64 0)]:=by kernel_rfl
@[simp] theorem f168_0:qC Tryz.prog 168 0=some 0:=by kernel_rfl
@[simp] theorem f168_1:qC Tryz.prog 168 1=some 4:=by kernel_rfl
@[simp] theorem p168:placeOf Tryz.prog 168=some (fun i=>([(0,4),(4,1)]:List (Nat×Nat))[i]?):=by kernel_rfl
@[simp] theorem g170:yJ Tryz.prog 170=some true:=by kernel_rfl
@[simp] theorem s170:sizeT Tryz.prog 170=some 3:=by kernel_rfl
@[simp] theorem z170:za Tryz.prog 170=some [.sc (.int .u64 0),.sc (.int .u64 0),.sc (.int .i64 0)]:=by kernel_rfl
@[simp] theorem f170_0:qC Tryz.prog 170 0=some 0:=by kernel_rfl
@[simp] theorem f170_1:qC Tryz.prog 170 1=some 1:=by kernel_rfl
@[simp] theorem f170_2:qC Tryz.prog 170 2=some 2:=by kernel_rfl
@[simp] theorem p170:placeOf Tryz.prog 170=some (fun i=>([(0,1),(1,1),(2,1)]:List (Nat×Nat))[i]?):=by kernel_rfl
@[simp] theorem g171:yJ Tryz.prog 171=some true:=by kernel_rfl
@[simp] theorem s171:sizeT Tryz.prog 171=some 3:=by kernel_rfl
@[simp] theorem z171:za Tryz.prog 171=some [.sc (.int .u64 0),.sc (.int .u64 0),.sc (.int .i64 0)]:=by kernel_rfl
@[simp] theorem f171_0:qC Tryz.prog 171 0=some 0:=by kernel_rfl
@[simp] theorem f171_1:qC Tryz.prog 171 1=some 1:=by kernel_rfl
@[simp] theorem f171_2:qC Tryz.prog 171 2=some 2:=by kernel_rfl
@[simp] theorem p171:placeOf Tryz.prog 171=some (fun i=>([(0,1),(1,1),(2,1)]:List (Nat×Nat))[i]?):=by kernel_rfl
@[simp] theorem g172:yJ Tryz.prog 172=some false:=by kernel_rfl
@[simp] theorem s172:sizeT Tryz.prog 172=some 1:=by kernel_rfl
@[simp] theorem z172:za Tryz.prog 172=some [.nil]:=by kernel_rfl
@[simp] theorem e172:elT Tryz.prog 172=some (171,3,24):=by kernel_rfl
@[simp] theorem u172:Tryz.prog.underlying 172=some (.slice 171):=by kernel_rfl
@[simp] theorem g174:yJ Tryz.prog 174=some false:=by kernel_rfl
@[simp] theorem s174:sizeT Tryz.prog 174=some 1:=by kernel_rfl
@[simp] theorem z174:za Tryz.prog 174=some [.sc (.pointer none)]:=by kernel_rfl
@[simp] theorem u174:Tryz.prog.underlying 174=some (.pointer 176):=by kernel_rfl
@[simp] theorem g175:yJ Tryz.prog 175=some true:=by kernel_rfl
@[simp] theorem s175:sizeT Tryz.prog 175=some 6:=by kernel_rfl
@[simp] theorem z175:za Tryz.prog 175=some [.sc (.pointer none),.sc (.int .i64 0),.sc (.int .i64 0),.sc (.int .i64 0),.sc (.nilFunc),.sc (.pointer none)]:=by kernel_rfl
@[simp] theorem f175_0:qC Tryz.prog 175 0=some 0:=by kernel_rfl
@[simp] theorem f175_1:qC Tryz.prog 175 1=some 1:=by kernel_rfl
@[simp] theorem f175_2:qC Tryz.prog 175 2=some 3:=by kernel_rfl
@[simp] theorem f175_3:qC Tryz.prog 175 3=some 4:=by kernel_rfl
@[simp] theorem f175_4:qC Tryz.prog 175 4=some 5:=by kernel_rfl
@[simp] theorem p175:placeOf Tryz.prog 175=some (fun i=>([(0,1),(1,2),(3,1),(4,1),(5,1)]:List (Nat×Nat))[i]?):=by kernel_rfl
@[simp] theorem g176:yJ Tryz.prog 176=some true:=by kernel_rfl
@[simp] theorem s176:sizeT Tryz.prog 176=some 6:=by kernel_rfl
@[simp] theorem z176:za Tryz.prog 176=some [.sc (.pointer none),.sc (.int .i64 0),.sc (.int .i64 0),.sc (.int .i64 0),.sc (.nilFunc),.sc (.pointer none)]:=by kernel_rfl
@[simp] theorem f176_0:qC Tryz.prog 176 0=some 0:=by kernel_rfl
@[simp] theorem f176_1:qC Tryz.prog 176 1=some 1:=by kernel_rfl
@[simp] theorem f176_2:qC Tryz.prog 176 2=some 3:=by kernel_rfl
@[simp] theorem f176_3:qC Tryz.prog 176 3=some 4:=by kernel_rfl
@[simp] theorem f176_4:qC Tryz.prog 176 4=some 5:=by kernel_rfl
@[simp] theorem p176:placeOf Tryz.prog 176=some (fun i=>([(0,1),(1,2),(3,1),(4,1),(5,1)]:List (Nat×Nat))[i]?):=by kernel_rfl
@[simp] theorem g183:yJ Tryz.prog 183=some false:=by kernel_rfl
@[simp] theorem s183:sizeT Tryz.prog 183=some 1:=by kernel_rfl
@[simp] theorem z183:za Tryz.prog 183=some [.sc (.int .i64 0)]:=by kernel_rfl
@[simp] theorem u183:Tryz.prog.underlying 183=some (.int .i64):=by kernel_rfl
@[simp] theorem g192:yJ Tryz.prog 192=some false:=by kernel_rfl
@[simp] theorem s192:sizeT Tryz.prog 192=some 1:=by kernel_rfl
@[simp] theorem z192:za Tryz.prog 192=some [.sc (.pointer none)]:=by kernel_rfl
@[simp] theorem u192:Tryz.prog.underlying 192=some (.pointer 195):=by kernel_rfl
@[simp] theorem g193:yJ Tryz.prog 193=some false:=by kernel_rfl
@[simp] theorem s193:sizeT Tryz.prog 193=some 1:=by kernel_rfl
@[simp] theorem z193:za Tryz.prog 193=some [.nil]:=by kernel_rfl
@[simp] theorem e193:elT Tryz.prog 193=some (138,1,8):=by kernel_rfl
@[simp] theorem u193:Tryz.prog.underlying 193=some (.slice 138):=by kernel_rfl
@[simp] theorem g194:yJ Tryz.prog 194=some true:=by kernel_rfl
@[simp] theorem s194:sizeT Tryz.prog 194=some 7:=by kernel_rfl
@[simp] theorem z194:za Tryz.prog 194=some [.sc (.pointer none),.sc (.int .i64 0),.sc (.int .i64 0),.sc (.int .i64 0),.sc (.nilFunc),.nil,.sc (.pointer none)]:=by kernel_rfl
@[simp] theorem f194_0:qC Tryz.prog 194 0=some 0:=by kernel_rfl
@[simp] theorem f194_1:qC Tryz.prog 194 1=some 1:=by kernel_rfl
@[simp] theorem f194_2:qC Tryz.prog 194 2=some 3:=by kernel_rfl
@[simp] theorem f194_3:qC Tryz.prog 194 3=some 4:=by kernel_rfl
@[simp] theorem f194_4:qC Tryz.prog 194 4=some 5:=by kernel_rfl
@[simp] theorem f194_5:qC Tryz.prog 194 5=some 6:=by kernel_rfl
@[simp] theorem p194:placeOf Tryz.prog 194=some (fun i=>([(0,1),(1,2),(3,1),(4,1),(5,1),(6,1)]:List (Nat×Nat))[i]?):=by kernel_rfl
@[simp] theorem g195:yJ Tryz.prog 195=some true:=by kernel_rfl
@[simp] theorem s195:sizeT Tryz.prog 195=some 7:=by kernel_rfl
@[simp] theorem z195:za Tryz.prog 195=some [.sc (.pointer none),.sc (.int .i64 0),.sc (.int .i64 0),.sc (.int .i64 0),.sc (.nilFunc),.nil,.sc (.pointer none)]:=by kernel_rfl
@[simp] theorem f195_0:qC Tryz.prog 195 0=some 0:=by kernel_rfl
@[simp] theorem f195_1:qC Tryz.prog 195 1=some 1:=by kernel_rfl
@[simp] theorem f195_2:qC Tryz.prog 195 2=some 3:=by kernel_rfl
@[simp] theorem f195_3:qC Tryz.prog 195 3=some 4:=by kernel_rfl
@[simp] theorem f195_4:qC Tryz.prog 195 4=some 5:=by kernel_rfl
@[simp] theorem f195_5:qC Tryz.prog 195 5=some 6:=by kernel_rfl
@[simp] theorem p195:placeOf Tryz.prog 195=some (fun i=>([(0,1),(1,2),(3,1),(4,1),(5,1),(6,1)]:List (Nat×Nat))[i]?):=by kernel_rfl
@[simp] theorem g198:yJ Tryz.prog 198=some true:=by kernel_rfl
@[simp] theorem s198:sizeT Tryz.prog 198=some 4:=by kernel_rfl
@[simp] theorem z198:za Tryz.prog 198=some [.sc (.int .i64 0),.sc (.int .i64 0),.sc (.int .i64 0),.sc (.int .i64 0)]:=by kernel_rfl
@[simp] theorem p198:placeOf Tryz.prog 198=some (fun i=>some (i*1,1)):=by kernel_rfl
@[simp] theorem u198:Tryz.prog.underlying 198=some (.array 4 3):=by kernel_rfl
@[simp] theorem g199:yJ Tryz.prog 199=some true:=by kernel_rfl
@[simp] theorem s199:sizeT Tryz.prog 199=some 10:=by kernel_rfl
@[simp] theorem z199:za Tryz.prog 199=some [.sc (.int .i64 0),.sc (.int .i64 0),.sc (.int .i64 0),.sc (.int .i64 0),.sc (.int .i64 0),.sc (.int .i64 0),.sc (.int .i64 0),.sc (.int .i64 0),.sc (.bool false),.nil]:=by kernel_rfl
@[simp] theorem f199_0:qC Tryz.prog 199 0=some 0:=by kernel_rfl
@[simp] theorem f199_1:qC Tryz.prog 199 1=some 3:=by kernel_rfl
@[simp] theorem f199_2:qC Tryz.prog 199 2=some 7:=by kernel_rfl
@[simp] theorem f199_3:qC Tryz.prog 199 3=some 8:=by kernel_rfl
@[simp] theorem f199_4:qC Tryz.prog 199 4=some 9:=by kernel_rfl
@[simp] theorem p199:placeOf Tryz.prog 199=some (fun i=>([(0,3),(3,4),(7,1),(8,1),(9,1)]:List (Nat×Nat))[i]?):=by kernel_rfl
@[simp] theorem g200:yJ Tryz.prog 200=some true:=by kernel_rfl
@[simp] theorem s200:sizeT Tryz.prog 200=some 10:=by kernel_rfl
@[simp] theorem z200:za Tryz.prog 200=some [.sc (.int .i64 0),.sc (.int .i64 0),.sc (.int .i64 0),.sc (.int .i64 0),.sc (.int .i64 0),.sc (.int .i64 0),.sc (.int .i64 0),.sc (.int .i64 0),.sc (.bool false),.nil]:=by kernel_rfl
@[simp] theorem f200_0:qC Tryz.prog 200 0=some 0:=by kernel_rfl
@[simp] theorem f200_1:qC Tryz.prog 200 1=some 3:=by kernel_rfl
@[simp] theorem f200_2:qC Tryz.prog 200 2=some 7:=by kernel_rfl
@[simp] theorem f200_3:qC Tryz.prog 200 3=some 8:=by kernel_rfl
@[simp] theorem f200_4:qC Tryz.prog 200 4=some 9:=by kernel_rfl
@[simp] theorem p200:placeOf Tryz.prog 200=some (fun i=>([(0,3),(3,4),(7,1),(8,1),(9,1)]:List (Nat×Nat))[i]?):=by kernel_rfl
@[simp] theorem g202:yJ Tryz.prog 202=some true:=by kernel_rfl
@[simp] theorem s202:sizeT Tryz.prog 202=some 4:=by kernel_rfl
@[simp] theorem z202:za Tryz.prog 202=some [.sc (.pointer none),.sc (.pointer none),.sc (.pointer none),.sc (.pointer none)]:=by kernel_rfl
@[simp] theorem p202:placeOf Tryz.prog 202=some (fun i=>some (i*1,1)):=by kernel_rfl
@[simp] theorem u202:Tryz.prog.underlying 202=some (.array 4 138):=by kernel_rfl
@[simp] theorem g203:yJ Tryz.prog 203=some true:=by kernel_rfl
@[simp] theorem s203:sizeT Tryz.prog 203=some 9:=by kernel_rfl
@[simp] theorem z203:za Tryz.prog 203=some [.sc (.int .i64 0),.sc (.int .i64 0),.sc (.int .i64 0),.sc (.pointer none),.sc (.pointer none),.sc (.pointer none),.sc (.pointer none),.sc (.int .i64 0),.sc (.map none)]:=by kernel_rfl
@[simp] theorem f203_0:qC Tryz.prog 203 0=some 0:=by kernel_rfl
@[simp] theorem f203_1:qC Tryz.prog 203 1=some 3:=by kernel_rfl
@[simp] theorem f203_2:qC Tryz.prog 203 2=some 7:=by kernel_rfl
@[simp] theorem f203_3:qC Tryz.prog 203 3=some 8:=by kernel_rfl
@[simp] theorem p203:placeOf Tryz.prog 203=some (fun i=>([(0,3),(3,4),(7,1),(8,1)]:List (Nat×Nat))[i]?):=by kernel_rfl
@[simp] theorem g204:yJ Tryz.prog 204=some true:=by kernel_rfl
@[simp] theorem s204:sizeT Tryz.prog 204=some 9:=by kernel_rfl
@[simp] theorem z204:za Tryz.prog 204=some [.sc (.int .i64 0),.sc (.int .i64 0),.sc (.int .i64 0),.sc (.pointer none),.sc (.pointer none),.sc (.pointer none),.sc (.pointer none),.sc (.int .i64 0),.sc (.map none)]:=by kernel_rfl
@[simp] theorem f204_0:qC Tryz.prog 204 0=some 0:=by kernel_rfl
@[simp] theorem f204_1:qC Tryz.prog 204 1=some 3:=by kernel_rfl
@[simp] theorem f204_2:qC Tryz.prog 204 2=some 7:=by kernel_rfl
@[simp] theorem f204_3:qC Tryz.prog 204 3=some 8:=by kernel_rfl
@[simp] theorem p204:placeOf Tryz.prog 204=some (fun i=>([(0,3),(3,4),(7,1),(8,1)]:List (Nat×Nat))[i]?):=by kernel_rfl
@[simp] theorem g206:yJ Tryz.prog 206=some false:=by kernel_rfl
@[simp] theorem s206:sizeT Tryz.prog 206=some 1:=by kernel_rfl
@[simp] theorem z206:za Tryz.prog 206=some [.sc (.pointer none)]:=by kernel_rfl
@[simp] theorem u206:Tryz.prog.underlying 206=some (.pointer 200):=by kernel_rfl
@[simp] theorem g212:yJ Tryz.prog 212=some true:=by kernel_rfl
@[simp] theorem s212:sizeT Tryz.prog 212=some 1:=by kernel_rfl
@[simp] theorem z212:za Tryz.prog 212=some [.nil]:=by kernel_rfl
@[simp] theorem f212_0:qC Tryz.prog 212 0=some 0:=by kernel_rfl
@[simp] theorem p212:placeOf Tryz.prog 212=some (fun i=>([(0,1)]:List (Nat×Nat))[i]?):=by kernel_rfl
@[simp] theorem g213:yJ Tryz.prog 213=some true:=by kernel_rfl
@[simp] theorem s213:sizeT Tryz.prog 213=some 1:=by kernel_rfl
@[simp] theorem z213:za Tryz.prog 213=some [.nil]:=by kernel_rfl
@[simp] theorem f213_0:qC Tryz.prog 213 0=some 0:=by kernel_rfl
@[simp] theorem p213:placeOf Tryz.prog 213=some (fun i=>([(0,1)]:List (Nat×Nat))[i]?):=by kernel_rfl
@[simp] theorem g214:yJ Tryz.prog 214=some true:=by kernel_rfl
@[simp] theorem s214:sizeT Tryz.prog 214=some 1:=by kernel_rfl
@[simp] theorem z214:za Tryz.prog 214=some [.nil]:=by kernel_rfl
@[simp] theorem f214_0:qC Tryz.prog 214 0=some 0:=by kernel_rfl
@[simp] theorem p214:placeOf Tryz.prog 214=some (fun i=>([(0,1)]:List (Nat×Nat))[i]?):=by kernel_rfl
@[simp] theorem g215:yJ Tryz.prog 215=some true:=by kernel_rfl
@[simp] theorem s215:sizeT Tryz.prog 215=some 1:=by kernel_rfl
@[simp] theorem z215:za Tryz.prog 215=some [.nil]:=by kernel_rfl
@[simp] theorem f215_0:qC Tryz.prog 215 0=some 0:=by kernel_rfl
@[simp] theorem p215:placeOf Tryz.prog 215=some (fun i=>([(0,1)]:List (Nat×Nat))[i]?):=by kernel_rfl
@[simp] theorem g220:yJ Tryz.prog 220=some false:=by kernel_rfl
@[simp] theorem s220:sizeT Tryz.prog 220=some 1:=by kernel_rfl
@[simp] theorem z220:za Tryz.prog 220=some [.sc (.nilFunc)]:=by kernel_rfl
@[simp] theorem g221:yJ Tryz.prog 221=some true:=by kernel_rfl
@[simp] theorem s221:sizeT Tryz.prog 221=some 3:=by kernel_rfl
@[simp] theorem z221:za Tryz.prog 221=some [.sc (.int .i64 0),.sc (.int .i64 0),.sc (.int .i64 0)]:=by kernel_rfl
@[simp] theorem p221:placeOf Tryz.prog 221=some (fun i=>some (i*1,1)):=by kernel_rfl
@[simp] theorem u221:Tryz.prog.underlying 221=some (.array 3 3):=by kernel_rfl
@[simp] theorem g225:yJ Tryz.prog 225=some false:=by kernel_rfl
@[simp] theorem s225:sizeT Tryz.prog 225=some 1:=by kernel_rfl
@[simp] theorem z225:za Tryz.prog 225=some [.nil]:=by kernel_rfl
@[simp] theorem e225:elT Tryz.prog 225=some (227,3,24):=by kernel_rfl
@[simp] theorem u225:Tryz.prog.underlying 225=some (.slice 227):=by kernel_rfl
@[simp] theorem g226:yJ Tryz.prog 226=some true:=by kernel_rfl
@[simp] theorem s226:sizeT Tryz.prog 226=some 3:=by kernel_rfl
@[simp] theorem z226:za Tryz.prog 226=some [.sc (.int .i64 0),.sc (.int .i64 0),.sc (.int .i64 0)]:=by kernel_rfl
@[simp] theorem f226_0:qC Tryz.prog 226 0=some 0:=by kernel_rfl
@[simp] theorem f226_1:qC Tryz.prog 226 1=some 1:=by kernel_rfl
@[simp] theorem f226_2:qC Tryz.prog 226 2=some 2:=by kernel_rfl
@[simp] theorem p226:placeOf Tryz.prog 226=some (fun i=>([(0,1),(1,1),(2,1)]:List (Nat×Nat))[i]?):=by kernel_rfl
@[simp] theorem g227:yJ Tryz.prog 227=some true:=by kernel_rfl
@[simp] theorem s227:sizeT Tryz.prog 227=some 3:=by kernel_rfl
@[simp] theorem z227:za Tryz.prog 227=some [.sc (.int .i64 0),.sc (.int .i64 0),.sc (.int .i64 0)]:=by kernel_rfl
@[simp] theorem f227_0:qC Tryz.prog 227 0=some 0:=by kernel_rfl
@[simp] theorem f227_1:qC Tryz.prog 227 1=some 1:=by kernel_rfl
@[simp] theorem f227_2:qC Tryz.prog 227 2=some 2:=by kernel_rfl
@[simp] theorem p227:placeOf Tryz.prog 227=some (fun i=>([(0,1),(1,1),(2,1)]:List (Nat×Nat))[i]?):=by kernel_rfl
@[simp] theorem g228:yJ Tryz.prog 228=some false:=by kernel_rfl
@[simp] theorem s228:sizeT Tryz.prog 228=some 1:=by kernel_rfl
@[simp] theorem z228:za Tryz.prog 228=some [.sc (.nilFunc)]:=by kernel_rfl
@[simp] theorem g230:yJ Tryz.prog 230=some false:=by kernel_rfl
@[simp] theorem s230:sizeT Tryz.prog 230=some 1:=by kernel_rfl
@[simp] theorem z230:za Tryz.prog 230=some [.sc (.pointer none)]:=by kernel_rfl
@[simp] theorem u230:Tryz.prog.underlying 230=some (.pointer 213):=by kernel_rfl
@[simp] theorem g232:yJ Tryz.prog 232=some false:=by kernel_rfl
@[simp] theorem s232:sizeT Tryz.prog 232=some 1:=by kernel_rfl
@[simp] theorem z232:za Tryz.prog 232=some [.sc (.nilFunc)]:=by kernel_rfl
@[simp] theorem g240:yJ Tryz.prog 240=some false:=by kernel_rfl
@[simp] theorem s240:sizeT Tryz.prog 240=some 1:=by kernel_rfl
@[simp] theorem z240:za Tryz.prog 240=some [.sc (.nilFunc)]:=by kernel_rfl
@[simp] theorem g244:yJ Tryz.prog 244=some false:=by kernel_rfl
@[simp] theorem s244:sizeT Tryz.prog 244=some 1:=by kernel_rfl
@[simp] theorem z244:za Tryz.prog 244=some [.sc (.int .u64 0)]:=by kernel_rfl
@[simp] theorem u244:Tryz.prog.underlying 244=some (.int .u64):=by kernel_rfl
@[simp] theorem g246:yJ Tryz.prog 246=some false:=by kernel_rfl
@[simp] theorem s246:sizeT Tryz.prog 246=some 1:=by kernel_rfl
@[simp] theorem z246:za Tryz.prog 246=some [.sc (.int .u64 0)]:=by kernel_rfl
@[simp] theorem u246:Tryz.prog.underlying 246=some (.int .u64):=by kernel_rfl
@[simp] theorem g247:yJ Tryz.prog 247=some true:=by kernel_rfl
@[simp] theorem s247:sizeT Tryz.prog 247=some 3:=by kernel_rfl
@[simp] theorem z247:za Tryz.prog 247=some [.sc (.pointer none),.sc (.pointer none),.sc (.int .u64 0)]:=by kernel_rfl
@[simp] theorem f247_0:qC Tryz.prog 247 0=some 0:=by kernel_rfl
@[simp] theorem f247_1:qC Tryz.prog 247 1=some 1:=by kernel_rfl
@[simp] theorem f247_2:qC Tryz.prog 247 2=some 2:=by kernel_rfl
@[simp] theorem p247:placeOf Tryz.prog 247=some (fun i=>([(0,1),(1,1),(2,1)]:List (Nat×Nat))[i]?):=by kernel_rfl
@[simp] theorem g248:yJ Tryz.prog 248=some true:=by kernel_rfl
@[simp] theorem s248:sizeT Tryz.prog 248=some 3:=by kernel_rfl
@[simp] theorem z248:za Tryz.prog 248=some [.sc (.pointer none),.sc (.pointer none),.sc (.int .u64 0)]:=by kernel_rfl
@[simp] theorem f248_0:qC Tryz.prog 248 0=some 0:=by kernel_rfl
@[simp] theorem f248_1:qC Tryz.prog 248 1=some 1:=by kernel_rfl
@[simp] theorem f248_2:qC Tryz.prog 248 2=some 2:=by kernel_rfl
@[simp] theorem p248:placeOf Tryz.prog 248=some (fun i=>([(0,1),(1,1),(2,1)]:List (Nat×Nat))[i]?):=by kernel_rfl
@[simp] theorem g252:yJ Tryz.prog 252=some true:=by kernel_rfl
@[simp] theorem s252:sizeT Tryz.prog 252=some 2:=by kernel_rfl
@[simp] theorem z252:za Tryz.prog 252=some [.sc (.nilFunc),.sc (.nilFunc)]:=by kernel_rfl
@[simp] theorem f252_0:qC Tryz.prog 252 0=some 0:=by kernel_rfl
@[simp] theorem f252_1:qC Tryz.prog 252 1=some 1:=by kernel_rfl
@[simp] theorem p252:placeOf Tryz.prog 252=some (fun i=>([(0,1),(1,1)]:List (Nat×Nat))[i]?):=by kernel_rfl
@[simp] theorem g253:yJ Tryz.prog 253=some true:=by kernel_rfl
@[simp] theorem s253:sizeT Tryz.prog 253=some 2:=by kernel_rfl
@[simp] theorem z253:za Tryz.prog 253=some [.sc (.nilFunc),.sc (.nilFunc)]:=by kernel_rfl
@[simp] theorem f253_0:qC Tryz.prog 253 0=some 0:=by kernel_rfl
@[simp] theorem f253_1:qC Tryz.prog 253 1=some 1:=by kernel_rfl
@[simp] theorem p253:placeOf Tryz.prog 253=some (fun i=>([(0,1),(1,1)]:List (Nat×Nat))[i]?):=by kernel_rfl
@[simp] theorem g255:yJ Tryz.prog 255=some false:=by kernel_rfl
@[simp] theorem s255:sizeT Tryz.prog 255=some 1:=by kernel_rfl
@[simp] theorem z255:za Tryz.prog 255=some [.sc (.nilFunc)]:=by kernel_rfl
@[simp] theorem g265:yJ Tryz.prog 265=some false:=by kernel_rfl
@[simp] theorem s265:sizeT Tryz.prog 265=some 1:=by kernel_rfl
@[simp] theorem z265:za Tryz.prog 265=some [.sc (.int .i64 0)]:=by kernel_rfl
@[simp] theorem u265:Tryz.prog.underlying 265=some (.int .i64):=by kernel_rfl
@[simp] theorem g273:yJ Tryz.prog 273=some false:=by kernel_rfl
@[simp] theorem s273:sizeT Tryz.prog 273=some 1:=by kernel_rfl
@[simp] theorem z273:za Tryz.prog 273=some [.sc (.int .u32 0)]:=by kernel_rfl
@[simp] theorem u273:Tryz.prog.underlying 273=some (.int .u32):=by kernel_rfl
@[simp] theorem g279:yJ Tryz.prog 279=some false:=by kernel_rfl
@[simp] theorem s279:sizeT Tryz.prog 279=some 1:=by kernel_rfl
@[simp] theorem z279:za Tryz.prog 279=some [.sc (.int .i64 0)]:=by kernel_rfl
@[simp] theorem u279:Tryz.prog.underlying 279=some (.int .i64):=by kernel_rfl
@[simp] theorem g286:yJ Tryz.prog 286=some false:=by kernel_rfl
@[simp] theorem s286:sizeT Tryz.prog 286=some 1:=by kernel_rfl
@[simp] theorem z286:za Tryz.prog 286=some [.sc (.int .u64 0)]:=by kernel_rfl
@[simp] theorem u286:Tryz.prog.underlying 286=some (.int .u64):=by kernel_rfl
@[simp] theorem g290:yJ Tryz.prog 290=some false:=by kernel_rfl
@[simp] theorem s290:sizeT Tryz.prog 290=some 1:=by kernel_rfl
@[simp] theorem z290:za Tryz.prog 290=some [.sc (.pointer none)]:=by kernel_rfl
@[simp] theorem u290:Tryz.prog.underlying 290=some (.pointer 3):=by kernel_rfl
@[simp] theorem g292:yJ Tryz.prog 292=some false:=by kernel_rfl
@[simp] theorem s292:sizeT Tryz.prog 292=some 1:=by kernel_rfl
@[simp] theorem z292:za Tryz.prog 292=some [.sc (.int .u64 0)]:=by kernel_rfl
@[simp] theorem u292:Tryz.prog.underlying 292=some (.int .u64):=by kernel_rfl
@[simp] theorem g296:yJ Tryz.prog 296=some false:=by kernel_rfl
@[simp] theorem s296:sizeT Tryz.prog 296=some 1:=by kernel_rfl
@[simp] theorem z296:za Tryz.prog 296=some [.sc (.pointer none)]:=by kernel_rfl
@[simp] theorem u296:Tryz.prog.underlying 296=some (.pointer 286):=by kernel_rfl
@[simp] theorem g298:yJ Tryz.prog 298=some false:=by kernel_rfl
@[simp] theorem s298:sizeT Tryz.prog 298=some 1:=by kernel_rfl
@[simp] theorem z298:za Tryz.prog 298=some [.sc (.pointer none)]:=by kernel_rfl
@[simp] theorem u298:Tryz.prog.underlying 298=some (.pointer 292):=by kernel_rfl
@[simp] theorem g307:yJ Tryz.prog 307=some false:=by kernel_rfl
@[simp] theorem s307:sizeT Tryz.prog 307=some 1:=by kernel_rfl
@[simp] theorem z307:za Tryz.prog 307=some [.sc (.int .u8 0)]:=by kernel_rfl
@[simp] theorem u307:Tryz.prog.underlying 307=some (.int .u8):=by kernel_rfl
@[simp] theorem g308:yJ Tryz.prog 308=some false:=by kernel_rfl
@[simp] theorem s308:sizeT Tryz.prog 308=some 1:=by kernel_rfl
@[simp] theorem z308:za Tryz.prog 308=some [.sc (.int .u8 0)]:=by kernel_rfl
@[simp] theorem u308:Tryz.prog.underlying 308=some (.int .u8):=by kernel_rfl
@[simp] theorem g309:yJ Tryz.prog 309=some false:=by kernel_rfl
@[simp] theorem s309:sizeT Tryz.prog 309=some 1:=by kernel_rfl
@[simp] theorem z309:za Tryz.prog 309=some [.sc (.nilFunc)]:=by kernel_rfl
@[simp] theorem g310:yJ Tryz.prog 310=some false:=by kernel_rfl
@[simp] theorem s310:sizeT Tryz.prog 310=some 1:=by kernel_rfl
@[simp] theorem z310:za Tryz.prog 310=some [.sc (.pointer none)]:=by kernel_rfl
@[simp] theorem u310:Tryz.prog.underlying 310=some (.pointer 5):=by kernel_rfl
@[simp] theorem g311:yJ Tryz.prog 311=some false:=by kernel_rfl
@[simp] theorem s311:sizeT Tryz.prog 311=some 1:=by kernel_rfl
@[simp] theorem z311:za Tryz.prog 311=some [.sc (.int .i32 0)]:=by kernel_rfl
@[simp] theorem u311:Tryz.prog.underlying 311=some (.int .i32):=by kernel_rfl
@[simp] theorem g312:yJ Tryz.prog 312=some false:=by kernel_rfl
@[simp] theorem s312:sizeT Tryz.prog 312=some 1:=by kernel_rfl
@[simp] theorem z312:za Tryz.prog 312=some [.sc (.int .i32 0)]:=by kernel_rfl
@[simp] theorem u312:Tryz.prog.underlying 312=some (.int .i32):=by kernel_rfl
@[simp] theorem g313:yJ Tryz.prog 313=some true:=by kernel_rfl
@[simp] theorem s313:sizeT Tryz.prog 313=some 11:=by kernel_rfl
@[simp] theorem z313:za Tryz.prog 313=some [.sc (.int .u64 0),.sc (.int .u64 0),.sc (.int .u32 0),.sc (.int .u8 0),.sc (.int .u8 0),.sc (.int .u8 0),.sc (.int .u8 0),.sc (.nilFunc),.sc (.pointer none),.sc (.int .i32 0),.sc (.int .i32 0)]:=by kernel_rfl
@[simp] theorem f313_0:qC Tryz.prog 313 0=some 0:=by kernel_rfl
@[simp] theorem f313_1:qC Tryz.prog 313 1=some 1:=by kernel_rfl
@[simp] theorem f313_2:qC Tryz.prog 313 2=some 2:=by kernel_rfl
@[simp] theorem f313_3:qC Tryz.prog 313 3=some 3:=by kernel_rfl
@[simp] theorem f313_4:qC Tryz.prog 313 4=some 4:=by kernel_rfl
@[simp] theorem f313_5:qC Tryz.prog 313 5=some 5:=by kernel_rfl
@[simp] theorem f313_6:qC Tryz.prog 313 6=some 6:=by kernel_rfl
@[simp] theorem f313_7:qC Tryz.prog 313 7=some 7:=by kernel_rfl
@[simp] theorem f313_8:qC Tryz.prog 313 8=some 8:=by kernel_rfl
@[simp] theorem f313_9:qC Tryz.prog 313 9=some 9:=by kernel_rfl
@[simp] theorem f313_10:qC Tryz.prog 313 10=some 10:=by kernel_rfl
@[simp] theorem p313:placeOf Tryz.prog 313=some (fun i=>([(0,1),(1,1),(2,1),(3,1),(4,1),(5,1),(6,1),(7,1),(8,1),(9,1),(10,1)]:List (Nat×Nat))[i]?):=by kernel_rfl
@[simp] theorem g314:yJ Tryz.prog 314=some true:=by kernel_rfl
@[simp] theorem s314:sizeT Tryz.prog 314=some 11:=by kernel_rfl
@[simp] theorem z314:za Tryz.prog 314=some [.sc (.int .u64 0),.sc (.int .u64 0),.sc (.int .u32 0),.sc (.int .u8 0),.sc (.int .u8 0),.sc (.int .u8 0),.sc (.int .u8 0),.sc (.nilFunc),.sc (.pointer none),.sc (.int .i32 0),.sc (.int .i32 0)]:=by kernel_rfl
@[simp] theorem f314_0:qC Tryz.prog 314 0=some 0:=by kernel_rfl
@[simp] theorem f314_1:qC Tryz.prog 314 1=some 1:=by kernel_rfl
@[simp] theorem f314_2:qC Tryz.prog 314 2=some 2:=by kernel_rfl
@[simp] theorem f314_3:qC Tryz.prog 314 3=some 3:=by kernel_rfl
@[simp] theorem f314_4:qC Tryz.prog 314 4=some 4:=by kernel_rfl
@[simp] theorem f314_5:qC Tryz.prog 314 5=some 5:=by kernel_rfl
@[simp] theorem f314_6:qC Tryz.prog 314 6=some 6:=by kernel_rfl
@[simp] theorem f314_7:qC Tryz.prog 314 7=some 7:=by kernel_rfl
@[simp] theorem f314_8:qC Tryz.prog 314 8=some 8:=by kernel_rfl
@[simp] theorem f314_9:qC Tryz.prog 314 9=some 9:=by kernel_rfl
@[simp] theorem f314_10:qC Tryz.prog 314 10=some 10:=by kernel_rfl
@[simp] theorem p314:placeOf Tryz.prog 314=some (fun i=>([(0,1),(1,1),(2,1),(3,1),(4,1),(5,1),(6,1),(7,1),(8,1),(9,1),(10,1)]:List (Nat×Nat))[i]?):=by kernel_rfl
end Ty
theorem mixed:Tryz.prog.follows .mixedOrders=true:=by kernel_rfl
end Go.Proofs.YtnconfggojpkcaaGreat
namespace Go.Proofs.YtnconfggojpkcaaGreat
namespace Mix
def qeS (k0:Nat) (ops:Array Oper):Bool :=
  qcC ops (Region.before ops) &&
  (Region.noSelect ops &&
  ((ops.zipIdx.all fun (o,i)=>o.after.all fun e => !Region.binds .any e||decide (e.on<i)) &&
  ((List.range ops.size).all fun i=>(List.range ops.size).all fun j => !decide (i<j)||(qae (Region.before ops) j i ||
    (decide (j<k0)&&match ops[i]?,ops[j]? with
     | some x,some y=>x.apart ops y&&qbd 2 x y
     | _,_=>true)))))
structure qhH (k0:Nat) (ops:Array Oper):Prop where
  cert:qcC ops (Region.before ops)=true
  sel:Region.noSelect ops=true
  back:∀ (i:Nat) (o:Oper),ops[i]? = some o→∀ e∈o.after,Region.binds .any e=true→e.on<i
  pairs:∀ (i j:Nat) (x y:Oper),ops[i]? = some x→ops[j]? = some y→i<j→qae (Region.before ops) j i=true∨(j<k0∧x.apart ops y=true∧qbd 2 x y=true)
theorem qm3 {k0:Nat} {ops:Array Oper} (h:qeS k0 ops=true):qhH k0 ops:=by
  simp only [qeS,Bool.and_eq_true] at h
  obtain ⟨h1,h2,h3,h4⟩:=h
  refine ⟨h1,h2,fun i o ho e he hb => ?_,fun i j x y hx hy hij => ?_⟩
  · have h5:=Array.all_eq_true_iff_forall_mem.1 h3 (o,i) (by
      rw [Array.mem_iff_getElem?]
      exact ⟨i,by simp [Array.getElem?_zipIdx,ho]⟩)
    have h6:=Array.all_eq_true_iff_forall_mem.1 h5 e he
    simpa [hb] using h6
  · have hi:i<ops.size:=(Array.getElem?_eq_some_iff.1 hx).1
    have hj:j<ops.size:=(Array.getElem?_eq_some_iff.1 hy).1
    have h5:=List.all_eq_true.1 (List.all_eq_true.1 h4 i (List.mem_range.2 hi)) j (List.mem_range.2 hj)
    simp only [hx,hy,hij,decide_true,Bool.not_true,Bool.false_or,Bool.or_eq_true,Bool.and_eq_true,decide_eq_true_eq] at h5
    rcases h5 with h5 | ⟨h5,h6,h7⟩
    · exact .inl h5
    · exact .inr ⟨h5,h6,h7⟩
section
variable {P:Program} {ops:Array Oper} {C1 C2:World→World→Prop} {J1:World→Prop} {k0:Nat}
def cAt (C1 C2:World→World→Prop) (k0 i:Nat):World→World→Prop:=if i<k0 then C1 else C2
def jAt (J1:World→Prop) (k0 i:Nat):World→Prop:=if i<k0 then J1 else fun _=>True
def qgc (P:Program) (ops:Array Oper) (C1 C2:World→World→Prop) (J1:World→Prop) (k0:Nat) (Q:Act→World→Prop):Nat→Array Bool→Act→World→Prop
  | 0,listed,a,w=>Region.ready .any ops listed = []∧Q a w
  | fuel+1,listed,a,w=>(Region.ready .any ops listed = []→Q a w)∧∀ i∈Region.ready .any ops listed,mOp P ops (cAt C1 C2 k0 i) (jAt J1 k0 i) i (qgc P ops C1 C2 J1 k0 Q fuel (listed.setIfInBounds i true)) a w
theorem qnM (hC:∀ w,J1 w→C1 w w) (hC2:∀ w,C2 w w) (hgx:∀ w w',C1 w w'↔J1 w') (hst:qhH k0 ops) {Q:Act→World→Prop} {i:Nat} {x:Oper} (hi:ops[i]? = some x) :
    ∀ (fuel:Nat) (listed:Array Bool) (a:Act) (w:World),jAt J1 k0 i w→Closed ops listed→(∀ m,m<i→listed.getD m false=true)→i∈Region.ready .any ops listed →
      mOp P ops (cAt C1 C2 k0 i) (jAt J1 k0 i) i (qgc P ops C1 C2 J1 k0 Q fuel (listed.setIfInBounds i true)) a w→qgc P ops C1 C2 J1 k0 Q (fuel+1) listed a w:=by
  have his:i<ops.size:=(Array.getElem?_eq_some_iff.1 hi).1
  intro fuel
  induction fuel with
  | zero =>
    intro listed a w hw hcl hlow hr H
    refine ⟨fun h=>(by rw [h] at hr; cases hr),fun j hj => ?_⟩
    by_cases hji:j=i
    · subst hji; exact H
    · obtain ⟨a',w',h0,_⟩:=qen hw H
      have:=ready_mono hj hji
      rw [h0] at this
      cases this
  | succ fuel ih =>
    intro listed a w hw hcl hlow hr H
    refine ⟨fun h=>(by rw [h] at hr; cases hr),fun j hj => ?_⟩
    by_cases hji:j=i
    · subst hji; exact H
    · obtain ⟨hjun,y,hy,hall⟩:=mem_ready.1 hj
      have hij:i<j:=by
        rcases Nat.lt_or_ge i j with h | h
        · exact h
        · have h1:=hlow j (by omega)
          rcases Nat.lt_or_ge j listed.size with h' | h'
          · simp [h'] at hjun h1; rw [hjun] at h1; cases h1
          · simp [Array.getElem?_eq_none h'] at h1
      have hiun:=(mem_ready.1 hr).1
      have hilt:i<listed.size:=by
        rcases Nat.lt_or_ge i listed.size with h' | h'
        · exact h'
        · simp [Array.getElem?_eq_none h'] at hiun
      have hnb:¬ qae (Region.before ops) j i=true:=fun hb=>by
        have h1:=qaA hst.cert hcl his hj hb
        simp [hilt] at hiun h1
        rw [hiun] at h1
        cases h1
      obtain ⟨hk,hap,hpk⟩:=(hst.pairs i j x y hi hy hij).resolve_left hnb
      have ci:cAt C1 C2 k0 i=C1:=by unfold cAt; rw [if_pos (by omega)]
      have ji:jAt J1 k0 i=J1:=by unfold jAt; rw [if_pos (by omega)]
      have cj:cAt C1 C2 k0 j=C1:=by unfold cAt; rw [if_pos hk]
      have jj:jAt J1 k0 j=J1:=by unfold jAt; rw [if_pos hk]
      rw [ci,ji] at H
      rw [ji] at hw
      have H2:mOp P ops C1 J1 i (mOp P ops C1 J1 j (qgc P ops C1 C2 J1 k0 Q fuel ((listed.setIfInBounds i true).setIfInBounds j true))) a w :=
        JF hw (fun a' w' _ h=>by have:=h.2 j (ready_mono hj hji); rw [cj,jj] at this; exact this) H
      have H3:=qfZ hC (ga:=2) (fun e=>by cases e) (fun _=>hgx) hi hy (fun cs b=>Region.noSelect_spec hst.sel i x cs b hi) (fun cs b=>Region.noSelect_spec hst.sel j y cs b hy) hap hpk hw H2
      rw [cj,jj]
      refine JF hw (fun a' w' hw' h=>ih (listed.setIfInBounds j true) a' w' (by rw [ji]; exact hw') (hcl.set hj) (fun m hm=>getD_set_true (hlow m hm)) (ready_mono hr (Ne.symm hji)) ?_) H3
      rw [ci,ji,Array.setIfInBounds_comm _ _ hji]
      exact h
def stepW (P:Program) (ops:Array Oper) (C:World→World→Prop) (J:World→Prop) (K:Act→World→Prop) (o:Oper) (a:Act) (w:World):Prop :=
  if vT o=true then wpList P ops (Exit.then (fun a w=>J w∧K a w) bot) [o] a w else wpQuiet P ops (C w) (fun a'=>K a' w) [o] a
theorem qgi {C:World→World→Prop} {J:World→Prop} {Q:Exit→Act→World→Prop} {o:Oper} {rest:List Oper} {a:Act} {w:World} (h:walk P ops C J Q (o::rest) a w):stepW P ops C J (walk P ops C J Q rest) o a w:=h
theorem K8 {C:World→World→Prop} {J:World→Prop} {K:Act→World→Prop} {i:Nat} {o:Oper} {a:Act} {w:World} (hi:ops[i]? = some o) (h:stepW P ops C J K o a w):mOp P ops C J i K a w:=by
  unfold stepW at h
  unfold mOp
  simp only [hi]
  by_cases he:vT o=true
  · rw [if_pos he] at h
    unfold wpList at h
    by_cases hw:Region.wanted o (yielded ops a.tmps)=true
    · rw [if_pos hw] at h
      rcases h with h | ⟨_,a0,w0,h⟩
      · rw [show kindOf ops o a = .eff by unfold kindOf; rw [if_pos hw,if_pos he]]
        exact Jh (K:=fun a w=>J w∧K a w) (Oper.wp_mono (fun a' w' h=>h) (by
          refine Oper.wp_mono (K:=wpList P ops (Exit.then (fun a w=>J w∧K a w) bot) []) (fun a' w' h=>h) ?_
          revert h
          unfold Oper.wp
          generalize (execOp a.eval o).run P w=r
          cases r with
          | ok n w' =>
            cases n <;> simp only [Oper.upon] <;> intro h <;> first
              | exact h
              | exact Calls.mono h (fun e w'' he=>by
                  cases e with
                  | returned v=>exact he
                  | panicked c=>exact he
                  | outgrown=>obtain ⟨_,_,he⟩:=he; exact he.elim)
          | halt x w'=>cases x <;> simp only [Oper.upon] <;> intro h <;> exact h))
      · exact h.elim
    · rw [if_neg hw] at h
      rw [show kindOf ops o a = .skip by unfold kindOf; rw [if_neg hw]]
      exact (show J w∧K (a.put o.dst undef) w from h).2
  · have he':vT o=false:=by simpa using he
    rw [if_neg he] at h
    unfold wpQuiet at h
    by_cases hw:Region.wanted o (yielded ops a.tmps)=true
    · rw [if_pos hw] at h
      rw [show kindOf ops o a = .still by unfold kindOf; rw [if_pos hw,if_neg he]]
      obtain ⟨v,h1,h2⟩:=h
      refine ⟨v,fun w' hw' => ?_,h2⟩
      have h3:=h1 w' hw'
      unfold Oper.quietAt at h3
      cases hr:(execOp a.eval o).run P w' with
      | halt x w''=>rw [hr] at h3; simp only [Oper.quietUpon] at h3
      | ok n w'' =>
        rw [hr] at h3
        obtain ⟨u,rfl⟩:=value_of he' hr
        simp only [Oper.quietUpon] at h3
        obtain ⟨rfl,rfl⟩:=h3
        rfl
    · rw [if_neg hw] at h
      rw [show kindOf ops o a = .skip by unfold kindOf; rw [if_neg hw]]
      exact h
def qg3 (P:Program) (ops:Array Oper) (C1 C2:World→World→Prop) (J1:World→Prop) (k0:Nat) (Q:Act→World→Prop):Nat→List Oper→Act→World→Prop
  | _,[],a,w=>Q a w
  | k,o::rest,a,w=>ops[k]? = some o∧mOp P ops (cAt C1 C2 k0 k) (jAt J1 k0 k) k (qg3 P ops C1 C2 J1 k0 Q (k+1) rest) a w
def qmm (K:Act→World→Prop):Exit→Act→World→Prop
  | .normal=>K
  | _=>fun _ _=>False
theorem qhS {Q:Exit→Act→World→Prop}:∀ (post:List Oper) (k:Nat) (a:Act) (w:World),k0≤k→(∀ j,post[j]? = ops[k+j]?)→walk P ops C2 (fun _=>True) Q post a w→qg3 P ops C1 C2 J1 k0 (Q .normal) k post a w
  | [],k,a,w,hk,_,h=>h
  | o::post,k,a,w,hk,hl,h=>by
    have h0:ops[k]? = some o:=by simpa using (hl 0).symm
    unfold qg3
    rw [show cAt C1 C2 k0 k=C2 by unfold cAt; rw [if_neg (by omega)],show jAt J1 k0 k=fun _=>True by unfold jAt; rw [if_neg (by omega)]]
    exact ⟨h0,JF trivial (fun a w _ h=>qhS post (k+1) a w (by omega) (fun j=>by have:=hl (j+1); simpa [Nat.add_assoc,Nat.add_comm 1 j] using this) h) (K8 h0 (qgi h))⟩
theorem qeI {Q:Exit→Act→World→Prop} {post:List Oper}:∀ (pre:List Oper) (k:Nat) (a:Act) (w:World),k+pre.length=k0→(∀ j,(pre++post)[j]? = ops[k+j]?)→J1 w→walk P ops C1 J1 (qmm (walk P ops C2 (fun _=>True) Q post)) pre a w→qg3 P ops C1 C2 J1 k0 (Q .normal) k (pre++post) a w
  | [],k,a,w,hk,hl,_,h=>by
    simp only [List.length_nil,Nat.add_zero] at hk
    exact qhS post k a w (by omega) hl h
  | o::pre,k,a,w,hk,hl,hw,h=>by
    have h0:ops[k]? = some o:=by simpa using (hl 0).symm
    simp only [List.length_cons] at hk
    rw [List.cons_append]
    unfold qg3
    rw [show cAt C1 C2 k0 k=C1 by unfold cAt; rw [if_pos (by omega)],show jAt J1 k0 k=J1 by unfold jAt; rw [if_pos (by omega)]]
    exact ⟨h0,JF hw (fun a w hw' h=>qeI pre (k+1) a w (by omega) (fun j=>by have:=hl (j+1); simpa [Nat.add_assoc,Nat.add_comm 1 j] using this) hw' h) (K8 h0 (qgi h))⟩
theorem qle (hC:∀ w,J1 w→C1 w w) (hC2:∀ w,C2 w w) (hgx:∀ w w',C1 w w'↔J1 w') (hst:qhH k0 ops) {Q:Act→World→Prop} :
    ∀ (l:List Oper) (k:Nat) (listed:Array Bool) (a:Act) (w:World),(∀ j,l[j]? = ops[k+j]?)→k+l.length=ops.size→listed.size=ops.size →
      (∀ m,m<ops.size→listed.getD m true=decide (m<k))→(k<k0→J1 w)→qg3 P ops C1 C2 J1 k0 Q k l a w→qgc P ops C1 C2 J1 k0 Q l.length listed a w:=by
  intro l
  induction l with
  | nil =>
    intro k listed a w hl hk hs hls hw h
    refine ⟨?_,h⟩
    rw [List.eq_nil_iff_forall_not_mem]
    intro j hj
    obtain ⟨h1,o,ho,_⟩:=mem_ready.1 hj
    have hjs:j<ops.size:=(Array.getElem?_eq_some_iff.1 ho).1
    rw [hls j hjs] at h1
    simp only [List.length_nil,Nat.add_zero] at hk
    simp at h1
    omega
  | cons o rest ih =>
    intro k listed a w hl hk hs hls hw h
    have h0:ops[k]? = some o:=by simpa using (hl 0).symm
    have hks:k<ops.size:=(Array.getElem?_eq_some_iff.1 h0).1
    have both:∀ m,m<ops.size→listed.getD m false=listed.getD m true:=fun m hm=>by simp [hs,hm]
    have hr:k∈Region.ready .any ops listed:=by
      rw [mem_ready]
      refine ⟨by rw [hls k hks]; simp,o,h0,fun e he hb => ?_⟩
      have:=hst.back k o h0 e he hb
      rw [both e.on (by omega),hls e.on (by omega)]
      simpa using this
    have hcl:Closed ops listed:=by
      intro j oj hj hlj e he hb
      have hjs:j<ops.size:=(Array.getElem?_eq_some_iff.1 hj).1
      have:=hst.back j oj hj e he hb
      rw [both j hjs,hls j hjs] at hlj
      rw [both e.on (by omega),hls e.on (by omega)]
      simp at hlj ⊢
      omega
    have hjk:jAt J1 k0 k w:=by
      unfold jAt
      split
      · exact hw ‹_›
      · trivial
    refine qnM hC hC2 hgx hst h0 rest.length listed a w hjk hcl (fun m hm=>by rw [both m (by omega),hls m (by omega)]; simpa using hm) hr ?_
    refine JF hjk (fun a' w' hw' h' => ?_) h.2
    refine ih (k+1) (listed.setIfInBounds k true) a' w' (fun j=>by have:=hl (j+1); simpa [Nat.add_assoc,Nat.add_comm 1 j] using this) (by simp only [List.length_cons] at hk; omega) (by simpa using hs) (fun m hm => ?_) (fun hk1 => ?_) h'
    · by_cases hmk:k=m
      · subst hmk
        simp [hs,hks]
      · rw [getD_set_ne true hmk,hls m hm]
        simp only [decide_eq_decide]
        omega
    · unfold jAt at hw'
      rw [if_pos (by omega)] at hw'
      exact hw'
theorem qhm (hC:∀ w,J1 w→C1 w w) (hC2:∀ w,C2 w w) (hst:qhH k0 ops) {Q:Exit→Act→World→Prop}:∀ (fuel:Nat) (listed:Array Bool) (a:Act) (w:World),Closed ops listed→listed.size=ops.size→((∃ i,i<k0∧i<ops.size∧listed.getD i false=false)→J1 w)→qgc P ops C1 C2 J1 k0 (Q .normal) fuel listed a w →
    wpAny P .any ops (Exit.then (Q .normal) bot) fuel listed a w
  | 0,_,_,_,_,_,_,h=>h
  | fuel+1,listed,a,w,hcl,hs,hJ,h=>by
    refine ⟨h.1,fun i hi => ?_⟩
    obtain ⟨hiun,oi,hoi,_⟩:=mem_ready.1 hi
    have his:i<ops.size:=(Array.getElem?_eq_some_iff.1 hoi).1
    have hif:listed.getD i false=false:=by simpa [hs,his] using hiun
    have hjw:jAt J1 k0 i w:=by
      unfold jAt
      split
      · exact hJ ⟨i,‹_›,his,hif⟩
      · trivial
    have hcw:cAt C1 C2 k0 i w w:=by
      unfold cAt
      split
      · exact hC w (hJ ⟨i,‹_›,his,hif⟩)
      · exact hC2 w
    have h1:=JF hjw (fun a w hw h=>qhm hC hC2 hst (Q:=Q) fuel _ a w (hcl.set hi) (by simpa using hs) (by
      rintro ⟨m,hm,hms,hmf⟩
      by_cases hik:i<k0
      · unfold jAt at hw
        rw [if_pos hik] at hw
        exact hw
      · exfalso
        have hmi:m<i:=by omega
        obtain ⟨om,hom⟩:∃ om,ops[m]? = some om:=⟨_,Array.getElem?_eq_getElem hms⟩
        have hb:=(hst.pairs m i om oi hom hoi hmi).resolve_right (fun e=>hik e.1)
        have h1:=qaA hst.cert hcl hms hi hb
        have h2:=getD_set_true (i:=i) h1
        rw [h2] at hmf
        cases hmf) h) (h.2 i hi)
    unfold mOp at h1
    unfold wpOp
    cases ho:ops[i]? with
    | none=>rw [ho] at h1; exact h1
    | some o =>
      simp only [ho] at h1 ⊢
      unfold kindOf at h1
      by_cases hw:Region.wanted o (yielded ops a.tmps)=true
      · rw [if_pos hw] at h1
        rw [if_pos hw]
        by_cases he:vT o=true
        · rw [if_pos he] at h1
          exact .inl (ZX (Zt (P:=P) (K:=fun d v w'=>jAt J1 k0 i w'∧wpAny P .any ops (Exit.then (Q .normal) bot) fuel (listed.setIfInBounds i true) (y7 a o.dst d v) w') (fun d v w h=>h.2) h1))
        · rw [if_neg he] at h1
          obtain ⟨v,h2,h3⟩:=h1
          refine .inl ?_
          unfold Oper.wp
          rw [h2 w hcw]
          exact h3
      · rw [if_neg hw] at h1
        rw [if_neg hw]
        exact h1
end
theorem qdQ {P:Program} {C1 C2:World→World→Prop} {J1:World→Prop} (hC:∀ w,J1 w→C1 w w) (hC2:∀ w,C2 w w) (hgx:∀ w w',C1 w w'↔J1 w') {id:Nat} {pre post:List Oper} {Q:Exit→Act→World→Prop} {a:Act} {w:World}
    (hm:P.follows .mixedOrders=true) (hB:qeS pre.length (pre++post).toArray=true) (hw:J1 w.drew) (h:walk P (pre++post).toArray C1 J1 (qmm (walk P (pre++post).toArray C2 (fun _=>True) Q post)) pre a w.drew):(Code.region id (pre++post).toArray true).wp P Q a w:=by
  have hst:=qm3 hB
  have h0:=qeI (k0:=pre.length) pre 0 a w.drew (by simp) (fun j=>by simp) hw h
  have h1:=qle hC hC2 hgx hst (pre++post) 0 (Array.replicate (pre++post).toArray.size false) a w.drew (by simp) (by simp) (by simp) (fun m hm=>by simp at hm; simp [hm]) (fun _=>hw) h0
  have h2:=qhm hC hC2 hst (Q:=Q) _ _ _ _ (by
    intro j o hj hl e he hb
    have hjs:j<(pre++post).toArray.size:=(Array.getElem?_eq_some_iff.1 hj).1
    simp at hjs hl
    simp [hjs] at hl) (by simp) (fun _=>hw) h1
  refine Code.wp_mono (Q:=Exit.then (Q .normal) bot) (fun e a w h => ?_) (wp_region_any hm (by simpa using h2))
  cases e <;> first | exact h | exact h.elim
end Mix
end Go.Proofs.YtnconfggojpkcaaGreat
namespace Go.Proofs.YtnconfggojpkcaaGreat
open Go.RowKit
namespace AM
mutual
/-- A value that the blocks' places settle. -/
def V.fixed:V→Bool
 | .sc _=>true
 | .agg cs=>V.vC cs
 | .tup cs=>V.vC cs
 | .nil=>true
 | .ptr _ _=>true
 | .map _=>true
 | .iface _ x=>x.fixed
 | .fn _ first cap=>V.vC first&&V.vC cap
 | _=>false
def V.vC:List V→Bool
 | []=>true
 | x::xs=>x.fixed&&V.vC xs
end
section
variable {I I':Nat→Nat→Option Value} {φ φ':List Nat}
mutual
theorem Rel.same (hφ:∀ id b:Nat,φ[id]? = some b→φ'[id]? = some b):∀ {x:V} {v v':Value},Rel I φ x v→Rel I' φ' x v'→x.fixed=true→v'=v
 | _,_,_,.sc v,h,_=>by cases h; rfl
 | _,_,_,.agg hl,h,hf=>by
  cases h with
  | agg hl' =>
   have:=vM.same hφ hl hl' (by simpa [V.fixed] using hf)
   rw [Array.toList_inj.1 this]
 | _,_,_,.tup hl,h,hf=>by
  cases h with
  | tup hl' =>
   have:=vM.same hφ hl hl' (by simpa [V.fixed] using hf)
   rw [Array.toList_inj.1 this]
 | _,_,_,.nil,h,_=>by cases h; rfl
 | _,_,_,.ptr hb,h,_=>by
  cases h with
  | ptr hb' =>
   have:=hφ _ _ hb
   rw [hb'] at this
   cases this
   rfl
 | _,_,_,.map hb,h,_=>by
  cases h with
  | map hb' =>
   have:=hφ _ _ hb
   rw [hb'] at this
   cases this
   rfl
 | _,_,_,.iface hx,h,hf=>by
  cases h with
  | iface hx'=>rw [Rel.same hφ hx hx' (by simpa [V.fixed] using hf)]
 | _,_,_,.fn h1 h2,h,hf=>by
  simp only [V.fixed,Bool.and_eq_true] at hf
  cases h with
  | fn h1' h2' =>
   rw [Array.toList_inj.1 (vM.same hφ h1 h1' hf.1),Array.toList_inj.1 (vM.same hφ h2 h2' hf.2)]
 | _,_,_,.sl ..,_,hf=>by simp [V.fixed] at hf
 | _,_,_,.sl0,_,hf=>by simp [V.fixed] at hf
 | _,_,_,.rd ..,_,hf=>by simp [V.fixed] at hf
 | _,_,_,.fs ..,_,hf=>by simp [V.fixed] at hf
 | _,_,_,.fs0,_,hf=>by simp [V.fixed] at hf
 | _,_,_,.slb ..,_,hf=>by simp [V.fixed] at hf
 | _,_,_,.slb0,_,hf=>by simp [V.fixed] at hf
theorem vM.same (hφ:∀ id b:Nat,φ[id]? = some b→φ'[id]? = some b):∀ {xs:List V} {vs vs':List Value},vM I φ xs vs→vM I' φ' xs vs'→V.vC xs=true→vs'=vs
 | _,_,_,.nil,h,_=>by cases h; rfl
 | _,_,_,.cons h1 h2,h,hf=>by
  simp only [V.vC,Bool.and_eq_true] at hf
  cases h with
  | cons h1' h2'=>rw [Rel.same hφ h1 h1' hf.1,vM.same hφ h2 h2' hf.2]
end
end
def jW:List SV→Bool
 | []=>true
 | .v x::ks=>x.fixed&&jW ks
 | _::_=>false
def Xi (H0 H:List Bk):Prop:=∀ (id:Nat) (ks:List SV),H0[id]? = some (Bk.cells ks)→jW ks=true→H[id]? = some (Bk.cells ks)
@[simp] theorem keepS_refl {H:List Bk}:Xi H H=True:=eq_true fun _ _ h _=>h
@[simp] theorem Z4 {H L:List Bk}:Xi H (H++L)=True:=eq_true fun id ks h _=>by
 rw [List.getElem?_append_left (List.getElem?_eq_some_iff.1 h).1]; exact h
def Zb (old:List (Nat×V)):Operand→Option V
 | .tmp t=>(old.find? fun p=>p.1==t).map (·.2)
 | _=>none
def yw (dst:Option Tmp) (old:List (Nat×V)):List (Nat×V):=match dst with
 | some d=>old.filter fun p => !(p.1==d)
 | none=>old
def yO (dst:Option Tmp) (y:Option V) (old:List (Nat×V)):List (Nat×V):=match dst,y with
 | some d,some y=>(d,y)::yw (some d) old
 | d,_=>yw d old
def Q8 (F:Fr):List Nat→List (Nat×V)
 | [] => []
 | t::ts=>match qm t F with
  | some (.v y)=>(t,y)::Q8 F ts
  | _=>Q8 F ts
def Qq (P:Program) (N:Nat) (H0:List Bk) (dst:Option Tmp) (t:TypeId) (x:Operand) (old:List (Nat×V)) (s:St) (K:List (Nat×V)→St→Prop):Prop:=match Zb old x,yJ P t,sizeT P t with
 | some (.ptr id off),some agg,some n=>match H0[id]? with
  | some (.cells ks)=>jW ks=true∧(match ldV agg n (jU (ks.drop off)) with
   | some y=>jR N dst (.v y) s (K (yO dst (some y) old))
   | none=>False)
  | _=>False
 | some (.rd cs),some agg,some n=>match ldV agg n cs with
  | some y=>jR N dst (.v y) s (K (yO dst (some y) old))
  | none=>False
 | _,_,_=>False
def yg (P:Program) (N:Nat) (dst:Option Tmp) (t:TypeId) (x ix:Operand) (old:List (Nat×V)) (s:St) (K:List (Nat×V)→St→Prop):Prop:=match zZ s x,zZ s ix,P.underlying t with
 | some (.sl n sz cs),some (.sc (.int _ i)),some (.slice e)=>sizeT P e=some sz∧(0≤i∧i<n)∧jR N dst (.v (.rd (rowAt sz cs i))) s (K (match Zb old x with
   | some (.sl m sz' cs')=>bif decide (m=n)&&decide (sz'=sz) then yO dst (some (.rd (rowAt sz cs' i))) old else yw dst old
   | _=>yw dst old))
 | _,_,_=>False
def yh (P:Program) (N:Nat) (dst:Option Tmp) (t:TypeId) (x:Operand) (f:Nat) (old:List (Nat×V)) (s:St) (K:List (Nat×V)→St→Prop):Prop:=match zZ s x,qC P t f with
 | some p,some n=>match shift (.v p) n with
  | some y=>jR N dst y s (K (match Zb old x with
   | some q=>(match shift (.v q) n with
    | some (.v z)=>yO dst (some z) old
    | _=>yw dst old)
   | none=>yw dst old))
  | none=>False
 | _,_=>False
def ZG (P:Program) (N:Nat) (dst:Option Tmp) (args:List Operand) (ts:List TypeId) (old:List (Nat×V)) (s:St) (K:List (Nat×V)→St→Prop):Prop:=match args,ts with
 | [x],[t]=>match zZ s x,P.underlying t with
  | some p,some (.slice _)=>match Zn (.v p) with
   | some n=>jR N dst (.v (.sc (.int .i64 n))) s (K (yw dst old))
   | none=>False
  | _,_=>False
 | _,_=>False
def yop (P:Program) (N:Nat) (ops:List Oper) (H0:List Bk) (o:Oper) (old:List (Nat×V)) (s:St) (K:List (Nat×V)→St→Prop):Prop:=match o.op with
 | .load t x=>Qq P N H0 o.dst t x old s K
 | .move x=>match zZ s x with
  | some y=>jR N o.dst (.v y) s (K (yO o.dst (Zb old x) old))
  | none=>False
 | .nilCheck x=>match zZ s x with
  | some (.ptr id off)=>jR N o.dst (.v (.ptr id off)) s (K (yO o.dst (Zb old x) old))
  | some (.rd cs)=>jR N o.dst (.v (.rd cs)) s (K (yO o.dst (Zb old x) old))
  | _=>Zi o.op=false∧aop P N ops o s (fun s'=>Xi H0 s'.H∧K (yw o.dst old) s')
 | .fieldAddr t x f=>yh P N o.dst t x f old s K
 | .indexAddr t x ix=>yg P N o.dst t x ix old s K
 | .call { callee := .builtin .len,args,argTypes }=>ZG P N o.dst args.toList argTypes.toList old s K
 | op=>Zi op=false∧aop P N ops o s (fun s'=>Xi H0 s'.H∧K (yw o.dst old) s')
def qca (P:Program) (N:Nat) (ops:List Oper) (H0:List Bk):List Oper→(St→Prop)→List (Nat×V)→St→Prop
 | [],K,_,s=>K s
 | o::rest,K,old,s=>match o.guard with
  | none=>yop P N ops H0 o old s (qca P N ops H0 rest K)
  | some (j,want)=>match (ops[j]?).bind (·.dst) with
   | some t=>match qm t s.F with
    | some (.v (.sc (.bool b)))=>gd b want (yop P N ops H0 o old ⟨yR t (.v (.sc (.bool want))) s.F,s.H⟩ (qca P N ops H0 rest K)) (jR N o.dst (.v (.tup [])) ⟨yR t (.v (.sc (.bool (!want)))) s.F,s.H⟩ (qca P N ops H0 rest K (yw o.dst old)))
    | some (.v (.tup []))=>jR N o.dst (.v (.tup [])) s (qca P N ops H0 rest K (yw o.dst old))
    | _=>False
   | none=>False
section
variable {P:Program} {N:Nat} {ops rest:List Oper} {H0 H:List Bk} {F:Fr} {o:Oper} {old:List (Nat×V)} {K:St→Prop} {K':List (Nat×V)→St→Prop}
theorem zh:qca P N ops H0 [] K old ⟨F,H⟩=K ⟨F,H⟩:=rfl
theorem qO:qca P N ops H0 (o::rest) K old ⟨F,H⟩=match o.guard with
  | none=>yop P N ops H0 o old ⟨F,H⟩ (qca P N ops H0 rest K)
  | some (j,want)=>match (ops[j]?).bind (·.dst) with
   | some t=>match qm t F with
    | some (.v (.sc (.bool b)))=>gd b want (yop P N ops H0 o old ⟨yR t (.v (.sc (.bool want))) F,H⟩ (qca P N ops H0 rest K)) (jR N o.dst (.v (.tup [])) ⟨yR t (.v (.sc (.bool (!want)))) F,H⟩ (qca P N ops H0 rest K (yw o.dst old)))
    | some (.v (.tup []))=>jR N o.dst (.v (.tup [])) ⟨F,H⟩ (qca P N ops H0 rest K (yw o.dst old))
    | _=>False
   | none=>False:=rfl
theorem ZV:yop P N ops H0 o old ⟨F,H⟩ K'=match o.op with
 | .load t x=>Qq P N H0 o.dst t x old ⟨F,H⟩ K'
 | .move x=>match zZ ⟨F,H⟩ x with
  | some y=>jR N o.dst (.v y) ⟨F,H⟩ (K' (yO o.dst (Zb old x) old))
  | none=>False
 | .nilCheck x=>match zZ ⟨F,H⟩ x with
  | some (.ptr id off)=>jR N o.dst (.v (.ptr id off)) ⟨F,H⟩ (K' (yO o.dst (Zb old x) old))
  | some (.rd cs)=>jR N o.dst (.v (.rd cs)) ⟨F,H⟩ (K' (yO o.dst (Zb old x) old))
  | _=>Zi o.op=false∧aop P N ops o ⟨F,H⟩ (fun s'=>Xi H0 s'.H∧K' (yw o.dst old) s')
 | .fieldAddr t x f=>yh P N o.dst t x f old ⟨F,H⟩ K'
 | .indexAddr t x ix=>yg P N o.dst t x ix old ⟨F,H⟩ K'
 | .call { callee := .builtin .len,args,argTypes }=>ZG P N o.dst args.toList argTypes.toList old ⟨F,H⟩ K'
 | op=>Zi op=false∧aop P N ops o ⟨F,H⟩ (fun s'=>Xi H0 s'.H∧K' (yw o.dst old) s'):=rfl
end
section
variable {P:Program} {c c0:Cx} {N:Nat} {s:St} {a:Act} {w w0:World} {H0:List Bk} {old:List (Nat×V)}
def JY (c0:Cx) (H0:List Bk) (w0 w:World):Prop :=
 (∀ b o v,c0.I b o=some v→w.cell? ⟨b,o,none⟩=some v)∧∀ (id b:Nat) (ks:List SV) (o:Nat) (v:Value),c0.φ[id]? = some b→H0[id]? = some (Bk.cells ks)→jW ks=true→w0.cell? ⟨b,o,none⟩=some v→w.cell? ⟨b,o,none⟩=some v
theorem JY.start (h:Inv c0 H0 w0):JY c0 H0 w0 w0:=⟨h.imm,fun _ _ _ _ _ _ _ _ h=>h⟩
theorem qiK:∀ {ks:List SV} {o:Nat} {x:SV},jW ks=true→ks[o]? = some x→∃ y,x = .v y∧y.fixed=true
 | [],o,x,_,h=>by simp at h
 | k::ks,o,x,he,h=>by
  cases k with
  | v y =>
   simp only [jW,Bool.and_eq_true] at he
   cases o with
   | zero =>
    simp at h
    subst h
    exact ⟨y,rfl,he.1⟩
   | succ o=>exact qiK he.2 (by simpa using h)
  | _=>simp [jW] at he
theorem qmj {c':Cx} {H':List Bk} {w':World} {id b:Nat} {ks:List SV} (h:Inv c H0 w) (h':Inv c' H' w') (hφ:∀ id b:Nat,c.φ[id]? = some b→c'.φ[id]? = some b) (hb:c.φ[id]? = some b) (hb':c'.φ[id]? = some b) (hk:H0[id]? = some (.cells ks)) (hk':H'[id]? = some (.cells ks)) (he:jW ks=true) {o:Nat} {v:Value} (hv:w.cell? ⟨b,o,none⟩=some v):w'.cell? ⟨b,o,none⟩=some v:=by
 obtain ⟨_,_,arr,e,g1,g2,_,g3⟩:=h.blk id b _ hb hk
 obtain ⟨_,_,arr',e',q1,q2,_,q3⟩:=h'.blk id b _ hb' hk'
 have hv':arr[o]? = some v:=by simpa [World.cell?,g1] using hv
 have hlt:o<arr.size:=(Array.getElem?_eq_some_iff.1 hv').1
 have hko:ks[o]? = some ks[o]:=List.getElem?_eq_getElem (by omega)
 have ho':arr'[o]? = some arr'[o]:=Array.getElem?_eq_getElem (by omega)
 obtain ⟨y,hy,hu⟩:=qiK he hko
 have r1:=(g3 o _ _ hko hv').2
 have r2:=(q3 o _ _ hko ho').2
 rw [hy] at r1 r2
 have e1:arr'[o]=v:=Rel.same hφ r1 r2 hu
 simp only [World.cell?,q1,Option.isSome_none,Bool.false_eq_true,if_false]
 rw [ho',e1]
theorem JY.next (h0:Inv c0 H0 w0) (hs:Sim c N s a w) (hx:Ext c0 w0 c w) (hk:Xi H0 s.H):JY c0 H0 w0 w :=
 ⟨fun b o v hv=>hs.inv.imm b o v (hx.imm b o v hv),fun id b ks o v hb hid he hv=>qmj h0 hs.inv hx.phi hb (hx.phi id b hb) hid (hk id ks hid he) he hv⟩
structure qa9 (c0:Cx) (H0:List Bk) (w0:World) (old:List (Nat×V)) (c:Cx) (a:Act) (w:World):Prop where
 inv:Inv c0 H0 w0
 ext:Ext c0 w0 c w
 j:JY c0 H0 w0 w
 vals:∀ p∈old,Rel c0.I c0.φ p.2 (a.eval (.tmp p.1))
theorem qa9.look {x:Operand} {y:V} (h:qa9 c0 H0 w0 old c a w) (hx:Zb old x=some y):Rel c0.I c0.φ y (a.eval x):=by
 unfold Zb at hx
 cases x with
 | tmp t =>
  simp only at hx
  cases hf:old.find? (fun p=>p.1==t) with
  | none=>rw [hf] at hx; cases hx
  | some p =>
   rw [hf] at hx
   cases hx
   have h1:=h.vals p (List.mem_of_find?_eq_some hf)
   have h2:=List.find?_some hf
   simp at h2
   rw [h2] at h1
   exact h1
 | _=>cases hx
def YP (c0:Cx) (H0:List Bk) (w0:World) (N:Nat) (K:List (Nat×V)→St→Prop) (a':Act) (w':World):Prop:=∃ c' s' old',Sim c' N s' a' w'∧qa9 c0 H0 w0 old' c' a' w'∧K old' s'
theorem qkg {dst:Option Tmp} {p:Nat×V} (h:p∈yw dst old):dst≠some p.1∧p∈old:=by
 cases dst with
 | none=>exact ⟨by simp,h⟩
 | some d =>
  simp only [yw,List.mem_filter] at h
  refine ⟨fun e => ?_,h.1⟩
  cases e
  simp at h
theorem qa9.put {dst:Option Tmp} {v:Value} {c':Cx} {w':World} (p:qa9 c0 H0 w0 old c a w) (hx:Ext c w c' w') (hj:JY c0 H0 w0 w'):qa9 c0 H0 w0 (yw dst old) c' (a.put dst v) w' :=
 ⟨p.inv,p.ext.trans hx,hj,fun q hq=>by
  obtain ⟨h1,h2⟩:=qkg hq
  have:(a.put dst v).eval (.tmp q.1)=a.eval (.tmp q.1):=Act.eval_put fun d' hd' e'=>by cases hd'; cases e'; exact h1 rfl
  rw [this]
  exact p.vals q h2⟩
theorem qeb {dst:Option Tmp} {y:SV} {z:Option V} {v:Value} {K:List (Nat×V)→St→Prop} (h:Sim c N s a w) (p:qa9 c0 H0 w0 old c a w) (hk:jR N dst y s (K (yO dst z old))) (hx:∀ d,dst=some d→QF c w (.slot d) y v)
  (hz:∀ z',z=some z'→Rel c0.I c0.φ z' v):YP c0 H0 w0 N K (a.put dst v) w:=by
 cases dst with
 | none=>exact ⟨c,s,_,h,p.put (dst:=none) (Ext.refl c w) p.j,hk⟩
 | some d =>
  obtain ⟨h1,h2,h3⟩:=hk
  have h4:=Sim.put (F:=s.F) (H:=s.H) h h1 (qiG h2) (hx d rfl)
  have p1:qa9 c0 H0 w0 (yw (some d) old) (c.free (.slot d)) (a.put (some d) v) w:=p.put (Ext.free c w _) p.j
  cases z with
  | none=>exact ⟨_,_,_,h4,p1,h3⟩
  | some z' =>
   refine ⟨_,_,_,h4,⟨p1.inv,p1.ext,p1.j,fun q hq => ?_⟩,h3⟩
   have hlt:d<a.tmps.size:=by rw [h.size]; exact h1
   have ev:(a.put (some d) v).eval (.tmp d)=v:=by simp [Act.eval,Act.put,hlt]
   simp only [yO,List.mem_cons] at hq
   rcases hq with rfl | hq
   ·rw [ev]; exact hz z' rfl
   ·exact p1.vals q hq
theorem qbj {dst:Option Tmp} {y:SV} {v:Value} {K:List (Nat×V)→St→Prop} (h:Sim c N s a w) (p:qa9 c0 H0 w0 old c a w) (hk:jR N dst y s (K (yw dst old))) (hx:∀ d,dst=some d→QF c w (.slot d) y v):YP c0 H0 w0 N K (a.put dst v) w:=by
 refine qeb (z:=none) h p ?_ hx (fun z' e=>by cases e)
 have:yO dst none old=yw dst old:=by cases dst <;> rfl
 rw [this]
 exact hk
theorem qg7 {t:TypeId} {agg:Bool} {n b off:Nat} {cs:List V} {vs:List Value} {y:V} {I:Nat→Nat→Option Value} {φ:List Nat} (ha:yJ P t=some agg) (hn:sizeT P t=some n) (hr:vM I φ cs vs)
  (hy:ldV agg n cs=some y):∃ v,Rel I φ y v∧∀ w',(∀ j u,vs[j]? = some u→w'.cell? ⟨b,off+j,none⟩=some u)→(Instr.loadAt t (.pointer (some ⟨b,off,none⟩))).run P w' = .ok v w':=by
 unfold ldV at hy
 cases agg with
 | true =>
  simp only [cond_true] at hy
  cases hle:Nat.ble n cs.length with
  | false=>rw [hle] at hy; cases hy
  | true =>
   rw [hle] at hy
   cases hy
   have hle:n≤cs.length:=Nat.le_of_ble_eq_true hle
   refine ⟨.agg (vs.take n).toArray,.agg (by simpa using hr.take n),fun w' hc => ?_⟩
   have h1:=run_loadCellsFrom (P:=P) (w:=w') (b:=b) (off:=off) n 0 #[] (vs.take n) (by rw [List.length_take,← hr.len]; omega) (fun j u hu=>by
    rw [List.getElem?_take] at hu
    split at hu
    ·exact hc j u hu
    ·cases hu)
   simp only [Instr.loadAt,Instr.sureAddr,Sem.run_bind,Sem.run_pure,Result.andThen_ok,loadVar,Vr ha,if_true,run_sizeOf hn,loadCells,h1,Array.empty_append]
 | false =>
  simp only [cond_false] at hy
  cases cs with
  | nil=>cases hy
  | cons x xs =>
   cases hy
   cases hr with
   | cons h1 h2 =>
    rename_i v vs
    refine ⟨v,h1,fun w' hc => ?_⟩
    have h3:=hc 0 v rfl
    simp only [Nat.add_zero] at h3
    simp only [Instr.loadAt,Instr.sureAddr,Sem.run_bind,Sem.run_pure,Result.andThen_ok,loadVar,Vr ha,Bool.false_eq_true,if_false]
    simp [load,Sem.run,h3]
theorem qoL {o:Oper} {Q:Act→World→Prop} (h:Yl P o a w Q):o.wp P a w (fun a' w'=>Q a' w'∧∀ t,o.dst≠some t→a'.eval (.tmp t)=a.eval (.tmp t)) Mix.bot:=by
 refine Mix.ZX (Mix.Zt (fun d v w' h2=>⟨h2,fun t ht => ?_⟩) (Mix.Jh h))
 unfold Mix.y7
 cases d with
 | none=>exact Act.eval_put fun d' hd' e'=>by cases e'; exact ht hd'
 | some q =>
  show (({ a with defers:=q::a.defers }:Act).put o.dst v).eval (.tmp t)=_
  rw [Act.eval_put (a := { a with defers:=q::a.defers }) fun d' hd' e'=>by cases e'; exact ht hd']
  rfl
theorem qnY {ops:List Oper} {o:Oper} {K:List (Nat×V)→St→Prop} (h:Sim c N s a w) (p:qa9 c0 H0 w0 old c a w) (hk:Zi o.op=false∧aop P N ops o s (fun s'=>Xi H0 s'.H∧K (yw o.dst old) s')) :
  (Mix.vT o=true→o.wp P a w (fun a' w'=>JY c0 H0 w0 w'∧YP c0 H0 w0 N K a' w') Mix.bot)∧(Mix.vT o=false→∃ v,(∀ w',JY c0 H0 w0 w'→(execOp a.eval o).run P w' = .ok (.value v) w')∧YP c0 H0 w0 N K (a.put o.dst v) w):=by
 obtain ⟨hm,ha⟩:=hk
 have hd:=qgb h ha
 unfold Does at hd
 have lift:∀ (a':Act) (w':World),Post c w N (fun s'=>Xi H0 s'.H∧K (yw o.dst old) s') a' w'→(∀ t,o.dst≠some t→a'.eval (.tmp t)=a.eval (.tmp t))→JY c0 H0 w0 w'∧YP c0 H0 w0 N K a' w':=fun a' w' hp ht=>by
  obtain ⟨c',s',k1,k2,k3,k4⟩:=hp
  have hx:=p.ext.trans k2
  have hj:=JY.next p.inv k1 hx k3
  exact ⟨hj,c',s',_,k1,⟨p.inv,hx,hj,fun q hq=>by
   obtain ⟨q1,q2⟩:=qkg hq
   rw [ht _ q1]
   exact p.vals q q2⟩,k4⟩
 by_cases he:Mix.vT o=true
 ·rw [if_pos he] at hd
  refine ⟨fun _ => ?_,fun e=>by rw [he] at e; cases e⟩
  exact Oper.wp_mono (fun a' w' h2=>lift a' w' h2.1 h2.2) (qoL hd)
 ·rw [if_neg he] at hd
  refine ⟨fun e=>absurd e he,fun _ => ?_⟩
  obtain ⟨v,r1,hp⟩:=hd
  exact ⟨v,fun w' _=>r1 w' (fun e=>by rw [hm] at e; cases e),(lift _ _ hp fun t ht=>Act.eval_put fun d' hd' e'=>by cases e'; exact ht hd').2⟩
theorem qlt {ops:List Oper} {o:Oper} {K:List (Nat×V)→St→Prop} (h:Sim c N s a w) (p:qa9 c0 H0 w0 old c a w) (hk:yop P N ops H0 o old s K) :
  (Mix.vT o=true→o.wp P a w (fun a' w'=>JY c0 H0 w0 w'∧YP c0 H0 w0 N K a' w') Mix.bot)∧(Mix.vT o=false→∃ v,(∀ w',JY c0 H0 w0 w'→(execOp a.eval o).run P w' = .ok (.value v) w')∧YP c0 H0 w0 N K (a.put o.dst v) w):=by
 unfold yop at hk
 split at hk
 ·rename_i t x ho
  refine ⟨fun he=>by simp [Mix.vT,ho] at he,fun _ => ?_⟩
  unfold Qq at hk
  split at hk
  ·rename_i id off agg n hx ha hn
   cases hid:H0[id]? with
   | none=>rw [hid] at hk; exact hk.elim
   | some blk =>
    by_cases hck:∃ cs,blk = .cells cs
    rotate_left
    ·rw [hid] at hk; cases blk <;> first | exact absurd ⟨_,rfl⟩ hck | exact hk.elim
    obtain ⟨ks,rfl⟩:=hck
    rw [hid] at hk
    obtain ⟨hex,hk⟩:=hk
    split at hk
    ·rename_i y hl
     have h0:Sim c0 N ⟨[],H0⟩ a w0:=⟨p.inv,h.size,h.defers,fun t x hx=>by cases hx⟩
     have hq:=p.look hx
     have hc:zY ⟨[],H0⟩ (.v (.ptr id off))=some (jU (ks.drop off)):=by simp [zY,hid]
     obtain ⟨b,off',vs,e1,r1,r2,_⟩:=qbL (r := .slot 0) (p := .v (.ptr id off)) h0 hq hc
     obtain ⟨v,r3,r4⟩:=qg7 (P:=P) (b:=b) (off:=off') ha hn r1 hl
     have hb:c0.φ[id]? = some b:=by
      generalize a.eval x=u at hq e1
      subst e1
      cases hq with
      | ptr hb=>exact hb
     refine ⟨v,fun w' hw => ?_,qeb h p hk (fun d _=>Rel.mono p.ext.imm p.ext.phi r3) (fun z' hz=>by cases hz; exact r3)⟩
     unfold execOp
     simp only [ho,e1,Sem.run_bind,r4 w' (fun j u hu=>hw.2 id b ks _ u hb hid hex (r2 j u hu)),Result.andThen_ok,Sem.run_pure]
    ·exact hk.elim
  ·rename_i cs agg n hx ha hn
   split at hk
   ·rename_i y hl
    have hq:=p.look hx
    generalize hv:a.eval x=u at hq
    cases hq with
    | rd r1 r2 r5 =>
     rename_i vs b off
     obtain ⟨v,r3,r4⟩:=qg7 (P:=P) (b:=b) (off:=off) ha hn r1 hl
     refine ⟨v,fun w' hw => ?_,qeb h p hk (fun d _=>Rel.mono p.ext.imm p.ext.phi r3) (fun z' hz=>by cases hz; exact r3)⟩
     unfold execOp
     simp only [ho,hv,Sem.run_bind,r4 w' (fun j u hu=>hw.1 _ _ u (r2 j u hu)),Result.andThen_ok,Sem.run_pure]
   ·exact hk.elim
  ·exact hk.elim
 ·rename_i x ho
  refine ⟨fun he=>by simp [Mix.vT,ho] at he,fun _ => ?_⟩
  cases hx:zZ s x with
  | none=>rw [hx] at hk; exact hk.elim
  | some y =>
   rw [hx] at hk
   exact ⟨a.eval x,fun w' _=>by unfold execOp; simp only [ho,Sem.run_pure],qeb h p hk (fun d _=>vD h hx) fun z' hz=>p.look hz⟩
 ·rename_i x ho
  split at hk
  ·rename_i id off hx
   refine ⟨fun he=>by simp [Mix.vT,ho] at he,fun _ => ?_⟩
   have hr:=vD h hx
   refine ⟨a.eval x,fun w' _ => ?_,qeb h p hk (fun d _=>hr) fun z' hz=>p.look hz⟩
   generalize hv:a.eval x=v at hr
   cases hr with
   | ptr hb =>
    unfold execOp
    simp only [ho,hv,Sem.run_pure]
  ·rename_i cs hx
   refine ⟨fun he=>by simp [Mix.vT,ho] at he,fun _ => ?_⟩
   have hr:=vD h hx
   refine ⟨a.eval x,fun w' _ => ?_,qeb h p hk (fun d _=>hr) fun z' hz=>p.look hz⟩
   generalize hv:a.eval x=v at hr
   cases hr with
   | rd h1 h2 h3 =>
    unfold execOp
    simp only [ho,hv,Sem.run_pure]
  ·exact qnY h p hk
 ·rename_i t x f ho
  refine ⟨fun he=>by simp [Mix.vT,ho] at he,fun _ => ?_⟩
  unfold yh at hk
  split at hk
  ·rename_i q n hx hf
   cases hs:shift (.v q) n with
   | none=>rw [hs] at hk; exact hk.elim
   | some y =>
    rw [hs] at hk
    have hq:=vD h hx
    obtain ⟨b,off,e1,e2⟩:=qbp (w:=w) (r := .slot 0) (x := .v q) hq hs
    refine ⟨.pointer (some ⟨b,off+n,none⟩),fun w' _ => ?_,?_⟩
    ·unfold execOp
     simp only [ho,e1,qg8 hf,Sem.run_bind,Result.andThen_ok,Sem.run_pure]
    ·cases hol:Zb old x with
     | none =>
      rw [hol] at hk
      exact qbj h p hk (fun d _=>e2 _)
     | some q' =>
      rw [hol] at hk
      simp only at hk
      cases hs':shift (.v q') n with
      | none=>rw [hs'] at hk; exact qbj h p hk (fun d _=>e2 _)
      | some y' =>
       rw [hs'] at hk
       cases y' with
       | v z =>
        refine qeb h p hk (fun d _=>e2 _) fun z' hz => ?_
        cases hz
        obtain ⟨b',off',f1,f2⟩:=qbp (c:=c0) (w:=w0) (r := .slot 0) (x := .v q') (p.look hol) hs'
        rw [e1] at f1
        cases f1
        exact f2 (.slot 0)
       | _=>exact qbj h p hk (fun d _=>e2 _)
  ·exact hk.elim
 ·rename_i t x ix ho
  refine ⟨fun he=>by simp [Mix.vT,ho] at he,fun _ => ?_⟩
  unfold yg at hk
  split at hk
  ·rename_i n sz cs kd i e hx hi hu
   obtain ⟨h1,⟨h2,h3⟩,hk⟩:=hk
   have hix:a.eval ix = .int kd i:=Rel.exact (vD h hi) rfl
   have hr:=vD h hx
   have mk:∀ {I:Nat→Nat→Option Value} {φ:List Nat} {b off len cap sz' n':Nat} {cs':List V},Rel I φ (.sl n' sz' cs') (.slice (some ⟨b,off,none⟩) len cap)→n'=n→sz'=sz→Rel I φ (.rd (rowAt sz cs' i)) (.pointer (some ⟨b,off+i.toNat*sz,none⟩)):=by
    intro I φ b off len cap sz' n' cs' hq hn' hsz'
    clear hr hk hx h1
    subst hn' hsz'
    cases hq with
    | sl r1 r2 r3 r4 r5 r6 =>
     refine Rel.rd ((r1.drop _).take _) (fun j u hu => ?_) (fun u hu=>r6 u (List.mem_of_mem_drop (List.mem_of_mem_take hu)))
     rw [List.getElem?_take] at hu
     split at hu
     ·rw [List.getElem?_drop] at hu
      rw [Nat.add_assoc]
      exact r2 _ u hu
     ·cases hu
    | sl0=>omega
   obtain ⟨b,off,cap,hv⟩:∃ b off cap,a.eval x = .slice (some ⟨b,off,none⟩) n cap:=by
    clear mk
    revert hr
    generalize a.eval x=v
    intro hr
    cases hr with
    | sl r1 r2 r3 r4 r5 r6=>exact ⟨_,_,_,rfl⟩
    | sl0=>omega
   refine ⟨.pointer (some ⟨b,off+i.toNat*sz,none⟩),fun w' _ => ?_,?_⟩
   ·unfold execOp
    simp only [ho,hv,hix,Sem.run_bind,run_indexAt hu h1 h2 h3,Result.andThen_ok,Sem.run_pure]
   ·have hs1:∀ d,o.dst=some d→QF c w (.slot d) (.v (.rd (rowAt sz cs i))) (.pointer (some ⟨b,off+i.toNat*sz,none⟩)):=fun d _=>mk (hv▸hr) rfl rfl
    cases hol:Zb old x with
    | none=>rw [hol] at hk; exact qbj h p hk hs1
    | some q =>
     rw [hol] at hk
     cases q with
     | sl m sz' cs' =>
      simp only at hk
      cases hd:(decide (m=n)&&decide (sz'=sz)) with
      | false=>rw [hd] at hk; exact qbj h p hk hs1
      | true =>
       rw [hd] at hk
       simp only [Bool.and_eq_true,decide_eq_true_eq] at hd
       refine qeb h p hk hs1 fun z' hz => ?_
       cases hz
       exact mk (hv▸p.look hol) hd.1 hd.2
     | _=>exact qbj h p hk hs1
  ·exact hk.elim
 ·rename_i args ts ho
  refine ⟨fun he=>by simp [Mix.vT,ho] at he,fun _ => ?_⟩
  unfold ZG at hk
  split at hk
  ·rename_i x t e1 e2
   have e1:args = #[x]:=Array.toList_inj.1 e1
   have e2:ts = #[t]:=Array.toList_inj.1 e2
   subst e1 e2
   split at hk
   ·rename_i q e hx hu
    cases hl:Zn (.v q) with
    | none=>rw [hl] at hk; exact hk.elim
    | some n =>
     rw [hl] at hk
     obtain ⟨pp,cap,hv⟩:=qf3 (w:=w) (r := .slot 0) (x := .v q) (vD h hx) hl
     refine ⟨.int .i64 n,fun w' _ => ?_,qbj h p hk (fun d _=>Rel.sc _)⟩
     unfold execOp
     simp only [ho,resolve,Sem.run_bind,Sem.run_pure,Result.andThen_ok,invoke,builtin,List.map_toArray,List.map_cons,List.map_nil,hv,Builtin.len_]
     simp [qX hu,goInt]
   ·exact hk.elim
  ·exact hk.elim
 ·exact qnY h p hk
theorem qbo {ops:Array Oper} {Q:Exit→Act→World→Prop} {K:St→Prop}:∀ {l:List Oper} {s:St} {c:Cx} {a:Act} {w:World} {old:List (Nat×V)},Sim c N s a w→qa9 c0 H0 w0 old c a w→qca P N ops.toList H0 l K old s→(∀ c' s' a' w',Sim c' N s' a' w'→Ext c0 w0 c' w'→K s'→Q .normal a' w') →
  Mix.walk P ops (fun _ w'=>JY c0 H0 w0 w') (fun w'=>JY c0 H0 w0 w') Q l a w
 | [],s,c,a,w,old,h,p,hk,hq=>hq c s a w h p.ext hk
 | o::l,s,c,a,w,old,h,p,hk,hq=>by
  have cases':(∃ s1:St,Sim c N s1 a w∧Region.wanted o (yielded ops a.tmps)=true∧yop P N ops.toList H0 o old s1 (qca P N ops.toList H0 l K)) ∨
    (∃ s1:St,Sim c N s1 a w∧Region.wanted o (yielded ops a.tmps)=false∧jR N o.dst (.v (.tup [])) s1 (qca P N ops.toList H0 l K (yw o.dst old))):=by
   unfold qca at hk
   cases hg:o.guard with
   | none=>rw [hg] at hk; exact .inl ⟨s,h,by simp [Region.wanted,hg],hk⟩
   | some q =>
    obtain ⟨j,want⟩:=q
    rw [hg] at hk
    simp only at hk
    cases hd:(ops.toList[j]?).bind (·.dst) with
    | none=>rw [hd] at hk; exact hk.elim
    | some t =>
     rw [hd] at hk
     simp only at hk
     have hd':(ops[j]?).bind (·.dst)=some t:=by simpa using hd
     split at hk
     ·rename_i b hb
      obtain ⟨v,hv,hr⟩:=h.fr t _ (QO hb)
      have e:v = .bool b:=Rel.exact hr rfl
      subst e
      have hy:=Xt hd' hv
      cases hbw:b==want with
      | true =>
       have e:b=want:=by simpa using hbw
       subst e
       exact .inl ⟨_,h.lit hb,by simp [Region.wanted,hg,hy,qaB],hk.1 rfl⟩
      | false =>
       have e:b = !want:=by cases b <;> cases want <;> simp_all
       subst e
       exact .inr ⟨_,h.lit hb,by simp [Region.wanted,hg,hy,qaB],hk.2 rfl⟩
     ·rename_i hb
      obtain ⟨v,hv,hr⟩:=h.fr t _ (QO hb)
      have e:v = .tuple #[]:=Rel.exact hr rfl
      subst e
      have hy:=Xt hd' hv
      exact .inr ⟨s,h,by simp [Region.wanted,hg,hy,qaB],hk⟩
     ·exact hk.elim
  unfold Mix.walk
  rcases cases' with ⟨s1,h,hw,hk⟩ | ⟨s1,h,hw,hk⟩
  ·obtain ⟨d1,d2⟩:=qlt h p hk
   by_cases he:Mix.vT o=true
   ·rw [if_pos he]
    refine wpList_step fun K' hK' => ?_
    rw [if_pos hw]
    refine Mix.ZX (Mix.Zt (fun d v w' h2 => ?_) (Mix.Jh (d1 he)))
    obtain ⟨g1,c',s',old',k1,k2,k3⟩:=h2
    exact hK' _ _ (wpList_nil ⟨g1,qbo k1 k2 k3 hq⟩)
   ·rw [if_neg he]
    have he':Mix.vT o=false:=by simpa using he
    obtain ⟨v,hv,c',s',old',k1,k2,k3⟩:=d2 he'
    refine wpQuiet_step fun K' hK' => ?_
    rw [if_pos hw]
    refine ⟨v,fun w' hw' => ?_,hK' _ (wpQuiet_nil (qbo k1 k2 k3 hq))⟩
    unfold Oper.quietAt
    rw [hv w' hw']
    exact ⟨rfl,rfl⟩
  ·obtain ⟨c',s',old',k1,k2,k3⟩:=qbj (v:=undef) h p hk (fun _ _=>Rel.tup (vs := #[]) .nil)
   have h4:=qbo k1 k2 k3 hq
   by_cases he:Mix.vT o=true
   ·rw [if_pos he]
    refine wpList_step fun K' hK' => ?_
    rw [if_neg (by rw [hw]; simp)]
    exact hK' _ _ (wpList_nil ⟨k2.j,h4⟩)
   ·rw [if_neg he]
    refine wpQuiet_step fun K' hK' => ?_
    rw [if_neg (by rw [hw]; simp)]
    exact hK' _ (wpQuiet_nil h4)
theorem qfV {F:Fr}:∀ {ts:List Nat} {q:Nat×V},q∈Q8 F ts→qm q.1 F=some (.v q.2)
 | [],q,h=>by cases h
 | t::ts,q,h=>by
  unfold Q8 at h
  split at h
  ·rename_i y hy
   rcases List.mem_cons.1 h with rfl | h
   ·exact hy
   ·exact qfV h
  ·exact qfV h
theorem AW.regionY {id k:Nat} {ops:Array Oper} {F:Fr} {H:List Bk} {Q:Exit→St→Prop} (ts:List Nat) (hm:P.follows .mixedOrders=true) (hk:k≤ops.size) (ho:Mix.qeS k ops=true)
  (h:qca P N ops.toList H (ops.toList.take k) (YB P N ops.toList (ops.toList.drop k) (Q .normal)) (Q8 F ts) ⟨F,H⟩):AW P N (.region id ops true) Q ⟨F,H⟩:=fun c a w hs=>by
 have hs':=hs.drew
 have p:qa9 c H w.drew (Q8 F ts) c a w.drew:=⟨hs'.inv,Ext.refl c _,JY.start hs'.inv,fun q hq=>by
  obtain ⟨v,hv,hr⟩:=hs'.fr q.1 _ (QO (qfV hq))
  have:a.eval (.tmp q.1)=v:=by simp [Act.eval,hv]
  rw [this]
  exact hr⟩
 have h1:=qbo (ops:=ops) (Q:=Mix.qmm (Mix.walk P ops Agree (fun _=>True) (qcx c w N Q) (ops.toList.drop k))) (K:=YB P N ops.toList (ops.toList.drop k) (Q .normal)) hs' p h fun c' s' a' w' k1 k2 k3 =>
  qaC (ops:=ops) k1 k3 fun a2 w2 h2=>Post.step ((Ext.drew c w).trans k2) h2
 have e:ops=(ops.toList.take k++ops.toList.drop k).toArray:=by simp
 have h2:=Mix.qdQ (P:=P) (C1:=fun _ w'=>JY c H w.drew w') (J1:=fun w'=>JY c H w.drew w') (C2:=Agree) (id:=id) (pre:=ops.toList.take k) (post:=ops.toList.drop k) (Q:=qcx c w N Q) (a:=a) (w:=w) (fun _ h=>h) (fun w=>Agree.refl w) (fun _ _=>Iff.rfl) hm (by
  rw [← e,List.length_take]; simpa [Nat.min_eq_left hk] using ho) (JY.start hs'.inv) (by rw [← e]; exact h1)
 rw [← e] at h2
 exact h2
end
def QX:List (Nat×Nat×List Nat)→Nat→Option (Nat×List Nat)
 | [],_=>none
 | (i,k)::l,id=>bif i==id then some k else QX l id
def awx (P:Program) (N:Nat) (bad:List (Nat×Nat×List Nat)):Code→(Exit→St→Prop)→St→Prop
 | .skip,Q,s=>Q .normal s
 | .region id ops draw,Q,s=>match draw,QX bad id with
  | true,some k=>qca P N ops.toList s.H (ops.toList.take k.1) (YB P N ops.toList (ops.toList.drop k.1) (Q .normal)) (Q8 s.F k.2) s
  | _,_=>YB P N ops.toList ops.toList (Q .normal) s
 | .seq x y,Q,s=>awx P N bad x (QY (awx P N bad y Q) Q) s
 | .cond x t f,Q,s=>match Q5 s x with
  | some b=>(b=true→awx P N bad t Q s)∧(b=false→awx P N bad f Q s)
  | none=>False
 | .block id body,Q,s=>awx P N bad body (jV id Q) s
 | .loop body,Q,s=>AW P N (.loop body) Q s
 | .exit id,Q,s=>Q (.exit id) s
 | .label _,Q,s=>Q .normal s
 | .ret,Q,s=>Q .ret s
 | _,_,_=>False
def okx (bad:List (Nat×Nat×List Nat)):Code→Bool
 | .region id ops draw => !draw||(match QX bad id with
  | some k=>Nat.ble k.1 ops.size&&Mix.qeS k.1 ops
  | none=>Mix.qjR 1 ops)
 | .seq x y=>okx bad x&&okx bad y
 | .cond _ x y=>okx bad x&&okx bad y
 | .block _ x=>okx bad x
 | .loop x=>okx bad x
 | _=>true
theorem qgV {P:Program} {N:Nat} {bad:List (Nat×Nat×List Nat)} (hm:P.follows .mixedOrders=true):∀ {code:Code} {Q:Exit→St→Prop} {s:St},okx bad code=true→awx P N bad code Q s→AW P N code Q s:=by
 intro code
 induction code with
 | skip=>exact fun _ hk=>AW.of hm rfl hk
 | region id ops draw =>
  intro Q s ho hk
  cases draw with
  | false=>exact AW.of hm rfl hk
  | true =>
   unfold awx at hk
   simp only [okx,Bool.not_true,Bool.false_or] at ho
   cases hb:QX bad id with
   | some k =>
    rw [hb] at ho hk
    simp only [Bool.and_eq_true] at ho
    exact AW.regionY (F:=s.F) (H:=s.H) k.2 hm (Nat.le_of_ble_eq_true ho.1) ho.2 hk
   | none =>
    rw [hb] at ho hk
    exact AW.of hm (by simpa [okc] using ho) hk
 | seq x y ihx ihy =>
  intro Q s ho hk
  simp only [okx,Bool.and_eq_true] at ho
  refine AW.seq ((ihx ho.1 hk).mono fun e s' he => ?_)
  cases e with
  | normal=>exact ihy ho.2 he
  | _=>exact he
 | cond x t f iht ihf =>
  intro Q s ho hk
  simp only [okx,Bool.and_eq_true] at ho
  unfold awx at hk
  cases hb:Q5 s x with
  | none=>rw [hb] at hk; exact hk.elim
  | some b =>
   rw [hb] at hk
   exact AW.cond (F:=s.F) (H:=s.H) b hb (fun e=>iht ho.1 (hk.1 e)) (fun e=>ihf ho.2 (hk.2 e))
 | block id body ih =>
  intro Q s ho hk
  exact AW.block (ih ho hk)
 | loop body ih=>exact fun _ hk=>hk
 | exit id=>exact fun _ hk=>AW.of hm rfl hk
 | label l=>exact fun _ hk=>AW.of hm rfl hk
 | ret=>exact fun _ hk=>AW.of hm rfl hk
 | _=>exact fun _ hk=>hk.elim
theorem AW.ofx {P:Program} {N:Nat} {x:Code} {Q:Exit→St→Prop} {s:St} (bad:List (Nat×Nat×List Nat)) (hm:P.follows .mixedOrders=true) (ho:okx bad x=true) (h:awx P N bad x Q s):AW P N x Q s:=qgV hm ho h
section
variable {P:Program} {N:Nat} {bad:List (Nat×Nat×List Nat)} {F:Fr} {H:List Bk} {Q:Exit→St→Prop} {c c':Code} {x:Operand} {id:Nat} {draw:Bool} {arr:Array Oper}
theorem zk:awx P N bad .skip Q ⟨F,H⟩=Q .normal ⟨F,H⟩:=rfl
theorem qH:awx P N bad (.region id arr draw) Q ⟨F,H⟩=if (draw&&(QX bad id).isSome)=true then qca P N arr.toList H (arr.toList.take ((QX bad id).getD (0,[])).1) (YB P N arr.toList (arr.toList.drop ((QX bad id).getD (0,[])).1) (Q .normal)) (Q8 F ((QX bad id).getD (0,[])).2) ⟨F,H⟩ else YB P N arr.toList arr.toList (Q .normal) ⟨F,H⟩:=by
 show (match draw,QX bad id with
  | true,some k=>qca P N arr.toList H (arr.toList.take k.1) (YB P N arr.toList (arr.toList.drop k.1) (Q .normal)) (Q8 F k.2) ⟨F,H⟩
  | _,_=>YB P N arr.toList arr.toList (Q .normal) ⟨F,H⟩)=_
 cases draw <;> cases QX bad id <;> rfl
theorem zO:awx P N bad (.seq c c') Q ⟨F,H⟩=awx P N bad c (QY (awx P N bad c' Q) Q) ⟨F,H⟩:=rfl
theorem zn:awx P N bad (.cond x c c') Q ⟨F,H⟩=match Q5 ⟨F,H⟩ x with
  | some b=>gd b true (awx P N bad c Q ⟨F,H⟩) (awx P N bad c' Q ⟨F,H⟩)
  | none=>False:=rfl
theorem qR:awx P N bad (.block id c) Q ⟨F,H⟩=awx P N bad c (jV id Q) ⟨F,H⟩:=rfl
theorem zl:awx P N bad (.loop c) Q ⟨F,H⟩=AW P N (.loop c) Q ⟨F,H⟩:=rfl
theorem zm:awx P N bad (.exit id) Q ⟨F,H⟩=Q (.exit id) ⟨F,H⟩:=rfl
theorem qQ:awx P N bad (.label id) Q ⟨F,H⟩=Q .normal ⟨F,H⟩:=rfl
theorem zP:awx P N bad .ret Q ⟨F,H⟩=Q .ret ⟨F,H⟩:=rfl
end
def qW:SV→Prop
 | .v (.sl n _ cs)=>n=0∧cs = []
 | .v (.fs n _ cs)=>n=0∧cs = []
 | .own _ _ n sz cs=>n=0∧cs = []∧0<sz
 | _=>False
def WV (y x:SV):Prop:=∃ y' x',y = .v y'∧x = .v x'∧∀ I φ v,Rel I φ y' v→Rel I φ x' v
theorem WV.of {y x:V} (h:∀ I φ v,Rel I φ y v→Rel I φ x v):WV (.v y) (.v x):=⟨y,x,rfl,rfl,h⟩
def qj (y x:SV):Prop:=y=x∨(y = .v .nil∧qW x)∨WV y x
def qz:Fr→Fr→Prop
 | [],_=>True
 | (t,x)::F0,F=>(match qm t F with
  | some y=>qj y x
  | none=>False)∧qz F0 F
theorem qdO {c:Cx} {w:World} {r:Root} {x:SV} {v:Value} (h:qW x) (hv:QF c w r (.v .nil) v):QF c w r x v:=by
 have e:v = .slice none 0 0:=Rel.exact hv rfl
 subst e
 unfold qW at h
 split at h
 ·obtain ⟨rfl,rfl⟩:=h
  exact Rel.sl0
 ·obtain ⟨rfl,rfl⟩:=h
  exact Rel.fs0
 ·obtain ⟨rfl,rfl,h⟩:=h
  exact qcn h
 ·exact h.elim
theorem Sim.weak {c:Cx} {N:Nat} {F H} {a:Act} {w:World}:∀ {F0:Fr},qz F0 F→Sim c N ⟨F,H⟩ a w→Sim c N ⟨F0,H⟩ a w:=fun {F0} h hs=>by
 refine ⟨hs.inv,hs.size,hs.defers,?_⟩
 have hf:=hs.fr
 simp only at hf ⊢
 clear hs
 induction F0 with
 | nil=>intro t x hx; cases hx
 | cons p F0 ih =>
  obtain ⟨t0,x0⟩:=p
  intro t x hx
  rcases List.mem_cons.1 hx with e | hx
  ·obtain ⟨rfl,rfl⟩:=Prod.mk.inj e
   have h1:=h.1
   cases hg:qm t F with
   | none=>rw [hg] at h1; exact h1.elim
   | some y =>
    rw [hg] at h1
    obtain ⟨v,hv,hr⟩:=hf t y (QO hg)
    rcases h1 with rfl | ⟨rfl,hz⟩ | ⟨y',x',rfl,rfl,hw⟩
    ·exact ⟨v,hv,hr⟩
    ·exact ⟨v,hv,qdO hz hr⟩
    ·exact ⟨v,hv,hw _ _ _ hr⟩
  ·exact ih h.2 t x hx
theorem AW.weak {P:Program} {N:Nat} {F:Fr} {H:List Bk} {x:Code} {Q:Exit→St→Prop} (F0:Fr) (h0:qz F0 F) (h:AW P N x Q ⟨F0,H⟩):AW P N x Q ⟨F,H⟩:=fun c a w hs=>h c a w (Sim.weak h0 hs)
theorem AW.qaZ {P:Program} {N:Nat} {Q:Exit→St→Prop} {F:Fr} {H:List Bk} {x:Code} (R:Nat→Fr→List Bk→Prop) (h0:∃ n F0,qz F0 F∧R n F0 H) (round:∀ n F H,R n F H→AW P N x (QY (fun s'=>∃ m F1,m<n∧qz F1 s'.F∧R m F1 s'.H) Q) ⟨F,H⟩):AW P N (.loop x) Q ⟨F,H⟩:=fun c a w hs=>by
 obtain ⟨n,F0,h1,h2⟩:=h0
 refine qku (fun n a' w'=>∃ c' F' H',Sim c' N ⟨F',H'⟩ a' w'∧Ext c w c' w'∧R n F' H') ⟨n,c,F0,H,hs.weak h1,Ext.refl c w,h2⟩ fun n a1 w1 h1 => ?_
 obtain ⟨c1,F1,H1,k1,k2,k3⟩:=h1
 refine wp_mono (round n F1 H1 k3 c1 a1 w1 k1) fun e a2 w2 he => ?_
 obtain ⟨c2,s2,l1,l2,l3⟩:=he
 cases e with
 | normal =>
  obtain ⟨m,F3,hm,hsub,hR⟩:=l3
  exact ⟨m,hm,c2,F3,s2.H,Sim.weak (F:=s2.F) hsub l1,k2.trans l2,hR⟩
 | _=>exact ⟨c2,s2,l1,k2.trans l2,l3⟩
theorem AW.count {P:Program} {N:Nat} {Q:Exit→St→Prop} {F:Fr} {H:List Bk} {x:Code} (n:Nat) (R:Nat→Fr→List Bk→Prop) (h0:∃ F0,qz F0 F∧R 0 F0 H)
  (round:∀ k F H,k≤n→R k F H→AW P N x (QY (fun s'=>k<n∧∃ F1,qz F1 s'.F∧R (k+1) F1 s'.H) Q) ⟨F,H⟩):AW P N (.loop x) Q ⟨F,H⟩:=by
 obtain ⟨F0,h1,h2⟩:=h0
 refine AW.qaZ (fun m F H=>∃ k,k≤n∧m=n - k∧R k F H) ⟨n,F0,h1,0,Nat.zero_le _,by omega,h2⟩ ?_
 rintro m F H ⟨k,hk,rfl,hR⟩
 refine (round k F H hk hR).mono fun e s he => ?_
 cases e with
 | normal =>
  obtain ⟨hlt,F1,g1,g2⟩:=he
  exact ⟨n - (k+1),F1,by omega,g1,k+1,by omega,rfl,g2⟩
 | _=>exact he
def JW (xs ys:List V):Prop:=∀ I φ vs,vM I φ xs vs→vM I φ ys vs
theorem AFn.weak {P:Program} {f:FuncId} {xs ys:List V} {H:List Bk} {Q:V→List Bk→Prop} (h:AFn P f ys H Q) (hw:JW xs ys):AFn P f xs H Q:=⟨h.1,fun c w vs hi hs hr=>h.2 c w vs hi hs (hw _ _ _ hr)⟩
theorem JW.refl (xs:List V):JW xs xs:=fun _ _ _ h=>h
theorem JW.cons {x:V} {xs ys:List V} (h:JW xs ys):JW (x::xs) (x::ys):=fun I φ vs hr=>by
 cases hr with
 | cons h1 h2=>exact .cons h1 (h _ _ _ h2)
theorem JW.qgA {sz:Nat} {xs ys:List V} (h:JW xs ys):JW (.nil::xs) (.sl 0 sz []::ys):=fun I φ vs hr=>by
 cases hr with
 | cons h1 h2 =>
  have e:=Rel.exact h1 (rfl:V.nil.exact=some _)
  subst e
  exact .cons .sl0 (h _ _ _ h2)
def qkD (k:IntKind) (a b:Int):Int:=a.fdiv (2 ^ (min b.toNat k.bits))
def shlI (k:IntKind) (a b:Int):Int:=k.wrap (a*2 ^ (min b.toNat k.bits))
def andI (k:IntKind) (a b:Int):Int:=k.wrap ((BitVec.ofInt k.bits a &&& BitVec.ofInt k.bits b).toNat)
section
variable {P:Program} {t:TypeId} {x y:Operand} {k yk:IntKind} {a b:Int}
theorem Yi:XU P .quo t x y (.int k a) (.int k b)=if b=0 then none else some (.int k (k.wrap (a.tdiv b))):=by
 have e:XU P .quo t x y (.int k a) (.int k b)=idle P (if b=0 then Op.intDiv .quo k a b else Op.intDiv .quo k a b):=by cases k <;> simp <;> rfl
 rw [e]
 by_cases h:b=0
 ·subst h; rw [if_pos rfl]; rfl
 ·rw [if_neg h,if_neg h]; unfold Op.intDiv; rw [if_neg h]; rfl
theorem KH:XU P .rem t x y (.int k a) (.int k b)=if b=0 then none else some (.int k (a.tmod b)):=by
 have e:XU P .rem t x y (.int k a) (.int k b)=idle P (if b=0 then Op.intDiv .rem k a b else Op.intDiv .rem k a b):=by cases k <;> simp <;> rfl
 rw [e]
 by_cases h:b=0
 ·subst h; rw [if_pos rfl]; rfl
 ·rw [if_neg h,if_neg h]; unfold Op.intDiv; rw [if_neg h]; rfl
theorem qiX:XU P .shr t x y (.int k a) (.int yk b)=if b<0 then none else some (.int k (qkD k a b)):=by
 have e:XU P .shr t x y (.int k a) (.int yk b)=idle P (Op.shift .shr k a yk b):=rfl
 rw [e]
 unfold Op.shift
 by_cases h:b<0
 ·rw [if_pos h,if_pos h]; rfl
 ·rw [if_neg h,if_neg h]; rfl
theorem qiY:XU P .shl t x y (.int k a) (.int yk b)=if b<0 then none else some (.int k (shlI k a b)):=by
 have e:XU P .shl t x y (.int k a) (.int yk b)=idle P (Op.shift .shl k a yk b):=rfl
 rw [e]
 unfold Op.shift
 by_cases h:b<0
 ·rw [if_pos h,if_pos h]; rfl
 ·rw [if_neg h,if_neg h]; rfl
theorem binR_and:XU P .and t x y (.int k a) (.int k b)=some (.int k (andI k a b)):=by cases k <;> rfl
end
theorem wrap_u64 {n:Int} (h:0≤n) (h':n≤18446744073709551615):IntKind.u64.wrap n=n:=by
 unfold IntKind.wrap
 simp [IntKind.bits,IntKind.signed]
 omega
theorem qh3 {k:IntKind} (a b:Nat) (h:b≤k.bits):qkD k a b=((a/2 ^ b:Nat):Int):=by
 unfold qkD
 rw [Int.toNat_natCast,Nat.min_eq_left h,show ((2:Int) ^ b)=((2 ^ b:Nat):Int) by simp,Int.fdiv_eq_ediv_of_nonneg _ (Int.natCast_nonneg _)]
 exact (Int.natCast_ediv a (2 ^ b)).symm
theorem qlH (a b:Nat) (h:b≤64) (h':a*2 ^ b≤9223372036854775807):shlI .i64 a b=((a*2 ^ b:Nat):Int):=by
 unfold shlI
 rw [Int.toNat_natCast,Nat.min_eq_left (by simpa [IntKind.bits] using h),show ((a:Int)*2 ^ b)=((a*2 ^ b:Nat):Int) by simp]
 rw [wrap_i64] <;> omega
theorem bv_nat {n a:Nat}:(BitVec.ofInt n (a:Int))=BitVec.ofNat n a:=by simp
theorem andI_nat {k:IntKind} (a b:Nat) (hk:k = .i64∨k = .u64) (ha:a≤9223372036854775807) (hb:b≤9223372036854775807):andI k a b=((a &&& b:Nat):Int):=by
 have h1:a &&& b≤a:=Nat.and_le_left
 have e:(BitVec.ofInt 64 (a:Int) &&& BitVec.ofInt 64 (b:Int)).toNat=a &&& b:=by
  rw [bv_nat,bv_nat,BitVec.toNat_and,BitVec.toNat_ofNat,BitVec.toNat_ofNat,Nat.mod_eq_of_lt (by omega),Nat.mod_eq_of_lt (by omega)]
 rcases hk with rfl | rfl
 ·show IntKind.i64.wrap ((BitVec.ofInt 64 (a:Int) &&& BitVec.ofInt 64 (b:Int)).toNat)=_
  rw [e,wrap_i64] <;> omega
 ·show IntKind.u64.wrap ((BitVec.ofInt 64 (a:Int) &&& BitVec.ofInt 64 (b:Int)).toNat)=_
  rw [e,wrap_u64] <;> omega
def VK (d:Nat) (F:Fr):Fr:=F.filter fun p => !(p.1==d)
def JL (dst:Option Tmp) (y:Option SV) (F0:Fr):Fr:=match dst with
 | none=>F0
 | some d=>match y with
  | some y=>(d,y)::VK d F0
  | none=>VK d F0
def Vo (F0:Fr):Operand→Option SV
 | .tmp u=>match qm u F0 with
  | some (.own _ _ n _ _)=>some (.lnk (.slot u) n)
  | x=>x
 | _=>none
def z0 (P:Program) (F0:Fr) (s:St) (o:Oper):Option SV:=match o.op with
 | .move x=>Vo F0 x
 | .fieldAddr t x f=>match Vo F0 x,qC P t f with
  | some p,some n=>shift p n
  | _,_=>none
 | .indexAddr t x ix=>match Vo F0 x,zZ s ix,P.underlying t with
  | some (.v (.sl n sz cs)),some (.sc (.int _ i)),some (.slice e)=>if sizeT P e=some sz∧0≤i∧i<n then some (.v (.rd (rowAt sz cs i))) else none
  | some (.lnk r n),some (.sc (.int _ i)),some (.slice e)=>match sizeT P e with
   | some sz=>if 0≤i∧i<n then some (.pth r (i.toNat*sz)) else none
   | none=>none
  | some (.v (.slb id o n _)),some (.sc (.int _ i)),some (.slice e)=>match sizeT P e with
   | some sz=>if 0≤i∧i<n then some (.v (.ptr id (o+i.toNat*sz))) else none
   | none=>none
  | some p,some (.sc (.int _ i)),some (.array n e)=>match sizeT P e with
   | some sz=>if 0≤i∧i<n then shift p (i.toNat*sz) else none
   | none=>none
  | _,_,_=>none
 | .nilCheck x=>match Vo F0 x with
  | some (.v (.ptr id off))=>some (.v (.ptr id off))
  | _=>none
 | _=>none
def yF (N:Nat) (H0:List Bk) (dst:Option Tmp) (p:SV) (F0:Fr) (s:St) (K:Fr→St→Prop):Prop:=match p,dst with
 | .v (.ptr id off),some d=>match H0[id]?,s.H[id]? with
  | some (.cells ks),some (.cells ks')=>match ks[off]?,ks'[off]? with
   | some (.own _ _ n _ _),some (.own _ _ n' _ _)=>d<N∧K (JL (some d) (some (.lnk (.cell id off) n)) F0) ⟨vO d (.lnk (.cell id off) n') s.F,s.H⟩
   | _,_=>False
  | _,_=>False
 | _,_=>False
def Ja (P:Program) (N:Nat) (Fs:Fr) (H0:List Bk) (dst:Option Tmp) (t:TypeId) (x:Operand) (F0:Fr) (s:St) (K:Fr→St→Prop):Prop:=match Vo F0 x,yJ P t,sizeT P t with
 | some p,some agg,some n=>match zY ⟨Fs,H0⟩ p with
  | some cs=>match ldV agg n cs with
   | some y=>jR N dst (.v y) s (K (JL dst (some (.v y)) F0))
   | none=>bif agg then (match zA H0 p with
    | some cs=>match ldV true n cs with
     | some y=>jR N dst (.v y) s (K (JL dst (some (.v y)) F0))
     | none=>False
    | none=>False) else yF N H0 dst p F0 s K
  | none=>False
 | _,_,_=>False
section
variable {I:Nat→Nat→Option Value} {φ:List Nat}
mutual
theorem Rel.WK:∀ {x:V} {u:Value},x.exact=some u→Rel I φ x u
 | .sc v,u,h=>by cases h; exact .sc v
 | .agg cs,u,h=>by
  unfold V.exact at h
  cases hc:V.jg cs with
  | none=>rw [hc] at h; cases h
  | some l=>rw [hc] at h; cases h; exact .agg (vM.WK hc)
 | .tup cs,u,h=>by
  unfold V.exact at h
  cases hc:V.jg cs with
  | none=>rw [hc] at h; cases h
  | some l=>rw [hc] at h; cases h; exact .tup (vM.WK hc)
 | .nil,u,h=>by cases h; exact .nil
 | .iface t x,u,h=>by
  unfold V.exact at h
  cases hx:x.exact with
  | none=>rw [hx] at h; cases h
  | some v=>rw [hx] at h; cases h; exact .iface (Rel.WK hx)
 | .fn f first cap,u,h=>by
  unfold V.exact at h
  cases ha:V.jg first with
  | none=>rw [ha] at h; cases h
  | some a =>
   cases hb:V.jg cap with
   | none=>rw [ha,hb] at h; cases h
   | some b=>rw [ha,hb] at h; cases h; exact .fn (vM.WK ha) (vM.WK hb)
 | .sl ..,u,h=>by cases h
 | .rd ..,u,h=>by cases h
 | .ptr ..,u,h=>by cases h
 | .map ..,u,h=>by cases h
 | .fs ..,u,h=>by cases h
 | .slb ..,u,h=>by cases h
theorem vM.WK:∀ {xs:List V} {l:List Value},V.jg xs=some l→vM I φ xs l
 | [],l,h=>by cases h; exact .nil
 | x::xs,l,h=>by
  unfold V.jg at h
  cases hx:x.exact with
  | none=>rw [hx] at h; cases h
  | some v =>
   cases hl:V.jg xs with
   | none=>rw [hx,hl] at h; cases h
   | some l'=>rw [hx,hl] at h; cases h; exact .cons (Rel.WK hx) (vM.WK hl)
end
end
def qc8:List (Option V)→List Value→List V
 | some z::ms,_::us=>z::qc8 ms us
 | none::ms,u::us => .sc u::qc8 ms us
 | _,_ => []
theorem qkb:∀ {ms:List (Option V)} {us:List Value} {j:Nat} {u:Value},ms.length=us.length→us[j]? = some u→(qc8 ms us)[j]? = some (match ms[j]? with | some (some z)=>z | _ => .sc u)
 | [],[],j,u,_,h=>by simp at h
 | [],_::_,_,_,h,_=>by simp at h
 | _::_,[],_,_,h,_=>by simp at h
 | m::ms,w::us,j,u,hl,h=>by
  cases j with
  | zero =>
   simp at h
   subst h
   cases m <;> rfl
  | succ j =>
   have ih:=qkb (ms:=ms) (us:=us) (j:=j) (u:=u) (by simpa using hl) (by simpa using h)
   cases m <;> simpa [qc8] using ih
theorem qka:∀ {ms:List (Option V)} {us:List Value},ms.length=us.length→(qc8 ms us).length=us.length
 | [],[],_=>rfl
 | [],_::_,h=>by simp at h
 | _::_,[],h=>by simp at h
 | m::ms,w::us,hl=>by
  have ih:=qka (ms:=ms) (us:=us) (by simpa using hl)
  cases m <;> simpa [qc8] using ih
def qfu (H:List Bk) (id:Nat) (mask:List (Option V)):Prop:=∃ ks,H[id]? = some (.cells ks)∧mask.length≤ks.length∧∀ (j:Nat) (z:V),mask[j]? = some (some z)→ks[j]? = some (.v z)∧z.closed=true
def qfF (P:Program) (k:FuncId) (mask:List (Option V)) (xs:List V) (r:V):Prop:=∀ us:List Value,us.length=mask.length→PFn P k (.rd (qc8 mask us)::xs) r
def lookK (P:Program) (N:Nat) (dst:Option Tmp) (k:FuncId) (xs:List V) (F:Fr) (H:List Bk) (K:St→Prop):Prop:=match xs with
 | .ptr id 0::vs=>∃ mask r,qfF P k mask vs r∧V.qA vs=true∧r.exact.isSome=true∧qfu H id mask∧jR N dst (.v r) ⟨F,H⟩ K
 | _=>False
def qoJ (H:List Bk) (xs:List V) (Y:List V→Prop):Prop:=∀ (c:Cx) (w:World) (vs:List Value),Inv c H w→vM c.I c.φ xs vs→∃ ys,Y ys∧vM (fun b o=>w.cell? ⟨b,o,none⟩) [] ys vs
def qoF (P:Program) (k:FuncId) (Y:List V→Prop) (r:V):Prop:=Enters P k∧∀ ys,Y ys→PFn P k ys r
def seeK (P:Program) (N:Nat) (dst:Option Tmp) (k:FuncId) (xs:List V) (F:Fr) (H:List Bk) (K:St→Prop):Prop:=∃ Y r,qoF P k Y r∧qoJ H xs Y∧r.exact.isSome=true∧jR N dst (.v r) ⟨F,H⟩ K
def Zj (P:Program) (N:Nat) (dst:Option Tmp) (k:FuncId) (xs:List V) (F:Fr) (H:List Bk) (K:St→Prop):Prop:=xcallK P N dst k xs F H K∨lookK P N dst k xs F H K∨seeK P N dst k xs F H K
theorem Zj.look {P:Program} {N:Nat} {dst:Option Tmp} {k:FuncId} {id:Nat} {vs:List V} {F:Fr} {H:List Bk} {K:St→Prop} {r:V} {mask:List (Option V)} (h:qfF P k mask vs r) (hx:V.qA vs=true) (hr:r.exact.isSome=true) (hm:qfu H id mask) (hk:jR N dst (.v r) ⟨F,H⟩ K):Zj P N dst k (.ptr id 0::vs) F H K := .inr (.inl ⟨mask,r,h,hx,hr,hm,hk⟩)
theorem Zj.see {P:Program} {N:Nat} {dst:Option Tmp} {k:FuncId} {xs:List V} {F:Fr} {H:List Bk} {K:St→Prop} {r:V} {Y:List V→Prop} (h:qoF P k Y r) (hv:qoJ H xs Y) (hr:r.exact.isSome=true) (hk:jR N dst (.v r) ⟨F,H⟩ K):Zj P N dst k xs F H K := .inr (.inr ⟨Y,r,h,hv,hr,hk⟩)
theorem Sim.agree {c:Cx} {N:Nat} {s:St} {a:Act} {w w':World} (h:Sim c N s a w) (ha:Agree w w') (hs:w.heap.size≤w'.heap.size):Sim c N s a w':=by
 refine ⟨⟨fun b o v hv=>ha.cell (h.inv.imm b o v hv),h.inv.len,fun b hb=>Nat.lt_of_lt_of_le (h.inv.lt b hb) hs,h.inv.uniq,fun id b k hb hk => ?_⟩,h.size,h.defers,fun t x hx => ?_⟩
 ·obtain ⟨h1,h2,h3⟩:=h.inv.blk id b k hb hk
  have hlt:=h.inv.lt b (by rw [h1]; simp)
  refine ⟨h1,h2,?_⟩
  by_cases hck:∃ cs,k = .cells cs
  ·obtain ⟨cs,rfl⟩:=hck
   obtain ⟨arr,e,g1,g2,g6,g3⟩:=h3
   refine ⟨arr,e,(ha b hlt).trans g1,g2,g6,fun j x u hx hu=>⟨(g3 j x u hx hu).1,?_⟩⟩
   exact QF.mono (c:=c) (c':=c) (w:=w) (w':=w') (fun _ _ _ h=>h) (fun _ _ h=>h) (fun b' q _ hq=>by
    have:=h.inv.lt b' (by rw [hq]; simp)
    exact ⟨hq,ha b' this,fun _=>rfl⟩) (g3 j x u hx hu).2
  ·exact qac.stay (fun cs e=>hck ⟨cs,e⟩) h3 (fun _ _ _ h=>h) (fun _ _ h=>h) (fun b' o ho _=>(ha b' (XI ho)).trans ho)
 ·obtain ⟨u,hu,hr⟩:=h.fr t x hx
  refine ⟨u,hu,QF.mono (c:=c) (c':=c) (w:=w) (w':=w') (fun _ _ _ h=>h) (fun _ _ h=>h) (fun b' q _ hq => ?_) hr⟩
  have:=h.inv.lt b' (by rw [hq]; simp)
  exact ⟨hq,ha b' this,fun _=>rfl⟩
theorem look_run {P:Program} {c:Cx} {N:Nat} {F:Fr} {H:List Bk} {a:Act} {w:World} {k:FuncId} {mask:List (Option V)} {id:Nat} {vs:List V} {r:V} {us:List Value} {u0:Value} (h:Sim c N ⟨F,H⟩ a w) (hL:qfF P k mask vs r) (hx:V.qA vs=true) (he:r.exact=some u0) (hm:qfu H id mask) (hargs:vM c.I c.φ (.ptr id 0::vs) us) :
  Enters P k∧Calls P k us.toArray w fun e w'=>e = .returned u0∧Sim c N ⟨F,H⟩ a w'∧Ext c w c w'∧Agree w w':=by
 obtain ⟨ks,hk,hlen,hmz⟩:=hm
 cases hargs with
 | cons hp hvs =>
  cases hp with
  | @ptr _ _ b hb =>
   obtain ⟨h1,h2,arr,e,g1,g2,g6,g3⟩:=h.inv.blk id b _ hb hk
   let uu:=arr.toList.take mask.length
   have huu:uu.length=mask.length:=by
    have:arr.toList.length=ks.length:=by simpa using g2
    simp only [uu,List.length_take]
    omega
   let c0:Cx:=⟨fun b' o=>if b'=b then uu[o]? else c.I b' o,[],fun _ => .out⟩
   have hI:∀ b' o v,c.I b' o=some v→c0.I b' o=some v:=fun b' o v hv=>by
    have:b'≠b:=by rintro rfl; rw [h2] at hv; cases hv
    simp [c0,this,hv]
   have ucell:∀ (o:Nat) (v:Value),uu[o]? = some v→arr[o]? = some v:=fun o v hv=>by
    simp only [uu,List.getElem?_take] at hv
    split at hv
    ·simpa using hv
    ·cases hv
   have hi0:Inv c0 [] w:=⟨fun b' o v hv=>by
    simp only [c0] at hv
    split at hv
    ·rename_i e'
     subst e'
     simp [World.cell?,g1,ucell o v hv]
    ·exact h.inv.imm b' o v hv,rfl,fun b hb=>absurd rfl hb,fun b b' r hb=>(by cases hb),fun id b k hb=>(by simp [c0] at hb)⟩
   have hfill:vM c0.I c0.φ (qc8 mask uu) uu:=vM.qdo (qka huu.symm) fun j x v hx hv=>by
    have hg:=qkb (ms:=mask) (us:=uu) huu.symm hv
    rw [hg] at hx
    cases hx
    split
    ·rename_i z hz
     obtain ⟨q1,q2⟩:=hmz j z hz
     have hr:=(g3 j _ v q1 (ucell j v hv)).2
     exact Rel.closed (Rel.mono hI (fun _ _ h=>h) hr) q2
    ·exact .sc v
   have hrel:vM c0.I c0.φ (.rd (qc8 mask uu)::vs) (.pointer (some ⟨b,0,none⟩)::_) := .cons (.rd hfill (fun j u hu=>by simp [c0,hu]) (fun u hu=>g6 u (List.mem_of_mem_take hu))) (vM.closed (vM.mono hI (fun _ _ h=>h) hvs) hx)
   obtain ⟨hen,hcall⟩:=hL uu huu
   refine ⟨hen,(hcall c0 w _ hi0 (fun b t e=>by cases e) hrel).mono fun e' w' hq => ?_⟩
   obtain ⟨v,y,H1,c3,rfl,k1,k2,k3,k4,rfl⟩:=hq
   have ha:Agree w w':=fun b hb=>(k4.out b hb rfl).1
   have hs:=h.agree ha k4.size
   exact ⟨by rw [Rel.exact k1 he],hs,⟨k4.os,k4.tape,k4.output,k4.size,fun b hb hr=>⟨ha b hb,hr,fun _=>rfl⟩,fun _ _ _ h=>h,fun _ _ h=>h⟩,ha⟩
theorem see_run {P:Program} {c:Cx} {N:Nat} {F:Fr} {H:List Bk} {a:Act} {w:World} {k:FuncId} {Y:List V→Prop} {xs:List V} {r:V} {us:List Value} {u0:Value} (h:Sim c N ⟨F,H⟩ a w) (hL:qoF P k Y r) (hV:qoJ H xs Y) (he:r.exact=some u0) (hargs:vM c.I c.φ xs us) :
  Enters P k∧Calls P k us.toArray w fun e w'=>e = .returned u0∧Sim c N ⟨F,H⟩ a w'∧Ext c w c w'∧Agree w w':=by
 obtain ⟨ys,hY,hys⟩:=hV c w us h.inv hargs
 let c0:Cx:=⟨fun b o=>w.cell? ⟨b,o,none⟩,[],fun _ => .out⟩
 have hi0:Inv c0 [] w:=⟨fun b o v hv=>hv,rfl,fun b hb=>absurd rfl hb,fun b b' r hb=>(by cases hb),fun id b k hb=>(by simp [c0] at hb)⟩
 refine ⟨hL.1,((hL.2 ys hY).2 c0 w us hi0 (fun b t e=>by cases e) hys).mono fun e' w' hq => ?_⟩
 obtain ⟨v,y,H1,c3,rfl,k1,k2,k3,k4,rfl⟩:=hq
 have ha:Agree w w':=fun b hb=>(k4.out b hb rfl).1
 have hs:=h.agree ha k4.size
 exact ⟨by rw [Rel.exact k1 he],hs,⟨k4.os,k4.tape,k4.output,k4.size,fun b hb hr=>⟨ha b hb,hr,fun _=>rfl⟩,fun _ _ _ h=>h,fun _ _ h=>h⟩,ha⟩
def qnX (P:Program) (N:Nat) (dst:Option Tmp) (f:Operand) (args:List Operand) (F0:Fr) (s:St) (K:Fr→St→Prop):Prop:=match zZ s f,yX s args with
 | some (.fn (.func k) first cap),some vs=>Zj P N dst k (first++vs++cap) s.F s.H (K (JL dst none F0))
 | _,_=>False
def VU (N:Nat):Option Tmp→Bool
 | some d=>decide (d<N)
 | none=>true
def Jb (P:Program) (N:Nat) (dst:Option Tmp) (args:List Operand) (ts:List TypeId) (F0:Fr) (s:St) (K:Fr→St→Prop):Prop:=match args,ts with
 | [x],[t]=>match eval s x,P.underlying t with
  | some p,some (.slice _)=>match Zn p with
   | some n=>jR N dst (.v (.sc (.int .i64 n))) s (K (JL dst none F0))
   | none=>False
  | _,_=>False
 | _,_=>False
def zop (P:Program) (N:Nat) (ops:List Oper) (Fs:Fr) (H0:List Bk) (o:Oper) (F0:Fr) (s:St) (K:Fr→St→Prop):Prop:=match o.op with
 | .load t x=>Ja P N Fs H0 o.dst t x F0 s K
 | .call { callee := .value f,args,.. }=>qnX P N o.dst f args.toList F0 s K
 | .call { callee := .builtin .len,args,argTypes }=>Jb P N o.dst args.toList argTypes.toList F0 s K
 | op=>Zi op=false∧(Mix.vT o=false∨Mix.Qc o=true)∧VU N o.dst=true∧aop P N ops o s (K (JL o.dst (z0 P F0 s o) F0))
def qdK (P:Program) (N:Nat) (ops:List Oper) (Fs:Fr) (H0:List Bk):List Oper→(St→Prop)→Fr→St→Prop
 | [],K,_,s=>K s
 | o::rest,K,F0,s=>match o.guard with
  | none=>zop P N ops Fs H0 o F0 s (qdK P N ops Fs H0 rest K)
  | some (j,want)=>match (ops[j]?).bind (·.dst) with
   | some t=>match qm t s.F with
    | some (.v (.sc (.bool b)))=>gd b want (zop P N ops Fs H0 o F0 ⟨yR t (.v (.sc (.bool want))) s.F,s.H⟩ (qdK P N ops Fs H0 rest K)) (jR N o.dst (.v (.tup [])) ⟨yR t (.v (.sc (.bool (!want)))) s.F,s.H⟩ (qdK P N ops Fs H0 rest K (JL o.dst none F0)))
    | some (.v (.tup []))=>jR N o.dst (.v (.tup [])) s (qdK P N ops Fs H0 rest K (JL o.dst none F0))
    | _=>False
   | none=>False
section
variable {P:Program} {N:Nat} {ops rest:List Oper} {Fs F0:Fr} {H0 H:List Bk} {F:Fr} {o:Oper} {K:St→Prop} {K':Fr→St→Prop}
theorem QT {dst:Option Tmp} {f:Operand} {args:List Operand}:qnX P N dst f args F0 ⟨F,H⟩ K'=match zZ ⟨F,H⟩ f,yX ⟨F,H⟩ args with
 | some (.fn (.func k) first cap),some vs=>Zj P N dst k (first++vs++cap) F H (K' (JL dst none F0))
 | _,_=>False:=rfl
theorem vk:qdK P N ops Fs H0 [] K F0 ⟨F,H⟩=K ⟨F,H⟩:=rfl
theorem jN:qdK P N ops Fs H0 (o::rest) K F0 ⟨F,H⟩=match o.guard with
  | none=>zop P N ops Fs H0 o F0 ⟨F,H⟩ (qdK P N ops Fs H0 rest K)
  | some (j,want)=>match (ops[j]?).bind (·.dst) with
   | some t=>match qm t F with
    | some (.v (.sc (.bool b)))=>gd b want (zop P N ops Fs H0 o F0 ⟨yR t (.v (.sc (.bool want))) F,H⟩ (qdK P N ops Fs H0 rest K)) (jR N o.dst (.v (.tup [])) ⟨yR t (.v (.sc (.bool (!want)))) F,H⟩ (qdK P N ops Fs H0 rest K (JL o.dst none F0)))
    | some (.v (.tup []))=>jR N o.dst (.v (.tup [])) ⟨F,H⟩ (qdK P N ops Fs H0 rest K (JL o.dst none F0))
    | _=>False
   | none=>False:=rfl
theorem V5:zop P N ops Fs H0 o F0 ⟨F,H⟩ K'=match o.op with
 | .load t x=>Ja P N Fs H0 o.dst t x F0 ⟨F,H⟩ K'
 | .call { callee := .value f,args,.. }=>qnX P N o.dst f args.toList F0 ⟨F,H⟩ K'
 | .call { callee := .builtin .len,args,argTypes }=>Jb P N o.dst args.toList argTypes.toList F0 ⟨F,H⟩ K'
 | op=>Zi op=false∧(Mix.vT o=false∨Mix.Qc o=true)∧VU N o.dst=true∧aop P N ops o ⟨F,H⟩ (K' (JL o.dst (z0 P F0 ⟨F,H⟩ o) F0)):=rfl
end
section
variable {P:Program} {c c0:Cx} {N:Nat} {s:St} {a a0:Act} {w w0:World} {Fs F0:Fr} {H0:List Bk}
structure qcy (c0:Cx) (Fs:Fr) (H0:List Bk) (w0:World) (N:Nat) (F0:Fr) (c:Cx) (a:Act) (w:World):Prop where
 start:∃ a0,Sim c0 N ⟨Fs,H0⟩ a0 w0
 ext:Ext c0 w0 c w
 agree:Agree w0 w
 vals:∀ p∈F0,QF c0 w0 (.slot p.1) p.2 (a.eval (.tmp p.1))
theorem qcy.look {x:Operand} {y:SV} (h:qcy c0 Fs H0 w0 N F0 c a w) (hx:Vo F0 x=some y) (r:Root) (hr:∀ pr e n sz cs,y ≠ .own pr e n sz cs):QF c0 w0 r y (a.eval x):=by
 unfold Vo at hx
 cases x with
 | tmp u =>
  simp only at hx
  split at hx
  ·rename_i hg
   cases hx
   exact qfT (h.vals _ (QO hg)) r
  ·have h1:=h.vals _ (QO hx)
   cases y with
   | own pr e n sz cs=>exact absurd rfl (hr _ _ _ _ _)
   | _=>exact h1
 | _=>cases hx
theorem qej {x:Operand} {pr:Bool} {e n sz:Nat} {cs:List V}:Vo F0 x≠some (.own pr e n sz cs):=by
 unfold Vo
 cases x with
 | tmp u =>
  simp only
  split
  ·simp
  ·rename_i h
   exact fun e=>h _ _ _ _ _ e
 | _=>simp
theorem z0_sound {o:Oper} {y:SV} {v:Value} (h:Sim c N s a w) (p:qcy c0 Fs H0 w0 N F0 c a w) (hz:z0 P F0 s o=some y) (hr:(execOp a.eval o).run P w = .ok (.value v) w):∀ d,QF c0 w0 (.slot d) y v:=by
 intro d
 unfold z0 at hz
 split at hz
 ·rename_i x ho
  have h1:=p.look hz (.slot d) (fun _ _ _ _ _ e=>qej (e▸hz))
  unfold execOp at hr
  simp only [ho,Sem.run_pure] at hr
  cases hr
  exact h1
 ·rename_i t x f ho
  split at hz
  ·rename_i q n hx hf
   have h1:=p.look hx (.slot d) (fun _ _ _ _ _ e=>qej (e▸hx))
   obtain ⟨b,off,e1,e2⟩:=qbp h1 hz
   unfold execOp at hr
   simp only [ho,e1,qg8 hf,Sem.run_bind,Result.andThen_ok,Sem.run_pure] at hr
   cases hr
   exact e2 _
  ·cases hz
 ·rename_i t x ix ho
  split at hz
  ·rename_i n sz cs kd i e hx hi hu
   split at hz
   ·rename_i hc
    obtain ⟨h1,h2,h3⟩:=hc
    cases hz
    have hix:a.eval ix = .int kd i:=Rel.exact (vD h hi) rfl
    have hq:Rel c0.I c0.φ (.sl n sz cs) (a.eval x):=p.look hx (.slot d) (fun _ _ _ _ _ e=>by cases e)
    generalize hv:a.eval x=u at hq
    cases hq with
    | sl r1 r2 r3 r4 r5 r6 =>
     unfold execOp at hr
     simp only [ho,hv,hix,Sem.run_bind,run_indexAt hu h1 h2 h3,Result.andThen_ok,Sem.run_pure] at hr
     cases hr
     refine Rel.rd ((r1.drop _).take _) (fun j u hu => ?_) (fun u hu=>r6 u (List.mem_of_mem_drop (List.mem_of_mem_take hu)))
     rw [List.getElem?_take] at hu
     split at hu
     ·rw [List.getElem?_drop] at hu
      rw [Nat.add_assoc]
      exact r2 _ u hu
     ·cases hu
    | sl0=>omega
   ·cases hz
  ·rename_i r n kd i e hx hi hu
   split at hz
   ·rename_i sz h1
    split at hz
    ·rename_i hc
     obtain ⟨h2,h3⟩:=hc
     cases hz
     have hix:a.eval ix = .int kd i:=Rel.exact (vD h hi) rfl
     have hq:=p.look hx (.slot d) (fun _ _ _ _ _ e=>by cases e)
     rcases hq with ⟨_,e0⟩ | ⟨b,cap,hv,hR⟩
     ·omega
     ·unfold execOp at hr
      simp only [ho,hv,hix,Sem.run_bind,run_indexAt hu h1 h2 h3,Result.andThen_ok,Sem.run_pure] at hr
      cases hr
      exact ⟨b,by simp,hR⟩
    ·cases hz
   ·cases hz
  ·rename_i id off n cap kd i e hx hi hu
   split at hz
   ·rename_i sz h1
    split at hz
    ·rename_i hc
     obtain ⟨h2,h3⟩:=hc
     cases hz
     have hix:a.eval ix = .int kd i:=Rel.exact (vD h hi) rfl
     have hq:Rel c0.I c0.φ (.slb id off n cap) (a.eval x):=p.look hx (.slot d) (fun _ _ _ _ _ e=>by cases e)
     generalize hv:a.eval x=u at hq
     cases hq with
     | slb0=>omega
     | slb r1 r2 r3 =>
      unfold execOp at hr
      simp only [ho,hv,hix,Sem.run_bind,run_indexAt hu h1 h2 h3,Result.andThen_ok,Sem.run_pure] at hr
      cases hr
      exact Rel.ptr r1
    ·cases hz
   ·cases hz
  ·rename_i q kd i n e hx hi hu
   split at hz
   ·rename_i sz h1
    split at hz
    ·rename_i hc
     obtain ⟨h2,h3⟩:=hc
     have hix:a.eval ix = .int kd i:=Rel.exact (vD h hi) rfl
     have h4:=p.look hx (.slot d) (fun _ _ _ _ _ e=>qej (e▸hx))
     obtain ⟨b,off,e1,e2⟩:=qbp h4 hz
     unfold execOp at hr
     simp only [ho,e1,hix,Sem.run_bind,qdD hu h1 h2 h3,Result.andThen_ok,Sem.run_pure] at hr
     cases hr
     exact e2 _
    ·cases hz
   ·cases hz
  ·cases hz
 ·rename_i x ho
  split at hz
  ·rename_i id off hx
   cases hz
   have hq:Rel c0.I c0.φ (.ptr id off) (a.eval x):=p.look hx (.slot d) (fun _ _ _ _ _ e=>by cases e)
   generalize hv:a.eval x=u at hq
   cases hq with
   | ptr hb =>
    unfold execOp at hr
    simp only [ho,hv,Sem.run_pure] at hr
    cases hr
    exact Rel.ptr hb
  ·cases hz
 ·cases hz
theorem qlU {d:Nat} {p:Nat×SV} {F:Fr} (h:p∈VK d F):p.1≠d∧p∈F:=by
 unfold VK at h
 obtain ⟨h1,h2⟩:=List.mem_filter.1 h
 exact ⟨by simpa using h2,h1⟩
def ZP (c0:Cx) (Fs:Fr) (H0:List Bk) (w0:World) (N:Nat) (K:Fr→St→Prop) (a':Act) (w':World):Prop:=∃ c' s' F0',Sim c' N s' a' w'∧qcy c0 Fs H0 w0 N F0' c' a' w'∧K F0' s'
theorem qcy.put {dst:Option Tmp} {y:Option SV} {v:Value} {c':Cx} {w':World} (p:qcy c0 Fs H0 w0 N F0 c a w) (hs:a.tmps.size=N) (hN:∀ d,dst=some d→d<N) (hx:Ext c w c' w') (hg:Agree w0 w') (hy:∀ d z,dst=some d→y=some z→QF c0 w0 (.slot d) z v) :
  qcy c0 Fs H0 w0 N (JL dst y F0) c' (a.put dst v) w':=by
 refine ⟨p.start,p.ext.trans hx,hg,fun q hq => ?_⟩
 have keep:∀ q∈F0,dst≠some q.1→QF c0 w0 (.slot q.1) q.2 ((a.put dst v).eval (.tmp q.1)):=fun q hq hne=>by
  have:(a.put dst v).eval (.tmp q.1)=a.eval (.tmp q.1):=Act.eval_put fun d' hd' e'=>by cases e'; exact hne hd'
  rw [this]
  exact p.vals q hq
 unfold JL at hq
 cases dst with
 | none=>exact keep q hq (by simp)
 | some d =>
  have hlt:d<a.tmps.size:=by rw [hs]; exact hN d rfl
  have ev:(a.put (some d) v).eval (.tmp d)=v:=by simp [Act.eval,Act.put,hlt]
  cases y with
  | none =>
   obtain ⟨h1,h2⟩:=qlU (by simpa using hq)
   exact keep q h2 (by simpa using Ne.symm h1)
  | some z =>
   simp only [List.mem_cons] at hq
   rcases hq with rfl | hq
   ·rw [ev]; exact hy d z rfl rfl
   ·obtain ⟨h1,h2⟩:=qlU hq
    exact keep q h2 (by simpa using Ne.symm h1)
theorem qgv {dst:Option Tmp} {y:SV} {z:Option SV} {v:Value} {K:Fr→St→Prop} (h:Sim c N s a w) (p:qcy c0 Fs H0 w0 N F0 c a w) (hk:jR N dst y s (K (JL dst z F0))) (hx:∀ d,dst=some d→QF c w (.slot d) y v)
  (hz:∀ d z',dst=some d→z=some z'→QF c0 w0 (.slot d) z' v):ZP c0 Fs H0 w0 N K (a.put dst v) w:=by
 cases dst with
 | none=>exact ⟨c,s,_,h,p.put (dst:=none) (y:=z) h.size (fun d e=>by cases e) (Ext.refl c w) p.agree hz,hk⟩
 | some d =>
  obtain ⟨h1,h2,h3⟩:=hk
  have h4:=Sim.put (F:=s.F) (H:=s.H) h h1 (qiG h2) (hx d rfl)
  exact ⟨_,_,_,h4,p.put (dst:=some d) (y:=z) h.size (fun d' e=>by cases e; exact h1) (Ext.free c w _) p.agree hz,h3⟩
theorem qi8 {o:Oper} {t:TypeId} {x:Operand} {K:Fr→St→Prop} {q:SV} (ho:o.op = .load t x) (hx:Vo F0 x=some q) (ha:yJ P t=some false) (h:Sim c N s a w) (p:qcy c0 Fs H0 w0 N F0 c a w) (hk:yF N H0 o.dst q F0 s K) :
  ∃ v,(∀ w',Agree w0 w'→(execOp a.eval o).run P w' = .ok (.value v) w')∧ZP c0 Fs H0 w0 N K (a.put o.dst v) w:=by
 unfold yF at hk
 split at hk
 ·rename_i id off d hd
  split at hk
  ·rename_i ks ks' hk0 hk1
   split at hk
   ·rename_i pr e n sz cs pr' e' n' sz' cs' hj0 hj1
    obtain ⟨hlt,hk⟩:=hk
    obtain ⟨a0,h0⟩:=p.start
    have hq:Rel c0.I c0.φ (.ptr id off) (a.eval x):=p.look hx (.slot 0) (fun _ _ _ _ _ e=>by cases e)
    generalize hv:a.eval x=u at hq
    cases hq with
    | ptr hb =>
     rename_i b
     obtain ⟨_,_,arr,_,g1,g2,_,g3⟩:=h0.inv.blk id b _ hb hk0
     obtain ⟨_,_,arr',_,g1',g2',_,g3'⟩:=h.inv.blk id b _ (p.ext.phi _ _ hb) hk1
     have hoff:off<arr.size:=by rw [g2]; exact (List.getElem?_eq_some_iff.1 hj0).1
     have hoff':off<arr'.size:=by rw [g2']; exact (List.getElem?_eq_some_iff.1 hj1).1
     have hcell:w0.cell? ⟨b,off,none⟩=some arr[off]:=by simp [World.cell?,g1,hoff]
     have hcell':w.cell? ⟨b,off,none⟩=some arr'[off]:=by simp [World.cell?,g1',hoff']
     have heq:arr'[off]=arr[off]:=by
      have:=p.agree.cell hcell
      rw [hcell'] at this
      simpa using this
     have l0:=qfT (g3 off _ _ hj0 (Array.getElem?_eq_getElem hoff)).2
     have l1:=qfT (g3' off _ _ hj1 (Array.getElem?_eq_getElem hoff')).2
     rw [heq] at l1
     refine ⟨arr[off],fun w' hw => ?_,?_⟩
     ·have h8:=hw.cell hcell
      unfold execOp
      simp only [ho,hv,Instr.loadAt,Instr.sureAddr,Sem.run_bind,Sem.run_pure,Result.andThen_ok,loadVar,Vr ha,Bool.false_eq_true,if_false]
      simp [load,Sem.run,h8]
     ·rw [hd]
      have h4:=Sim.put (F:=s.F) (H:=s.H) h hlt (x := .lnk (.cell id off) n') (fun e=>by cases e) (l1 (.slot d))
      exact ⟨_,_,_,h4,p.put (dst:=some d) (y:=some (.lnk (.cell id off) n)) h.size (fun d' e=>by cases e; exact hlt) (Ext.free c w _) p.agree (fun d' z e1 e2=>by cases e1; cases e2; exact l0 _),hk⟩
   ·exact hk.elim
  ·exact hk.elim
 ·exact hk.elim
theorem zop_does {ops:List Oper} {o:Oper} {K:Fr→St→Prop} (h:Sim c N s a w) (p:qcy c0 Fs H0 w0 N F0 c a w) (hk:zop P N ops Fs H0 o F0 s K) :
  (Mix.vT o=true→o.wp P a w (fun a' w'=>Agree w0 w'∧ZP c0 Fs H0 w0 N K a' w') Mix.bot)∧(Mix.vT o=false→∃ v,(∀ w',Agree w0 w'→(execOp a.eval o).run P w' = .ok (.value v) w')∧ZP c0 Fs H0 w0 N K (a.put o.dst v) w):=by
 unfold zop at hk
 split at hk
 ·rename_i t x ho
  refine ⟨fun he=>by simp [Mix.vT,ho] at he,fun _ => ?_⟩
  unfold Ja at hk
  split at hk
  ·rename_i q agg n hx ha hn
   cases hc:zY ⟨Fs,H0⟩ q with
   | none=>rw [hc] at hk; exact hk.elim
   | some cs =>
    rw [hc] at hk
    simp only at hk
    cases hl:ldV agg n cs with
    | none =>
     rw [hl] at hk
     cases agg with
     | true =>
      simp only [cond_true] at hk
      cases hsh:zA H0 q with
      | none=>rw [hsh] at hk; exact hk.elim
      | some cs2 =>
       rw [hsh] at hk
       simp only at hk
       cases hl2:ldV true n cs2 with
       | none=>rw [hl2] at hk; exact hk.elim
       | some y =>
        rw [hl2] at hk
        obtain ⟨a0,h0⟩:=p.start
        have hq:=p.look hx (.slot 0) (fun _ _ _ _ _ e=>qej (e▸hx))
        obtain ⟨b,off,vs,e1,r1,r2,_⟩:=qhb h0 hq hsh
        obtain ⟨v,r3,r4⟩:=qbH (P:=P) ha hn r1 r2 hl2
        refine ⟨v,fun w' hw => ?_,qgv h p hk (fun d _=>Rel.mono p.ext.imm p.ext.phi r3) fun d z _ hz=>by cases hz; exact r3⟩
        unfold execOp
        simp only [ho,e1,Sem.run_bind,r4 w' hw,Result.andThen_ok,Sem.run_pure]
     | false =>
      simp only [cond_false] at hk
      exact qi8 ho hx ha h p hk
    | some y =>
     rw [hl] at hk
     obtain ⟨a0,h0⟩:=p.start
     have hq:=p.look hx (.slot 0) (fun _ _ _ _ _ e=>qej (e▸hx))
     obtain ⟨b,off,vs,e1,r1,r2,_⟩:=qbL h0 hq hc
     obtain ⟨v,r3,r4⟩:=qbH (P:=P) ha hn r1 r2 hl
     refine ⟨v,fun w' hw => ?_,qgv h p hk (fun d _=>Rel.mono p.ext.imm p.ext.phi r3) fun d z _ hz=>by cases hz; exact r3⟩
     unfold execOp
     simp only [ho,e1,Sem.run_bind,r4 w' hw,Result.andThen_ok,Sem.run_pure]
  ·exact hk.elim
 ·rename_i f args ts ho
  refine ⟨fun _ => ?_,fun he=>by simp [Mix.vT,ho] at he⟩
  unfold qnX at hk
  split at hk
  ·rename_i k first cap vs hf hv
   have hfr:=vD h hf
   generalize hfv:a.eval f=fv at hfr
   cases hfr with
   | fn r1 r2 =>
    rename_i first' cap'
    have hvs:=qeJ h hv
    have hargs:vM c.I c.φ (first++vs++cap) (first'.toList++args.toList.map a.eval++cap'.toList):=(r1.append hvs).append r2
    have looked:∀ (r:V) (u0:Value),r.exact=some u0→Enters P k→Calls P k (first'.toList++args.toList.map a.eval++cap'.toList).toArray w (fun e w'=>e = .returned u0∧Sim c N s a w'∧Ext c w c w'∧Agree w w')→jR N o.dst (.v r) s (K (JL o.dst none F0))→o.wp P a w (fun a' w'=>Agree w0 w'∧ZP c0 Fs H0 w0 N K a' w') Mix.bot:=by
     intro r u0 hu0 hen hcl hk
     have hrun:(execOp a.eval o).run P w = .ok (.enter k (first'.toList++args.toList.map a.eval++cap'.toList).toArray) w:=by
      rw [← qdz hen]
      unfold execOp
      simp only [ho,resolve,hfv,Deferred.ofValue,Sem.run_bind,Sem.run_pure,Result.andThen_ok,invoke]
      congr 2
      apply Array.toList_inj.1
      simp
     unfold Oper.wp
     rw [hrun,Oper.upon_enter]
     refine hcl.mono fun e w' he => ?_
     obtain ⟨rfl,s4,x4,ag⟩:=he
     have hag:Agree w0 w':=fun b hb=>(ag b (Nat.lt_of_lt_of_le hb p.ext.size)).trans (p.agree b hb)
     have p4:qcy c0 Fs H0 w0 N F0 c a w':=⟨p.start,p.ext.trans x4,hag,p.vals⟩
     exact ⟨hag,qgv s4 p4 hk (fun d _=>Rel.WK hu0) fun d z _ hz=>by cases hz⟩
    rcases hk with ⟨r,hp,c1,c2,hk⟩ | hk | ⟨Y,r,hL,hV,he,hk⟩
    rotate_left
    ·unfold lookK at hk
     split at hk
     ·rename_i id vs' hxs
      rw [hxs] at hargs
      obtain ⟨mask,r,hL,hx,he,hm,hk⟩:=hk
      obtain ⟨u0,hu0⟩:=Option.isSome_iff_exists.1 he
      obtain ⟨hen,hcl⟩:=look_run h hL hx hu0 hm hargs
      exact looked r u0 hu0 hen hcl hk
     ·exact hk.elim
    ·obtain ⟨u0,hu0⟩:=Option.isSome_iff_exists.1 he
     obtain ⟨hen,hcl⟩:=see_run (F:=s.F) h hL hV hu0 hargs
     exact looked r u0 hu0 hen hcl hk
    obtain ⟨⟨fn,e1,e2,e3⟩,hcall⟩:=hp
    let cc:Cx:=⟨c.I,[],fun _ => .out⟩
    have hi0:Inv cc [] w:=⟨h.inv.imm,rfl,fun b hb=>absurd rfl hb,fun b b' r hb=>(by cases hb),fun id b k hb=>(by simp [cc] at hb)⟩
    have hcl:=hcall cc w _ hi0 (fun b t e=>by cases e) (vM.closed hargs c1)
    have hrun:(execOp a.eval o).run P w = .ok (.enter k (first'.toList++args.toList.map a.eval++cap'.toList).toArray) w:=by
     unfold execOp
     simp only [ho,resolve,hfv,Deferred.ofValue,Sem.run_bind,Sem.run_pure,Result.andThen_ok,invoke,callFunc,run_program,e1,e3,Bool.false_eq_true,if_false]
     have e4:fn.body.isNone=false:=by cases hb:fn.body <;> simp_all
     simp only [e4,Bool.false_eq_true,if_false,Sem.run_pure]
     congr 2
     apply Array.toList_inj.1
     simp
    unfold Oper.wp
    rw [hrun,Oper.upon_enter]
    refine hcl.mono fun e w' he => ?_
    obtain ⟨v,y,H1,c3,rfl,k1,k2,k3,k4,rfl⟩:=he
    obtain ⟨s4,x4⟩:=h.past (c0:=cc) rfl (fun _=>rfl) k2 k4
    have hag:Agree w0 w':=fun b hb=>(k4.out b (Nat.lt_of_lt_of_le hb p.ext.size) rfl).1.trans (p.agree b hb)
    have p4:qcy c0 Fs H0 w0 N F0 ⟨c3.I,c.φ,c.R⟩ a w':=⟨p.start,p.ext.trans x4,hag,p.vals⟩
    exact ⟨hag,qgv s4 p4 hk (fun d _=>Rel.closed k1 c2) fun d z _ hz=>by cases hz⟩
  ·exact hk.elim
 ·rename_i args ts ho
  refine ⟨fun he=>by simp [Mix.vT,ho] at he,fun _ => ?_⟩
  unfold Jb at hk
  split at hk
  ·rename_i x t e1 e2
   have e1:args = #[x]:=Array.toList_inj.1 e1
   have e2:ts = #[t]:=Array.toList_inj.1 e2
   subst e1 e2
   split at hk
   ·rename_i q e hx hu
    cases hl:Zn q with
    | none=>rw [hl] at hk; exact hk.elim
    | some n =>
     rw [hl] at hk
     have hr:∃ r,QF c w r q (a.eval x):=by
      rcases VA h hx (.slot 0) with ⟨t',_,_,_,hr'⟩ | ⟨z',rfl,hr'⟩
      ·exact ⟨_,hr'⟩
      ·exact ⟨.slot 0,hr'⟩
     obtain ⟨rr,hr⟩:=hr
     obtain ⟨pp,cap,hv⟩:=qf3 (w:=w) (r:=rr) (x:=q) hr hl
     refine ⟨.int .i64 n,fun w' _ => ?_,qgv h p hk (fun d _=>Rel.sc _) fun d z _ hz=>by cases hz⟩
     unfold execOp
     simp only [ho,resolve,Sem.run_bind,Sem.run_pure,Result.andThen_ok,invoke,builtin,List.map_toArray,List.map_cons,List.map_nil,hv,Builtin.len_]
     simp [qX hu,goInt]
   ·exact hk.elim
  ·exact hk.elim
 ·obtain ⟨hm,hel,hdl,ha⟩:=hk
  have hd:=qgb h ha
  unfold Does at hd
  have lt_of:∀ d,o.dst=some d→d<N:=fun d e=>by
   rw [e] at hdl
   simpa [VU] using hdl
  by_cases he:Mix.vT o=true
  ·rw [if_pos he] at hd
   refine ⟨fun _ => ?_,fun e=>by rw [he] at e; cases e⟩
   have hl:=hel.resolve_left (by rw [he]; simp)
   have hlay:=Mix.qop (P:=P) hl a.eval
   have hz:z0 P F0 s o=none:=by
    unfold z0
    unfold Mix.vT at he
    split <;> first | rfl | (rename_i ho; rw [ho] at he; cases he)
   rw [hz] at hd
   unfold Yl Oper.wp at hd
   unfold Oper.wp
   cases hr:(execOp a.eval o).run P w with
   | halt x w' =>
    rw [hr] at hd
    cases x <;> first | exact hd.elim | exact hd
   | ok n w' =>
    obtain ⟨v,ob,rfl,rfl⟩:=hlay w n w' hr
    rw [hr,Oper.upon_value] at hd
    rw [Oper.upon_value]
    obtain ⟨c',s',k1,k2,hk⟩:=hd
    have hag:Agree w0 (w.alloc ob):=fun b hb=>(Z5 (Nat.lt_of_lt_of_le hb p.ext.size)).trans (p.agree b hb)
    exact ⟨hag,c',_,_,k1,p.put (y:=none) h.size lt_of k2 hag (fun d z _ e=>by cases e),hk⟩
  ·rw [if_neg he] at hd
   refine ⟨fun e=>absurd e he,fun _ => ?_⟩
   obtain ⟨v,r1,c',s',k1,k2,hk⟩:=hd
   have hrun:=r1 w (fun e=>by rw [hm] at e; cases e)
   exact ⟨v,fun w' _=>r1 w' (fun e=>by rw [hm] at e; cases e),c',_,_,k1,p.put h.size lt_of k2 p.agree (fun d z _ hz=>z0_sound h p hz hrun d),hk⟩
theorem qeF {ops:Array Oper} {Q:Exit→Act→World→Prop} {K:St→Prop}:∀ {l:List Oper} {s:St} {c:Cx} {a:Act} {w:World} {F0:Fr},Sim c N s a w→qcy c0 Fs H0 w0 N F0 c a w→qdK P N ops.toList Fs H0 l K F0 s→(∀ c' s' a' w',Sim c' N s' a' w'→Ext c0 w0 c' w'→K s'→Q .normal a' w') →
  Mix.walk P ops (fun _ w'=>Agree w0 w') (fun w'=>Agree w0 w') Q l a w
 | [],s,c,a,w,F0,h,p,hk,hq=>hq c s a w h p.ext hk
 | o::l,s,c,a,w,F0,h,p,hk,hq=>by
  have cases':(∃ s1:St,Sim c N s1 a w∧Region.wanted o (yielded ops a.tmps)=true∧zop P N ops.toList Fs H0 o F0 s1 (qdK P N ops.toList Fs H0 l K)) ∨
    (∃ s1:St,Sim c N s1 a w∧Region.wanted o (yielded ops a.tmps)=false∧jR N o.dst (.v (.tup [])) s1 (qdK P N ops.toList Fs H0 l K (JL o.dst none F0))):=by
   unfold qdK at hk
   cases hg:o.guard with
   | none=>rw [hg] at hk; exact .inl ⟨s,h,by simp [Region.wanted,hg],hk⟩
   | some q =>
    obtain ⟨j,want⟩:=q
    rw [hg] at hk
    simp only at hk
    cases hd:(ops.toList[j]?).bind (·.dst) with
    | none=>rw [hd] at hk; exact hk.elim
    | some t =>
     rw [hd] at hk
     simp only at hk
     have hd':(ops[j]?).bind (·.dst)=some t:=by simpa using hd
     split at hk
     ·rename_i b hb
      obtain ⟨v,hv,hr⟩:=h.fr t _ (QO hb)
      have e:v = .bool b:=Rel.exact hr rfl
      subst e
      have hy:=Xt hd' hv
      cases hbw:b==want with
      | true =>
       have e:b=want:=by simpa using hbw
       subst e
       exact .inl ⟨_,h.lit hb,by simp [Region.wanted,hg,hy,qaB],hk.1 rfl⟩
      | false =>
       have e:b = !want:=by cases b <;> cases want <;> simp_all
       subst e
       exact .inr ⟨_,h.lit hb,by simp [Region.wanted,hg,hy,qaB],hk.2 rfl⟩
     ·rename_i hb
      obtain ⟨v,hv,hr⟩:=h.fr t _ (QO hb)
      have e:v = .tuple #[]:=Rel.exact hr rfl
      subst e
      have hy:=Xt hd' hv
      exact .inr ⟨s,h,by simp [Region.wanted,hg,hy,qaB],hk⟩
     ·exact hk.elim
  unfold Mix.walk
  rcases cases' with ⟨s1,h,hw,hk⟩ | ⟨s1,h,hw,hk⟩
  ·obtain ⟨d1,d2⟩:=zop_does h p hk
   by_cases he:Mix.vT o=true
   ·rw [if_pos he]
    refine wpList_step fun K' hK' => ?_
    rw [if_pos hw]
    refine Mix.ZX (Mix.Zt (fun d v w' h2 => ?_) (Mix.Jh (d1 he)))
    obtain ⟨g1,c',s',old',k1,k2,k3⟩:=h2
    exact hK' _ _ (wpList_nil ⟨g1,qeF k1 k2 k3 hq⟩)
   ·rw [if_neg he]
    have he':Mix.vT o=false:=by simpa using he
    obtain ⟨v,hv,c',s',old',k1,k2,k3⟩:=d2 he'
    refine wpQuiet_step fun K' hK' => ?_
    rw [if_pos hw]
    refine ⟨v,fun w' hw' => ?_,hK' _ (wpQuiet_nil (qeF k1 k2 k3 hq))⟩
    unfold Oper.quietAt
    rw [hv w' hw']
    exact ⟨rfl,rfl⟩
  ·obtain ⟨c',s',old',k1,k2,k3⟩:=qgv (z:=none) (v:=undef) h p hk (fun _ _=>Rel.tup (vs := #[]) .nil) (fun d z _ e=>by cases e)
   have h4:=qeF k1 k2 k3 hq
   by_cases he:Mix.vT o=true
   ·rw [if_pos he]
    refine wpList_step fun K' hK' => ?_
    rw [if_neg (by rw [hw]; simp)]
    exact hK' _ _ (wpList_nil ⟨k2.agree,h4⟩)
   ·rw [if_neg he]
    refine wpQuiet_step fun K' hK' => ?_
    rw [if_neg (by rw [hw]; simp)]
    exact hK' _ (wpQuiet_nil h4)
theorem AW.regionZ {id k:Nat} {ops:Array Oper} {F:Fr} {H:List Bk} {Q:Exit→St→Prop} (hm:P.follows .mixedOrders=true) (hk:k≤ops.size) (ho:Mix.qeS k ops=true)
  (h:qdK P N ops.toList F H (ops.toList.take k) (YB P N ops.toList (ops.toList.drop k) (Q .normal)) F ⟨F,H⟩):AW P N (.region id ops true) Q ⟨F,H⟩:=fun c a w hs=>by
 have hs':=hs.drew
 have p:qcy c F H w.drew N F c a w.drew:=⟨⟨a,hs'⟩,Ext.refl c _,Agree.refl _,fun q hq=>by
  obtain ⟨v,hv,hr⟩:=hs'.fr q.1 q.2 hq
  have:a.eval (.tmp q.1)=v:=by simp [Act.eval,hv]
  rw [this]
  exact hr⟩
 have h1:=qeF (ops:=ops) (Q:=Mix.qmm (Mix.walk P ops Agree (fun _=>True) (qcx c w N Q) (ops.toList.drop k))) (K:=YB P N ops.toList (ops.toList.drop k) (Q .normal)) hs' p h fun c' s' a' w' k1 k2 k3 =>
  qaC (ops:=ops) k1 k3 fun a2 w2 h2=>Post.step ((Ext.drew c w).trans k2) h2
 have e:ops=(ops.toList.take k++ops.toList.drop k).toArray:=by simp
 have h2:=Mix.qdQ (P:=P) (C1:=fun _ w'=>Agree w.drew w') (J1:=fun w'=>Agree w.drew w') (C2:=Agree) (id:=id) (pre:=ops.toList.take k) (post:=ops.toList.drop k) (Q:=qcx c w N Q) (a:=a) (w:=w) (fun _ h=>h) (fun w=>Agree.refl w) (fun _ _=>Iff.rfl) hm (by
  rw [← e,List.length_take]; simpa [Nat.min_eq_left hk] using ho) (Agree.refl _) (by rw [← e]; exact h1)
 rw [← e] at h2
 exact h2
end
def awz (P:Program) (N:Nat) (bad:List (Nat×Nat×List Nat)):Code→(Exit→St→Prop)→St→Prop
 | .skip,Q,s=>Q .normal s
 | .region id ops draw,Q,s=>match draw,QX bad id with
  | true,some k=>qdK P N ops.toList s.F s.H (ops.toList.take k.1) (YB P N ops.toList (ops.toList.drop k.1) (Q .normal)) s.F s
  | _,_=>YB P N ops.toList ops.toList (Q .normal) s
 | .seq x y,Q,s=>awz P N bad x (QY (awz P N bad y Q) Q) s
 | .cond x t f,Q,s=>match Q5 s x with
  | some b=>(b=true→awz P N bad t Q s)∧(b=false→awz P N bad f Q s)
  | none=>False
 | .block id body,Q,s=>awz P N bad body (jV id Q) s
 | .loop body,Q,s=>AW P N (.loop body) Q s
 | .exit id,Q,s=>Q (.exit id) s
 | .label _,Q,s=>Q .normal s
 | .ret,Q,s=>Q .ret s
 | _,_,_=>False
theorem qps {P:Program} {N:Nat} {bad:List (Nat×Nat×List Nat)} (hm:P.follows .mixedOrders=true):∀ {code:Code} {Q:Exit→St→Prop} {s:St},okx bad code=true→awz P N bad code Q s→AW P N code Q s:=by
 intro code
 induction code with
 | skip=>exact fun _ hk=>AW.of hm rfl hk
 | region id ops draw =>
  intro Q s ho hk
  cases draw with
  | false=>exact AW.of hm rfl hk
  | true =>
   unfold awz at hk
   simp only [okx,Bool.not_true,Bool.false_or] at ho
   cases hb:QX bad id with
   | some k =>
    rw [hb] at ho hk
    simp only [Bool.and_eq_true] at ho
    exact AW.regionZ (F:=s.F) (H:=s.H) hm (Nat.le_of_ble_eq_true ho.1) ho.2 hk
   | none =>
    rw [hb] at ho hk
    exact AW.of hm (by simpa [okc] using ho) hk
 | seq x y ihx ihy =>
  intro Q s ho hk
  simp only [okx,Bool.and_eq_true] at ho
  refine AW.seq ((ihx ho.1 hk).mono fun e s' he => ?_)
  cases e with
  | normal=>exact ihy ho.2 he
  | _=>exact he
 | cond x t f iht ihf =>
  intro Q s ho hk
  simp only [okx,Bool.and_eq_true] at ho
  unfold awz at hk
  cases hb:Q5 s x with
  | none=>rw [hb] at hk; exact hk.elim
  | some b =>
   rw [hb] at hk
   exact AW.cond (F:=s.F) (H:=s.H) b hb (fun e=>iht ho.1 (hk.1 e)) (fun e=>ihf ho.2 (hk.2 e))
 | block id body ih =>
  intro Q s ho hk
  exact AW.block (ih ho hk)
 | loop body ih=>exact fun _ hk=>hk
 | exit id=>exact fun _ hk=>AW.of hm rfl hk
 | label l=>exact fun _ hk=>AW.of hm rfl hk
 | ret=>exact fun _ hk=>AW.of hm rfl hk
 | _=>exact fun _ hk=>hk.elim
theorem AW.ofz {P:Program} {N:Nat} {x:Code} {Q:Exit→St→Prop} {s:St} (bad:List (Nat×Nat×List Nat)) (hm:P.follows .mixedOrders=true) (ho:okx bad x=true) (h:awz P N bad x Q s):AW P N x Q s:=qps hm ho h
section
variable {P:Program} {N:Nat} {bad:List (Nat×Nat×List Nat)} {F:Fr} {H:List Bk} {Q:Exit→St→Prop} {c c':Code} {x:Operand} {id:Nat} {draw:Bool} {arr:Array Oper}
theorem vE:awz P N bad .skip Q ⟨F,H⟩=Q .normal ⟨F,H⟩:=rfl
theorem je:awz P N bad (.region id arr draw) Q ⟨F,H⟩=if (draw&&(QX bad id).isSome)=true then qdK P N arr.toList F H (arr.toList.take ((QX bad id).getD (0,[])).1) (YB P N arr.toList (arr.toList.drop ((QX bad id).getD (0,[])).1) (Q .normal)) F ⟨F,H⟩ else YB P N arr.toList arr.toList (Q .normal) ⟨F,H⟩:=by
 show (match draw,QX bad id with
  | true,some k=>qdK P N arr.toList F H (arr.toList.take k.1) (YB P N arr.toList (arr.toList.drop k.1) (Q .normal)) F ⟨F,H⟩
  | _,_=>YB P N arr.toList arr.toList (Q .normal) ⟨F,H⟩)=_
 cases draw <;> cases QX bad id <;> rfl
theorem yL:awz P N bad (.seq c c') Q ⟨F,H⟩=awz P N bad c (QY (awz P N bad c' Q) Q) ⟨F,H⟩:=rfl
theorem vH:awz P N bad (.cond x c c') Q ⟨F,H⟩=match Q5 ⟨F,H⟩ x with
  | some b=>gd b true (awz P N bad c Q ⟨F,H⟩) (awz P N bad c' Q ⟨F,H⟩)
  | none=>False:=rfl
theorem jQ:awz P N bad (.block id c) Q ⟨F,H⟩=awz P N bad c (jV id Q) ⟨F,H⟩:=rfl
theorem vF:awz P N bad (.loop c) Q ⟨F,H⟩=AW P N (.loop c) Q ⟨F,H⟩:=rfl
theorem vG:awz P N bad (.exit id) Q ⟨F,H⟩=Q (.exit id) ⟨F,H⟩:=rfl
theorem jP:awz P N bad (.label id) Q ⟨F,H⟩=Q .normal ⟨F,H⟩:=rfl
theorem yM:awz P N bad .ret Q ⟨F,H⟩=Q .ret ⟨F,H⟩:=rfl
end
section
variable {P:Program} {c:Cx} {N:Nat} {a:Act} {w w':World} {F:Fr} {H:List Bk}
theorem Sim.qlS {id j b g e n sz:Nat} {ks:List SV} {cs':List V} {v:Value} (h:Sim c N ⟨F,H⟩ a w) (hb:c.φ[id]? = some b) (hk:H[id]? = some (.cells ks)) (hR:c.R g = .own (.cell id j)) (hI:∀ o,c.I g o=none) (hg:∃ arr e f,w.heap[g]? = some (.cells arr e f)) (hF:∀ k x,(k,x)∈F→x.refers (.cell id j)=false)
  (hother:∀ k,k≠g→k<w.heap.size→w'.heap[k]? = w.heap[k]?) (hsize:w.heap.size≤w'.heap.size) (hv:w.cell? ⟨b,j,none⟩=some v) (hnew:QF c w' (.cell id j) (.own true e n sz cs') v):Sim c N ⟨F,qo H id j (.own true e n sz cs')⟩ a w':=by
 have hlt:∀ b,c.R b ≠ .out→b<w.heap.size:=h.inv.lt
 have keep:∀ b q,c.R b = .own q→q ≠ .cell id j→w'.heap[b]? = w.heap[b]? := fun b q hb hq=>hother b (by rintro rfl; rw [hR] at hb; exact hq (by simpa using hb.symm)) (hlt b (by rw [hb]; simp))
 have Xi:∀ {r:Root} {x:SV} {v:Value},(∀ q,(q=r∨x.refers q=true)→q ≠ .cell id j)→QF c w r x v→QF c w' r x v:=fun hq hs =>
  QF.mono (c:=c) (c':=c) (w:=w) (w':=w') (fun _ _ _ h=>h) (fun _ _ h=>h) (fun b' q hq' hb'=>⟨hb',keep b' q hb' (hq q hq'),fun _=>rfl⟩) hs
 refine ⟨⟨fun b o v hv => ?_,by rw [qdj]; exact h.inv.len,fun b hb=>Nat.lt_of_lt_of_le (hlt b hb) hsize,h.inv.uniq,fun id' b' k hb' hk' => ?_⟩,h.size,h.defers,fun t x hx => ?_⟩
 ·have hne:b≠g:=by rintro rfl; rw [hI] at hv; cases hv
  have hc:=h.inv.imm b o v hv
  rw [World.cell?_of_block (a:=⟨b,o,none⟩) (hother b hne (World.block_lt_of_cell? w ⟨b,o,none⟩ hc))]
  exact hc
 ·rw [qal hk] at hk'
  by_cases hid:id'=id
  ·subst hid
   rw [if_pos rfl] at hk'
   cases hk'
   rw [hb] at hb'
   cases hb'
   obtain ⟨k1,k2,arr,ty,g1,g2,g6,g3⟩:=h.inv.blk id' b _ hb hk
   have hne:b≠g:=by rintro rfl; rw [hR] at k1; cases k1
   refine ⟨k1,k2,arr,ty,(hother b hne (hlt b (by rw [k1]; simp))).trans g1,by simp [g2],g6,fun i x u hx hu => ?_⟩
   rw [List.getElem?_set] at hx
   by_cases hij:j=i
   ·subst hij
    simp only [if_true] at hx
    split at hx
    ·cases hx
     have:u=v:=by
      have h5:w.cell? ⟨b,j,none⟩=some u:=by simp [World.cell?,g1,hu]
      rw [hv] at h5
      cases h5
      rfl
     subst this
     exact ⟨rfl,hnew⟩
    ·cases hx
   ·rw [if_neg hij] at hx
    refine ⟨(g3 i x u hx hu).1,Xi (fun q hq => ?_) (g3 i x u hx hu).2⟩
    rcases hq with rfl | hq
    ·simpa using Ne.symm hij
    ·rw [Vn (g3 i x u hx hu).1] at hq; cases hq
  ·rw [if_neg hid] at hk'
   obtain ⟨k1,k2,k3⟩:=h.inv.blk id' b' k hb' hk'
   have hne:b'≠g:=by rintro rfl; rw [hR] at k1; cases k1
   refine ⟨k1,k2,?_⟩
   by_cases hck:∃ cs,k = .cells cs
   rotate_left
   ·refine qac.stay (fun cs e=>hck ⟨cs,e⟩) k3 (fun _ _ _ h=>h) (fun _ _ h=>h) (fun b2 o ho hn => ?_)
    have hb2:b2<w.heap.size:=XI ho
    by_cases hbg:b2=g
    ·subst hbg
     obtain ⟨arr,e,f,hc⟩:=hg
     exact absurd (Option.some.inj (ho.symm.trans hc)) (hn arr e f)
    ·exact (hother b2 hbg hb2).trans ho
   obtain ⟨cs,rfl⟩:=hck
   obtain ⟨arr,ty,g1,g2,g6,g3⟩:=k3
   refine ⟨arr,ty,(hother b' hne (hlt b' (by rw [k1]; simp))).trans g1,g2,g6,fun i x u hx hu=>⟨(g3 i x u hx hu).1,Xi (fun q hq => ?_) (g3 i x u hx hu).2⟩⟩
   rcases hq with rfl | hq
   ·simpa using fun e=>absurd e hid
   ·rw [Vn (g3 i x u hx hu).1] at hq; cases hq
 ·obtain ⟨v',h1,h2⟩:=h.fr t x hx
  refine ⟨v',h1,Xi (fun q hq => ?_) h2⟩
  rcases hq with rfl | hq
  ·simp
  ·rintro rfl
   rw [hF t x hx] at hq
   cases hq
end
structure qe1 (w w':World) (g e sz n cap:Nat) (vs':List Value):Prop where
 os:w'.os=w.os
 tape:w'.tape=w.tape
 output:w'.output=w.output
 size:w.heap.size≤w'.heap.size
 other:∀ b,b≠g→b<w.heap.size→w'.heap[b]? = w.heap[b]?
 row:w'.ownsRow 0 e sz (.slice (some ⟨g,0,none⟩) n cap) n vs'
structure SortsIn {α:Type} (P:Program) (f:FuncId) (t:TypeId) (g:FuncId) (e sz:Nat) (enc:α→List Value) (R:List α→List α→Prop):Prop where
 row:∀ (Bs blk cap:Nat) (zs:List α) (w:World),zs.length<4611686018427387904→w.cell? ⟨Bs,0,none⟩=some (.slice (some ⟨blk,0,none⟩) zs.length cap)→Bs≠blk→w.ownsRow 0 e sz (.slice (some ⟨blk,0,none⟩) zs.length cap) zs.length (zs.flatMap enc) →
  Calls P f #[.iface t (.slice (some ⟨blk,0,none⟩) zs.length cap),.func (.func g) #[] #[.pointer (some ⟨Bs,0,none⟩)]] w fun e' w'=>e' = .returned (.tuple #[])∧∃ ys,R zs ys∧ys.length=zs.length∧qe1 w w' blk e sz zs.length cap (ys.flatMap enc)
 none:∀ (Bs:Nat) (w:World),Calls P f #[.iface t (.slice none 0 0),.func (.func g) #[] #[.pointer (some ⟨Bs,0,none⟩)]] w fun e' w'=>e' = .returned (.tuple #[])∧R [] []∧Go.RowKit.Below w.heap.size w w'
def scs {α:Type} (enc:α→List Value) (zs:List α):List V:=zs.flatMap fun x=>(enc x).map V.sc
theorem qkc:∀ l:List Value,V.jg (l.map V.sc)=some l
 | []=>rfl
 | v::l=>by simp [V.jg,V.exact,qkc l]
theorem scs_eq {α:Type} (enc:α→List Value) (zs:List α):scs enc zs=(zs.flatMap enc).map V.sc:=by
 unfold scs
 induction zs with
 | nil=>rfl
 | cons x xs ih=>simp [ih]
theorem qh8 {α:Type} {enc:α→List Value} {zs:List α} {I:Nat→Nat→Option Value} {φ:List Nat} {vs:List Value} (h:vM I φ (scs enc zs) vs):vs=zs.flatMap enc:=by
 rw [scs_eq] at h
 exact vM.exact h (qkc _)
theorem qh6 {α:Type} {enc:α→List Value} {zs:List α} {I:Nat→Nat→Option Value} {φ:List Nat}:vM I φ (scs enc zs) (zs.flatMap enc):=by
 rw [scs_eq]
 generalize zs.flatMap enc=l
 induction l with
 | nil=>exact .nil
 | cons v l ih=>exact .cons (.sc v) ih
theorem AW.qh0 {α:Type} {P:Program} {N:Nat} {id:Nat} {ops:Array Oper} {Q:Exit→St→Prop} {F:Fr} {H:List Bk} {f g:FuncId} {t e sz n:Nat} {enc:α→List Value} {R:List α→List α→Prop} {o1 o2 o3 o4:Oper} {x p1 p2 p3 p4:Nat} {i:Nat} {ks:List SV} {zs:List α}
  (hf:SortsIn P f t g e sz enc R) (hen:Enters P f) (h1c:∀ x,∀ v∈enc x,v.oneCell'=true)
  (hops:ops.toList = [o1,o2,o3,o4]) (h1:o1.op = .load t (.tmp x)) (hd1:o1.dst=some p1) (hg1:o1.guard=none) (h2:o2.op = .makeInterface t (.tmp p1)) (hd2:o2.dst=some p2) (hg2:o2.guard=none)
  (h3:o3.op = .makeFunc (.func g) #[] #[.tmp x]) (hd3:o3.dst=some p3) (hg3:o3.guard=none) {ts:Array TypeId} (h4:o4.op = .call { callee := .value (.func f),args := #[.tmp p2,.tmp p3],argTypes:=ts }) (hd4:o4.dst=some p4) (hg4:o4.guard=none)
  (hx1:x≠p1) (hx2:x≠p2) (h12:p1≠p2) (h13:p1≠p3) (h23:p2≠p3) (hp1:p1<N) (hp2:p2<N) (hp3:p3<N) (hp4:p4<N) (haT:yJ P t=some false) (hsT:sizeT P t=some 1) (hu:∃ el,P.underlying t=some (.slice el))
  (hF:qm x F=some (.v (.ptr i 0))) (hH:H[i]? = some (.cells ks)) (hks:ks[0]? = some (.own true e n sz (scs enc zs))) (hn:n=zs.length) (hsz:zs.length<4611686018427387904)
  (hQ:∀ ys,R zs ys→ys.length=zs.length→Q .normal ⟨QI (.cell i 0) (vO p4 .any (vO p3 .any (vO p2 .any (vO p1 .any F)))),qo H i 0 (.own true e n sz (scs enc ys))⟩):AW P N (.region id ops false) Q ⟨F,H⟩:=fun c a w hs=>by
 subst hn
 obtain ⟨vx,hvx,hrx⟩:=hs.fr x _ (QO hF)
 cases hrx with
 | ptr hb =>
  rename_i b
  obtain ⟨k1,k2,arr,ty,g1,g2,g6,g3⟩:=hs.inv.blk i b _ hb hH
  have hj0:0<arr.size:=by rw [g2]; exact (List.getElem?_eq_some_iff.1 hks).1
  obtain ⟨_,h0,vs,r1,r2,r3,r4⟩:=g3 0 _ _ hks (Array.getElem?_eq_getElem hj0)
  have hcell:w.cell? ⟨b,0,none⟩=some arr[0]:=by simp [World.cell?,g1,hj0]
  generalize arr[0]=v at r2 r4 hcell
  obtain rfl:=qh8 r1
  let a1:=a.put (some p1) v
  let a2:=a1.put (some p2) (.iface t v)
  let fv:Value := .func (.func g) #[] #[.pointer (some ⟨b,0,none⟩)]
  let a3:=a2.put (some p3) fv
  have ex:a.eval (.tmp x) = .pointer (some ⟨b,0,none⟩):=by simp [Act.eval,hvx]
  have hsz0:=hs.size
  have e1:a1.eval (.tmp p1)=v:=by simp [a1,Act.put,Act.eval,hsz0,hp1]
  have e2:a2.eval (.tmp x) = .pointer (some ⟨b,0,none⟩):=by simp [a2,a1,Act.put,Act.eval,Array.getElem?_setIfInBounds,Ne.symm hx1,Ne.symm hx2,hvx]
  have e3:a3.eval (.tmp p2) = .iface t v:=by simp [a3,a2,a1,Act.put,Act.eval,Array.getElem?_setIfInBounds,Ne.symm h23,hsz0,hp2]
  have e4:a3.eval (.tmp p3)=fv:=by simp [a3,a2,a1,Act.put,Act.eval,Array.getElem?_setIfInBounds,hsz0,hp3]
  have s1:=hs.put (t:=p1) (x := .any) (v:=v) hp1 trivial trivial
  have s2:=s1.put (t:=p2) (x := .any) (v := .iface t v) hp2 trivial trivial
  have s3:=s2.put (t:=p3) (x := .any) (v:=fv) hp3 trivial trivial
  have xe:Ext c w (((c.free (.slot p1)).free (.slot p2)).free (.slot p3)) w:=((Ext.free c w _).trans (Ext.free _ w _)).trans (Ext.free _ w _)
  have fown:∀ g',c.R g' = .own (.cell i 0)→(((c.free (.slot p1)).free (.slot p2)).free (.slot p3)).R g' = .own (.cell i 0):=fun g' hg'=>WQ (WQ (WQ hg' (by simp)) (by simp)) (by simp)
  have acts1:Yl P o1 a w fun a' w'=>a'=a1∧w'=w:=by
   refine Reads.acts ⟨v,fun w' hw => ?_,by rw [hd1]; exact ⟨rfl,rfl⟩⟩
   have h8:=(hw (by rw [h1]; rfl)).cell hcell
   unfold execOp
   simp only [h1,ex,Instr.loadAt,Instr.sureAddr,Sem.run_bind,Sem.run_pure,Result.andThen_ok,loadVar,Vr haT,Bool.false_eq_true,if_false]
   simp [load,Sem.run,h8]
  have acts2:Yl P o2 a1 w fun a' w'=>a'=a2∧w'=w:=by
   refine Reads.acts ⟨.iface t v,fun w' _ => ?_,by rw [hd2]; exact ⟨rfl,rfl⟩⟩
   obtain ⟨el,hel⟩:=hu
   unfold execOp
   simp only [h2,e1,Instr.makeInterface,Sem.run_bind,qX hel,Result.andThen_ok,Sem.run_pure]
  have acts3:Yl P o3 a2 w fun a' w'=>a'=a3∧w'=w:=by
   refine Reads.acts ⟨fv,fun w' _ => ?_,by rw [hd3]; exact ⟨rfl,rfl⟩⟩
   unfold execOp
   simp only [h3,Instr.makeFunc,Sem.run_bind,Sem.run_pure,Result.andThen_ok]
   simp [e2,fv]
  have acts4:Yl P o4 a3 w (Post c w N (Q .normal)):=by
   obtain ⟨fn,q1,q2,q3⟩:=hen
   unfold Yl Oper.wp
   have hrun:(execOp a3.eval o4).run P w = .ok (.enter f #[.iface t v,fv]) w:=by
    have hfv:a3.eval (.func f) = .func (.func f) #[] #[]:=rfl
    have e5:fn.body.isNone=false:=by cases hb:fn.body <;> simp_all
    unfold execOp
    simp only [h4,resolve,hfv,Deferred.ofValue,Sem.run_bind,Sem.run_pure,Result.andThen_ok,invoke,callFunc,run_program,q1,q3,Bool.false_eq_true,if_false,e5]
    simp [e3,e4]
   rw [hrun,Oper.upon_enter]
   have hbel:∀ k u,(k,u)∈QI (.cell i 0) (vO p3 .any (vO p2 .any (vO p1 .any F)))→u.refers (.cell i 0)=false:=fun k u hku=>(qaX hku).2
   have s3':=s3.sub (F':=QI (.cell i 0) (vO p3 .any (vO p2 .any (vO p1 .any F)))) fun p hp=>(qaX (x:=p.2) (k:=p.1) hp).1
   have fin:∀ w' ys,R zs ys→ys.length=zs.length→∀ c',Ext c w c' w'→Sim c' N ⟨QI (.cell i 0) (vO p3 .any (vO p2 .any (vO p1 .any F))),qo H i 0 (.own true e zs.length sz (scs enc ys))⟩ a3 w'→Post c w N (Q .normal) (a3.put (some p4) (.tuple #[])) w':=by
    intro w' ys hR hl c' hx hsim
    refine ⟨_,_,hsim.put (t:=p4) (x := .any) (v := .tuple #[]) hp4 trivial trivial,hx.trans (Ext.free _ _ _),?_⟩
    have:=hQ ys hR hl
    have ef:vO p4 .any (QI (.cell i 0) (vO p3 .any (vO p2 .any (vO p1 .any F))))=QI (.cell i 0) (vO p4 .any (vO p3 .any (vO p2 .any (vO p1 .any F)))):=by
     generalize vO p3 .any (vO p2 .any (vO p1 .any F))=G
     have hdd:∀ G:Fr,del p4 (QI (.cell i 0) G)=QI (.cell i 0) (del p4 G):=by
      intro G
      induction G with
      | nil=>rfl
      | cons q G ih =>
       obtain ⟨k,y⟩:=q
       cases hr:y.refers (.cell i 0) <;> cases hd:(k==p4||y.refers (.slot p4)) <;> simp [QI,del,hr,hd,ih]
     unfold vO
     rw [hdd]
     simp [QI,SV.refers]
    rw [ef]
    exact this
   rcases r2.2 with ⟨rfl,hnil⟩ | ⟨g',cap,cur,rfl,hbase,c1,c2,c3,c4,c5⟩
   ·have hz:zs = []:=by
     have:=hnil
     cases zs with
     | nil=>rfl
     | cons z zs=>simp at this
    subst hz
    refine (hf.none b w).mono fun e' w' he => ?_
    obtain ⟨rfl,hR0,hbl⟩:=he
    rw [hd4]
    have hheap:∀ k,k<w.heap.size→w'.heap[k]? = w.heap[k]? := fun k hk=>hbl.block k hk
    refine fin w' [] hR0 rfl _ (xe.trans ⟨hbl.os,hbl.tape,hbl.output,hbl.size,fun k hk ho=>⟨hheap k hk,ho,fun _=>rfl⟩,fun _ _ _ h=>h,fun _ _ h=>h⟩) ?_
    have hs4:=(s3'.past (c3:=⟨(((c.free (.slot p1)).free (.slot p2)).free (.slot p3)).I,[],fun _ => .out⟩) (c0:=⟨(((c.free (.slot p1)).free (.slot p2)).free (.slot p3)).I,[],fun _ => .out⟩) (H' := []) (w':=w') rfl (fun _=>rfl)
     ⟨fun b o v hv=>by
      have:=hs.inv.imm b o v hv
      rw [World.cell?_of_block (a:=⟨b,o,none⟩) (hheap b (World.block_lt_of_cell? w ⟨b,o,none⟩ this))]
      exact this,rfl,fun b hb=>absurd rfl hb,fun b b' r hb=>(by cases hb),fun id b k hb hk=>(by simp at hb)⟩
     ⟨hbl.os,hbl.tape,hbl.output,hbl.size,fun k hk _=>⟨hheap k hk,rfl,fun _=>rfl⟩,fun _ _ _ h=>h,fun _ _ h=>by simp at h⟩).1
    have:qo H i 0 (.own true e ([]:List α).length sz (scs enc []))=H:=by
     have:ks.set 0 (.own true e 0 sz (scs enc ([]:List α)))=ks:=by
      apply List.ext_getElem?
      intro m
      rw [List.getElem?_set]
      split
      ·rename_i h
       subst h
       split
       ·exact hks.symm
       ·rename_i h
        have:=(List.getElem?_eq_some_iff.1 hks).1
        omega
      ·rfl
     rw [zF hH]
     simp only [List.length_nil]
     rw [this]
     apply List.ext_getElem?
     intro m
     rw [List.getElem?_set]
     split
     ·rename_i h
      subst h
      split
      ·exact hH.symm
      ·rename_i h
       have:=(List.getElem?_eq_some_iff.1 hH).1
       omega
     ·rfl
    rw [this]
    exact hs4
   ·obtain ⟨p1',p2'⟩:=r4 g' rfl
    have hbg:b≠g':=by rintro rfl; rw [k1] at p1'; cases p1'
    have hrow:w.ownsRow 0 e sz (.slice (some ⟨g',0,none⟩) zs.length cap) zs.length (zs.flatMap enc):=r2
    refine (hf.row b g' cap zs w hsz hcell hbg hrow).mono fun e' w' he => ?_
    obtain ⟨rfl,ys,hR,hl,ht⟩:=he
    rw [hd4]
    refine fin w' ys hR hl _ (xe.trans ⟨ht.os,ht.tape,ht.output,ht.size,fun k hk ho=>⟨ht.other k (by rintro rfl; rw [fown _ p1'] at ho; cases ho) hk,ho,fun _=>rfl⟩,fun _ _ _ h=>h,fun _ _ h=>h⟩) ?_
    refine s3'.qlS (b:=b) (g:=g') hb hH (fown g' p1') p2' ⟨_,_,_,c1⟩ hbel ht.other ht.size hcell ?_
    exact ⟨h0,_,qh6,ht.row,fun u hu=>by obtain ⟨z,_,hz⟩:=List.mem_flatMap.1 hu; exact h1c z u hz,fun b' hb'=>by
     cases hb'
     exact ⟨fown g' p1',p2'⟩⟩
  refine wp_region_list ?_
  rw [hops]
  refine wpList_step fun K' hK' => ?_
  rw [if_pos (by simp [Region.wanted,hg1])]
  refine Mix.ZX (Mix.Zt (fun d v w' h2 => ?_) (Mix.Jh acts1))
  obtain ⟨ea,rfl⟩:=h2
  refine hK' _ _ ?_
  rw [ea]
  refine wpList_step fun K' hK' => ?_
  rw [if_pos (by simp [Region.wanted,hg2])]
  refine Mix.ZX (Mix.Zt (fun d v w' h2 => ?_) (Mix.Jh acts2))
  obtain ⟨ea,rfl⟩:=h2
  refine hK' _ _ ?_
  rw [ea]
  refine wpList_step fun K' hK' => ?_
  rw [if_pos (by simp [Region.wanted,hg3])]
  refine Mix.ZX (Mix.Zt (fun d v w' h2 => ?_) (Mix.Jh acts3))
  obtain ⟨ea,rfl⟩:=h2
  refine hK' _ _ ?_
  rw [ea]
  refine wpList_step fun K' hK' => ?_
  rw [if_pos (by simp [Region.wanted,hg4])]
  refine Mix.ZX (Mix.Zt (fun d v w' h2 => ?_) (Mix.Jh acts4))
  exact hK' _ _ (wpList_nil h2)
@[simp] theorem slot_beq (a b:Nat):(Root.slot a==Root.slot b)=(a==b):=by
 by_cases h:a=b
 ·subst h; simp
 ·have h1:(Root.slot a==Root.slot b)=false:=by simpa using h
  rw [h1]
  exact (by simpa using h:(a==b)=false).symm
@[simp] theorem slot_beq_cell (a i j:Nat):(Root.slot a==Root.cell i j)=false:=by simp
@[simp] theorem cell_beq_slot (a i j:Nat):(Root.cell i j==Root.slot a)=false:=by simp
section
variable {P:Program} {c:Cx} {N:Nat} {a:Act} {w w':World} {F:Fr} {H:List Bk}
theorem Sim.rewrite {u g e n sz:Nat} {cs':List V} {v:Value} (h:Sim c N ⟨F,H⟩ a w) (hR:c.R g = .own (.slot u)) (hI:∀ o,c.I g o=none) (hg:∃ arr e f,w.heap[g]? = some (.cells arr e f)) (hF:∀ k x,(k,x)∈F→x.refers (.slot u)=false)
  (hother:∀ k,k≠g→k<w.heap.size→w'.heap[k]? = w.heap[k]?) (hsize:w.heap.size≤w'.heap.size) (hv:a.tmps[u]? = some v) (hnew:QF c w' (.slot u) (.own true e n sz cs') v):Sim c N ⟨yR u (.own true e n sz cs') F,H⟩ a w':=by
 have hlt:∀ b,c.R b ≠ .out→b<w.heap.size:=h.inv.lt
 have keep:∀ b q,c.R b = .own q→q ≠ .slot u→w'.heap[b]? = w.heap[b]? := fun b q hb hq=>hother b (by rintro rfl; rw [hR] at hb; exact hq (by simpa using hb.symm)) (hlt b (by rw [hb]; simp))
 refine ⟨⟨fun b o v hv => ?_,h.inv.len,fun b hb=>Nat.lt_of_lt_of_le (hlt b hb) hsize,h.inv.uniq,fun id b k hb hk => ?_⟩,h.size,h.defers,fun t x hx => ?_⟩
 ·have hne:b≠g:=by rintro rfl; rw [hI] at hv; cases hv
  have hc:=h.inv.imm b o v hv
  rw [World.cell?_of_block (a:=⟨b,o,none⟩) (hother b hne (World.block_lt_of_cell? w ⟨b,o,none⟩ hc))]
  exact hc
 ·obtain ⟨k1,k2,k3⟩:=h.inv.blk id b k hb hk
  have hne:b≠g:=by rintro rfl; rw [hR] at k1; cases k1
  refine ⟨k1,k2,?_⟩
  by_cases hck:∃ cs,k = .cells cs
  rotate_left
  ·refine qac.stay (fun cs e=>hck ⟨cs,e⟩) k3 (fun _ _ _ h=>h) (fun _ _ h=>h) (fun b' o ho hn => ?_)
   have hb':b'<w.heap.size:=XI ho
   by_cases hbg:b'=g
   ·subst hbg
    obtain ⟨arr,e,f,hc⟩:=hg
    exact absurd (Option.some.inj (ho.symm.trans hc)) (hn arr e f)
   ·exact (hother b' hbg hb').trans ho
  obtain ⟨cs,rfl⟩:=hck
  obtain ⟨arr,e,g1,g2,g6,g3⟩:=k3
  refine ⟨arr,e,(hother b hne (hlt b (by rw [k1]; simp))).trans g1,g2,g6,fun j x v hx hv=>⟨(g3 j x v hx hv).1,?_⟩⟩
  refine QF.mono (c:=c) (c':=c) (w:=w) (w':=w') (fun _ _ _ h=>h) (fun _ _ h=>h) (fun b' q hq hb'=>⟨hb',keep b' q hb' ?_,fun _=>rfl⟩) (g3 j x v hx hv).2
  rcases hq with rfl | hq
  ·simp
  ·rw [Vn (g3 j x v hx hv).1] at hq; cases hq
 ·rcases KD hx with ⟨rfl,rfl⟩ | ⟨hne,hx⟩
  ·exact ⟨v,hv,hnew⟩
  ·obtain ⟨v',h1,h2⟩:=h.fr t x hx
   refine ⟨v',h1,QF.mono (c:=c) (c':=c) (w:=w) (w':=w') (fun _ _ _ h=>h) (fun _ _ h=>h) (fun b' q hq hb'=>⟨hb',keep b' q hb' ?_,fun _=>rfl⟩) h2⟩
   rcases hq with rfl | hq
   ·intro e; exact hne (by simpa using e)
   ·rintro rfl
    rw [hF t x hx] at hq
    cases hq
end
def ints (zs:List Int):List V:=zs.map fun z => .sc (.int .i64 z)
end AM
end Go.Proofs.YtnconfggojpkcaaGreat
