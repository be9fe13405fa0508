/- The types of the program: sizes, fields, zero cells, elements. Printed by wip/gen/types.py; each fact is closed. -/
import Derived.Test.YtmjnffjacgjfmaaGreatRows
import Derived.Test.YtmjnffjacgjfmaaGreatAo
namespace Go.Proofs.YtmjnffjacgjfmaaGreat
open Go.RowKit AM
namespace Ty
@[simp] theorem g1 : aggT Tryz.prog 1 = some false := by kernel_rfl
@[simp] theorem s1 : sizeT Tryz.prog 1 = some 1 := by kernel_rfl
@[simp] theorem z1 : zeroCs Tryz.prog 1 = some [.sc (.nilFunc)] := by kernel_rfl
@[simp] theorem g2 : aggT Tryz.prog 2 = some false := by kernel_rfl
@[simp] theorem s2 : sizeT Tryz.prog 2 = some 1 := by kernel_rfl
@[simp] theorem z2 : zeroCs Tryz.prog 2 = some [.sc (.int .i64 0)] := by kernel_rfl
@[simp] theorem u2 : Tryz.prog.underlying 2 = some (.int .i64) := by kernel_rfl
@[simp] theorem g3 : aggT Tryz.prog 3 = some false := by kernel_rfl
@[simp] theorem s3 : sizeT Tryz.prog 3 = some 1 := by kernel_rfl
@[simp] theorem z3 : zeroCs Tryz.prog 3 = some [.sc (.int .i64 0)] := by kernel_rfl
@[simp] theorem u3 : Tryz.prog.underlying 3 = some (.int .i64) := by kernel_rfl
@[simp] theorem g4 : aggT Tryz.prog 4 = some false := by kernel_rfl
@[simp] theorem s4 : sizeT Tryz.prog 4 = some 1 := by kernel_rfl
@[simp] theorem z4 : zeroCs Tryz.prog 4 = some [.sc (.bool false)] := by kernel_rfl
@[simp] theorem u4 : Tryz.prog.underlying 4 = some .bool := by kernel_rfl
@[simp] theorem g5 : aggT Tryz.prog 5 = some false := by kernel_rfl
@[simp] theorem s5 : sizeT Tryz.prog 5 = some 1 := by kernel_rfl
@[simp] theorem z5 : zeroCs Tryz.prog 5 = some [.sc (.int .u8 0)] := by kernel_rfl
@[simp] theorem u5 : Tryz.prog.underlying 5 = some (.int .u8) := by kernel_rfl
@[simp] theorem g6 : aggT Tryz.prog 6 = some false := by kernel_rfl
@[simp] theorem s6 : sizeT Tryz.prog 6 = some 1 := by kernel_rfl
@[simp] theorem z6 : zeroCs Tryz.prog 6 = some [.sc (.int .u8 0)] := by kernel_rfl
@[simp] theorem u6 : Tryz.prog.underlying 6 = some (.int .u8) := by kernel_rfl
@[simp] theorem g7 : aggT Tryz.prog 7 = some true := by kernel_rfl
@[simp] theorem s7 : sizeT Tryz.prog 7 = some 4 := by kernel_rfl
@[simp] theorem z7 : zeroCs Tryz.prog 7 = some [.sc (.int .i64 0), .sc (.int .i64 0), .sc (.bool false), .sc (.int .u8 0)] := by kernel_rfl
@[simp] theorem f7_0 : fieldT Tryz.prog 7 0 = some 0 := by kernel_rfl
@[simp] theorem f7_1 : fieldT Tryz.prog 7 1 = some 1 := by kernel_rfl
@[simp] theorem f7_2 : fieldT Tryz.prog 7 2 = some 2 := by kernel_rfl
@[simp] theorem f7_3 : fieldT Tryz.prog 7 3 = some 3 := by kernel_rfl
@[simp] theorem p7 : placeOf Tryz.prog 7 = some (fun i => ([(0, 1), (1, 1), (2, 1), (3, 1)] : List (Nat × Nat))[i]?) := by kernel_rfl
@[simp] theorem g8 : aggT Tryz.prog 8 = some true := by kernel_rfl
@[simp] theorem s8 : sizeT Tryz.prog 8 = some 4 := by kernel_rfl
@[simp] theorem z8 : zeroCs Tryz.prog 8 = some [.sc (.int .i64 0), .sc (.int .i64 0), .sc (.bool false), .sc (.int .u8 0)] := by kernel_rfl
@[simp] theorem f8_0 : fieldT Tryz.prog 8 0 = some 0 := by kernel_rfl
@[simp] theorem f8_1 : fieldT Tryz.prog 8 1 = some 1 := by kernel_rfl
@[simp] theorem f8_2 : fieldT Tryz.prog 8 2 = some 2 := by kernel_rfl
@[simp] theorem f8_3 : fieldT Tryz.prog 8 3 = some 3 := by kernel_rfl
@[simp] theorem p8 : placeOf Tryz.prog 8 = some (fun i => ([(0, 1), (1, 1), (2, 1), (3, 1)] : List (Nat × Nat))[i]?) := by kernel_rfl
@[simp] theorem g9 : aggT Tryz.prog 9 = some false := by kernel_rfl
@[simp] theorem s9 : sizeT Tryz.prog 9 = some 1 := by kernel_rfl
@[simp] theorem z9 : zeroCs Tryz.prog 9 = some [.sc (.string ⟨#[]⟩)] := by kernel_rfl
@[simp] theorem u9 : Tryz.prog.underlying 9 = some .string := by kernel_rfl
@[simp] theorem g10 : aggT Tryz.prog 10 = some false := by kernel_rfl
@[simp] theorem s10 : sizeT Tryz.prog 10 = some 1 := by kernel_rfl
@[simp] theorem z10 : zeroCs Tryz.prog 10 = some [.sc (.string ⟨#[]⟩)] := by kernel_rfl
@[simp] theorem u10 : Tryz.prog.underlying 10 = some .string := by kernel_rfl
@[simp] theorem g11 : aggT Tryz.prog 11 = some false := by kernel_rfl
@[simp] theorem s11 : sizeT Tryz.prog 11 = some 1 := by kernel_rfl
@[simp] theorem z11 : zeroCs Tryz.prog 11 = some [.sc (.string ⟨#[]⟩)] := by kernel_rfl
@[simp] theorem u11 : Tryz.prog.underlying 11 = some .string := by kernel_rfl
@[simp] theorem g12 : aggT Tryz.prog 12 = some false := by kernel_rfl
@[simp] theorem s12 : sizeT Tryz.prog 12 = some 1 := by kernel_rfl
@[simp] theorem z12 : zeroCs Tryz.prog 12 = some [.sc (.int .u64 0)] := by kernel_rfl
@[simp] theorem u12 : Tryz.prog.underlying 12 = some (.int .u64) := by kernel_rfl
@[simp] theorem g13 : aggT Tryz.prog 13 = some true := by kernel_rfl
@[simp] theorem s13 : sizeT Tryz.prog 13 = some 2 := by kernel_rfl
@[simp] theorem z13 : zeroCs Tryz.prog 13 = some [.sc (.string ⟨#[]⟩), .sc (.int .u64 0)] := by kernel_rfl
@[simp] theorem f13_0 : fieldT Tryz.prog 13 0 = some 0 := by kernel_rfl
@[simp] theorem f13_1 : fieldT Tryz.prog 13 1 = some 1 := by kernel_rfl
@[simp] theorem p13 : placeOf Tryz.prog 13 = some (fun i => ([(0, 1), (1, 1)] : List (Nat × Nat))[i]?) := by kernel_rfl
@[simp] theorem g14 : aggT Tryz.prog 14 = some true := by kernel_rfl
@[simp] theorem s14 : sizeT Tryz.prog 14 = some 2 := by kernel_rfl
@[simp] theorem z14 : zeroCs Tryz.prog 14 = some [.sc (.string ⟨#[]⟩), .sc (.int .u64 0)] := by kernel_rfl
@[simp] theorem f14_0 : fieldT Tryz.prog 14 0 = some 0 := by kernel_rfl
@[simp] theorem f14_1 : fieldT Tryz.prog 14 1 = some 1 := by kernel_rfl
@[simp] theorem p14 : placeOf Tryz.prog 14 = some (fun i => ([(0, 1), (1, 1)] : List (Nat × Nat))[i]?) := by kernel_rfl
@[simp] theorem g15 : aggT Tryz.prog 15 = some false := by kernel_rfl
@[simp] theorem s15 : sizeT Tryz.prog 15 = some 1 := by kernel_rfl
@[simp] theorem z15 : zeroCs Tryz.prog 15 = some [.sc (.pointer none)] := by kernel_rfl
@[simp] theorem u15 : Tryz.prog.underlying 15 = some (.pointer 155) := by kernel_rfl
@[simp] theorem g16 : aggT Tryz.prog 16 = some false := by kernel_rfl
@[simp] theorem s16 : sizeT Tryz.prog 16 = some 1 := by kernel_rfl
@[simp] theorem z16 : zeroCs Tryz.prog 16 = some [.sc (.pointer none)] := by kernel_rfl
@[simp] theorem u16 : Tryz.prog.underlying 16 = some (.pointer 158) := by kernel_rfl
@[simp] theorem g17 : aggT Tryz.prog 17 = some false := by kernel_rfl
@[simp] theorem s17 : sizeT Tryz.prog 17 = some 1 := by kernel_rfl
@[simp] theorem z17 : zeroCs Tryz.prog 17 = some [.sc (.pointer none)] := by kernel_rfl
@[simp] theorem u17 : Tryz.prog.underlying 17 = some (.pointer 166) := by kernel_rfl
@[simp] theorem g18 : aggT Tryz.prog 18 = some true := by kernel_rfl
@[simp] theorem s18 : sizeT Tryz.prog 18 = some 1 := by kernel_rfl
@[simp] theorem z18 : zeroCs Tryz.prog 18 = some [.sc (.pointer none)] := by kernel_rfl
@[simp] theorem f18_0 : fieldT Tryz.prog 18 0 = some 0 := by kernel_rfl
@[simp] theorem p18 : placeOf Tryz.prog 18 = some (fun i => ([(0, 1)] : List (Nat × Nat))[i]?) := by kernel_rfl
@[simp] theorem g19 : aggT Tryz.prog 19 = some true := by kernel_rfl
@[simp] theorem s19 : sizeT Tryz.prog 19 = some 1 := by kernel_rfl
@[simp] theorem z19 : zeroCs Tryz.prog 19 = some [.sc (.pointer none)] := by kernel_rfl
@[simp] theorem f19_0 : fieldT Tryz.prog 19 0 = some 0 := by kernel_rfl
@[simp] theorem p19 : placeOf Tryz.prog 19 = some (fun i => ([(0, 1)] : List (Nat × Nat))[i]?) := by kernel_rfl
@[simp] theorem g21 : aggT Tryz.prog 21 = some false := by kernel_rfl
@[simp] theorem s21 : sizeT Tryz.prog 21 = some 1 := by kernel_rfl
@[simp] theorem z21 : zeroCs Tryz.prog 21 = some [.sc (.int .i32 0)] := by kernel_rfl
@[simp] theorem u21 : Tryz.prog.underlying 21 = some (.int .i32) := by kernel_rfl
@[simp] theorem g22 : aggT Tryz.prog 22 = some true := by kernel_rfl
@[simp] theorem s22 : sizeT Tryz.prog 22 = some 2 := by kernel_rfl
@[simp] theorem z22 : zeroCs Tryz.prog 22 = some [.sc (.int .i64 0), .sc (.int .i64 0)] := by kernel_rfl
@[simp] theorem f22_0 : fieldT Tryz.prog 22 0 = some 0 := by kernel_rfl
@[simp] theorem f22_1 : fieldT Tryz.prog 22 1 = some 1 := by kernel_rfl
@[simp] theorem p22 : placeOf Tryz.prog 22 = some (fun i => ([(0, 1), (1, 1)] : List (Nat × Nat))[i]?) := by kernel_rfl
@[simp] theorem g23 : aggT Tryz.prog 23 = some true := by kernel_rfl
@[simp] theorem s23 : sizeT Tryz.prog 23 = some 2 := by kernel_rfl
@[simp] theorem z23 : zeroCs Tryz.prog 23 = some [.sc (.int .i64 0), .sc (.int .i64 0)] := by kernel_rfl
@[simp] theorem f23_0 : fieldT Tryz.prog 23 0 = some 0 := by kernel_rfl
@[simp] theorem f23_1 : fieldT Tryz.prog 23 1 = some 1 := by kernel_rfl
@[simp] theorem p23 : placeOf Tryz.prog 23 = some (fun i => ([(0, 1), (1, 1)] : List (Nat × Nat))[i]?) := by kernel_rfl
@[simp] theorem g24 : aggT Tryz.prog 24 = some true := by kernel_rfl
@[simp] theorem s24 : sizeT Tryz.prog 24 = some 4 := by kernel_rfl
@[simp] theorem z24 : zeroCs Tryz.prog 24 = some [.sc (.int .i64 0), .sc (.int .i64 0), .sc (.int .i64 0), .sc (.int .i64 0)] := by kernel_rfl
@[simp] theorem f24_0 : fieldT Tryz.prog 24 0 = some 0 := by kernel_rfl
@[simp] theorem f24_1 : fieldT Tryz.prog 24 1 = some 1 := by kernel_rfl
@[simp] theorem f24_2 : fieldT Tryz.prog 24 2 = some 3 := by kernel_rfl
@[simp] theorem p24 : placeOf Tryz.prog 24 = some (fun i => ([(0, 1), (1, 2), (3, 1)] : List (Nat × Nat))[i]?) := by kernel_rfl
@[simp] theorem g25 : aggT Tryz.prog 25 = some true := by kernel_rfl
@[simp] theorem s25 : sizeT Tryz.prog 25 = some 4 := by kernel_rfl
@[simp] theorem z25 : zeroCs Tryz.prog 25 = some [.sc (.int .i64 0), .sc (.int .i64 0), .sc (.int .i64 0), .sc (.int .i64 0)] := by kernel_rfl
@[simp] theorem f25_0 : fieldT Tryz.prog 25 0 = some 0 := by kernel_rfl
@[simp] theorem f25_1 : fieldT Tryz.prog 25 1 = some 1 := by kernel_rfl
@[simp] theorem f25_2 : fieldT Tryz.prog 25 2 = some 3 := by kernel_rfl
@[simp] theorem p25 : placeOf Tryz.prog 25 = some (fun i => ([(0, 1), (1, 2), (3, 1)] : List (Nat × Nat))[i]?) := by kernel_rfl
@[simp] theorem g26 : aggT Tryz.prog 26 = some true := by kernel_rfl
@[simp] theorem s26 : sizeT Tryz.prog 26 = some 4 := by kernel_rfl
@[simp] theorem z26 : zeroCs Tryz.prog 26 = some [.sc (.int .i64 0), .sc (.int .i64 0), .sc (.int .i64 0), .sc (.int .i64 0)] := by kernel_rfl
@[simp] theorem f26_0 : fieldT Tryz.prog 26 0 = some 0 := by kernel_rfl
@[simp] theorem f26_1 : fieldT Tryz.prog 26 1 = some 1 := by kernel_rfl
@[simp] theorem f26_2 : fieldT Tryz.prog 26 2 = some 2 := by kernel_rfl
@[simp] theorem f26_3 : fieldT Tryz.prog 26 3 = some 3 := by kernel_rfl
@[simp] theorem p26 : placeOf Tryz.prog 26 = some (fun i => ([(0, 1), (1, 1), (2, 1), (3, 1)] : List (Nat × Nat))[i]?) := by kernel_rfl
@[simp] theorem g27 : aggT Tryz.prog 27 = some true := by kernel_rfl
@[simp] theorem s27 : sizeT Tryz.prog 27 = some 4 := by kernel_rfl
@[simp] theorem z27 : zeroCs Tryz.prog 27 = some [.sc (.int .i64 0), .sc (.int .i64 0), .sc (.int .i64 0), .sc (.int .i64 0)] := by kernel_rfl
@[simp] theorem f27_0 : fieldT Tryz.prog 27 0 = some 0 := by kernel_rfl
@[simp] theorem f27_1 : fieldT Tryz.prog 27 1 = some 1 := by kernel_rfl
@[simp] theorem f27_2 : fieldT Tryz.prog 27 2 = some 2 := by kernel_rfl
@[simp] theorem f27_3 : fieldT Tryz.prog 27 3 = some 3 := by kernel_rfl
@[simp] theorem p27 : placeOf Tryz.prog 27 = some (fun i => ([(0, 1), (1, 1), (2, 1), (3, 1)] : List (Nat × Nat))[i]?) := by kernel_rfl
@[simp] theorem g28 : aggT Tryz.prog 28 = some false := by kernel_rfl
@[simp] theorem s28 : sizeT Tryz.prog 28 = some 1 := by kernel_rfl
@[simp] theorem z28 : zeroCs Tryz.prog 28 = some [.sc (.pointer none)] := by kernel_rfl
@[simp] theorem u28 : Tryz.prog.underlying 28 = some (.pointer 46) := by kernel_rfl
@[simp] theorem g30 : aggT Tryz.prog 30 = some false := by kernel_rfl
@[simp] theorem s30 : sizeT Tryz.prog 30 = some 1 := by kernel_rfl
@[simp] theorem z30 : zeroCs Tryz.prog 30 = some [.sc (.nilFunc)] := by kernel_rfl
@[simp] theorem g31 : aggT Tryz.prog 31 = some false := by kernel_rfl
@[simp] theorem s31 : sizeT Tryz.prog 31 = some 1 := by kernel_rfl
@[simp] theorem z31 : zeroCs Tryz.prog 31 = some [.sc (.int .i64 0)] := by kernel_rfl
@[simp] theorem u31 : Tryz.prog.underlying 31 = some (.int .i64) := by kernel_rfl
@[simp] theorem g32 : aggT Tryz.prog 32 = some false := by kernel_rfl
@[simp] theorem s32 : sizeT Tryz.prog 32 = some 1 := by kernel_rfl
@[simp] theorem z32 : zeroCs Tryz.prog 32 = some [.sc (.nilFunc)] := by kernel_rfl
@[simp] theorem g33 : aggT Tryz.prog 33 = some false := by kernel_rfl
@[simp] theorem s33 : sizeT Tryz.prog 33 = some 1 := by kernel_rfl
@[simp] theorem z33 : zeroCs Tryz.prog 33 = some [.sc (.nilFunc)] := by kernel_rfl
@[simp] theorem g34 : aggT Tryz.prog 34 = some false := by kernel_rfl
@[simp] theorem s34 : sizeT Tryz.prog 34 = some 1 := by kernel_rfl
@[simp] theorem z34 : zeroCs Tryz.prog 34 = some [.sc (.nilFunc)] := by kernel_rfl
@[simp] theorem g35 : aggT Tryz.prog 35 = some false := by kernel_rfl
@[simp] theorem s35 : sizeT Tryz.prog 35 = some 1 := by kernel_rfl
@[simp] theorem z35 : zeroCs Tryz.prog 35 = some [.sc (.nilFunc)] := by kernel_rfl
@[simp] theorem g36 : aggT Tryz.prog 36 = some false := by kernel_rfl
@[simp] theorem s36 : sizeT Tryz.prog 36 = some 1 := by kernel_rfl
@[simp] theorem z36 : zeroCs Tryz.prog 36 = some [.nil] := by kernel_rfl
@[simp] theorem e36 : elT Tryz.prog 36 = some (25, 4, 32) := by kernel_rfl
@[simp] theorem u36 : Tryz.prog.underlying 36 = some (.slice 25) := by kernel_rfl
@[simp] theorem g37 : aggT Tryz.prog 37 = some false := by kernel_rfl
@[simp] theorem s37 : sizeT Tryz.prog 37 = some 1 := by kernel_rfl
@[simp] theorem z37 : zeroCs Tryz.prog 37 = some [.sc (.nilFunc)] := by kernel_rfl
@[simp] theorem g38 : aggT Tryz.prog 38 = some false := by kernel_rfl
@[simp] theorem s38 : sizeT Tryz.prog 38 = some 1 := by kernel_rfl
@[simp] theorem z38 : zeroCs Tryz.prog 38 = some [.sc (.nilFunc)] := by kernel_rfl
@[simp] theorem g39 : aggT Tryz.prog 39 = some false := by kernel_rfl
@[simp] theorem s39 : sizeT Tryz.prog 39 = some 1 := by kernel_rfl
@[simp] theorem z39 : zeroCs Tryz.prog 39 = some [.sc (.nilFunc)] := by kernel_rfl
@[simp] theorem g40 : aggT Tryz.prog 40 = some false := by kernel_rfl
@[simp] theorem s40 : sizeT Tryz.prog 40 = some 1 := by kernel_rfl
@[simp] theorem z40 : zeroCs Tryz.prog 40 = some [.sc (.nilFunc)] := by kernel_rfl
@[simp] theorem g41 : aggT Tryz.prog 41 = some false := by kernel_rfl
@[simp] theorem s41 : sizeT Tryz.prog 41 = some 1 := by kernel_rfl
@[simp] theorem z41 : zeroCs Tryz.prog 41 = some [.sc (.nilFunc)] := by kernel_rfl
@[simp] theorem g42 : aggT Tryz.prog 42 = some false := by kernel_rfl
@[simp] theorem s42 : sizeT Tryz.prog 42 = some 1 := by kernel_rfl
@[simp] theorem z42 : zeroCs Tryz.prog 42 = some [.nil] := by kernel_rfl
@[simp] theorem e42 : elT Tryz.prog 42 = some (74, 10, 96) := by kernel_rfl
@[simp] theorem u42 : Tryz.prog.underlying 42 = some (.slice 74) := by kernel_rfl
@[simp] theorem g43 : aggT Tryz.prog 43 = some false := by kernel_rfl
@[simp] theorem s43 : sizeT Tryz.prog 43 = some 1 := by kernel_rfl
@[simp] theorem z43 : zeroCs Tryz.prog 43 = some [.nil] := by kernel_rfl
@[simp] theorem e43 : elT Tryz.prog 43 = some (3, 1, 8) := by kernel_rfl
@[simp] theorem u43 : Tryz.prog.underlying 43 = some (.slice 3) := by kernel_rfl
@[simp] theorem g44 : aggT Tryz.prog 44 = some false := by kernel_rfl
@[simp] theorem s44 : sizeT Tryz.prog 44 = some 1 := by kernel_rfl
@[simp] theorem z44 : zeroCs Tryz.prog 44 = some [.sc (.map none)] := by kernel_rfl
@[simp] theorem u44 : Tryz.prog.underlying 44 = some (.map 3 25) := by kernel_rfl
@[simp] theorem g45 : aggT Tryz.prog 45 = some true := by kernel_rfl
@[simp] theorem s45 : sizeT Tryz.prog 45 = some 4 := by kernel_rfl
@[simp] theorem z45 : zeroCs Tryz.prog 45 = some [.sc (.int .i64 0), .nil, .nil, .sc (.map none)] := by kernel_rfl
@[simp] theorem f45_0 : fieldT Tryz.prog 45 0 = some 0 := by kernel_rfl
@[simp] theorem f45_1 : fieldT Tryz.prog 45 1 = some 1 := by kernel_rfl
@[simp] theorem f45_2 : fieldT Tryz.prog 45 2 = some 2 := by kernel_rfl
@[simp] theorem f45_3 : fieldT Tryz.prog 45 3 = some 3 := by kernel_rfl
@[simp] theorem p45 : placeOf Tryz.prog 45 = some (fun i => ([(0, 1), (1, 1), (2, 1), (3, 1)] : List (Nat × Nat))[i]?) := by kernel_rfl
@[simp] theorem g46 : aggT Tryz.prog 46 = some true := by kernel_rfl
@[simp] theorem s46 : sizeT Tryz.prog 46 = some 4 := by kernel_rfl
@[simp] theorem z46 : zeroCs Tryz.prog 46 = some [.sc (.int .i64 0), .nil, .nil, .sc (.map none)] := by kernel_rfl
@[simp] theorem f46_0 : fieldT Tryz.prog 46 0 = some 0 := by kernel_rfl
@[simp] theorem f46_1 : fieldT Tryz.prog 46 1 = some 1 := by kernel_rfl
@[simp] theorem f46_2 : fieldT Tryz.prog 46 2 = some 2 := by kernel_rfl
@[simp] theorem f46_3 : fieldT Tryz.prog 46 3 = some 3 := by kernel_rfl
@[simp] theorem p46 : placeOf Tryz.prog 46 = some (fun i => ([(0, 1), (1, 1), (2, 1), (3, 1)] : List (Nat × Nat))[i]?) := by kernel_rfl
@[simp] theorem g47 : aggT Tryz.prog 47 = some false := by kernel_rfl
@[simp] theorem s47 : sizeT Tryz.prog 47 = some 1 := by kernel_rfl
@[simp] theorem z47 : zeroCs Tryz.prog 47 = some [.sc (.nilFunc)] := by kernel_rfl
@[simp] theorem g48 : aggT Tryz.prog 48 = some false := by kernel_rfl
@[simp] theorem s48 : sizeT Tryz.prog 48 = some 1 := by kernel_rfl
@[simp] theorem z48 : zeroCs Tryz.prog 48 = some [.sc (.nilFunc)] := by kernel_rfl
@[simp] theorem g49 : aggT Tryz.prog 49 = some false := by kernel_rfl
@[simp] theorem s49 : sizeT Tryz.prog 49 = some 1 := by kernel_rfl
@[simp] theorem z49 : zeroCs Tryz.prog 49 = some [.sc (.nilFunc)] := by kernel_rfl
@[simp] theorem g50 : aggT Tryz.prog 50 = some false := by kernel_rfl
@[simp] theorem s50 : sizeT Tryz.prog 50 = some 1 := by kernel_rfl
@[simp] theorem z50 : zeroCs Tryz.prog 50 = some [.sc (.nilFunc)] := by kernel_rfl
@[simp] theorem g51 : aggT Tryz.prog 51 = some false := by kernel_rfl
@[simp] theorem s51 : sizeT Tryz.prog 51 = some 1 := by kernel_rfl
@[simp] theorem z51 : zeroCs Tryz.prog 51 = some [.sc (.nilFunc)] := by kernel_rfl
@[simp] theorem g52 : aggT Tryz.prog 52 = some false := by kernel_rfl
@[simp] theorem s52 : sizeT Tryz.prog 52 = some 1 := by kernel_rfl
@[simp] theorem z52 : zeroCs Tryz.prog 52 = some [.sc (.nilFunc)] := by kernel_rfl
@[simp] theorem g53 : aggT Tryz.prog 53 = some false := by kernel_rfl
@[simp] theorem s53 : sizeT Tryz.prog 53 = some 1 := by kernel_rfl
@[simp] theorem z53 : zeroCs Tryz.prog 53 = some [.sc (.nilFunc)] := by kernel_rfl
@[simp] theorem g54 : aggT Tryz.prog 54 = some false := by kernel_rfl
@[simp] theorem s54 : sizeT Tryz.prog 54 = some 1 := by kernel_rfl
@[simp] theorem z54 : zeroCs Tryz.prog 54 = some [.sc (.nilFunc)] := by kernel_rfl
@[simp] theorem g55 : aggT Tryz.prog 55 = some false := by kernel_rfl
@[simp] theorem s55 : sizeT Tryz.prog 55 = some 1 := by kernel_rfl
@[simp] theorem z55 : zeroCs Tryz.prog 55 = some [.sc (.nilFunc)] := by kernel_rfl
@[simp] theorem g56 : aggT Tryz.prog 56 = some false := by kernel_rfl
@[simp] theorem s56 : sizeT Tryz.prog 56 = some 1 := by kernel_rfl
@[simp] theorem z56 : zeroCs Tryz.prog 56 = some [.sc (.pointer none)] := by kernel_rfl
@[simp] theorem u56 : Tryz.prog.underlying 56 = some (.pointer 60) := by kernel_rfl
@[simp] theorem g57 : aggT Tryz.prog 57 = some false := by kernel_rfl
@[simp] theorem s57 : sizeT Tryz.prog 57 = some 1 := by kernel_rfl
@[simp] theorem z57 : zeroCs Tryz.prog 57 = some [.sc (.pointer none)] := by kernel_rfl
@[simp] theorem u57 : Tryz.prog.underlying 57 = some (.pointer 90) := by kernel_rfl
@[simp] theorem g58 : aggT Tryz.prog 58 = some false := by kernel_rfl
@[simp] theorem s58 : sizeT Tryz.prog 58 = some 1 := by kernel_rfl
@[simp] theorem z58 : zeroCs Tryz.prog 58 = some [.sc (.nilFunc)] := by kernel_rfl
@[simp] theorem g59 : aggT Tryz.prog 59 = some true := by kernel_rfl
@[simp] theorem s59 : sizeT Tryz.prog 59 = some 6 := by kernel_rfl
@[simp] theorem z59 : zeroCs Tryz.prog 59 = some [.sc (.pointer none), .sc (.int .i64 0), .sc (.int .i64 0), .sc (.int .i64 0), .sc (.nilFunc), .sc (.pointer none)] := by kernel_rfl
@[simp] theorem f59_0 : fieldT Tryz.prog 59 0 = some 0 := by kernel_rfl
@[simp] theorem f59_1 : fieldT Tryz.prog 59 1 = some 1 := by kernel_rfl
@[simp] theorem f59_2 : fieldT Tryz.prog 59 2 = some 3 := by kernel_rfl
@[simp] theorem f59_3 : fieldT Tryz.prog 59 3 = some 4 := by kernel_rfl
@[simp] theorem f59_4 : fieldT Tryz.prog 59 4 = some 5 := by kernel_rfl
@[simp] theorem p59 : placeOf Tryz.prog 59 = some (fun i => ([(0, 1), (1, 2), (3, 1), (4, 1), (5, 1)] : List (Nat × Nat))[i]?) := by kernel_rfl
@[simp] theorem g60 : aggT Tryz.prog 60 = some true := by kernel_rfl
@[simp] theorem s60 : sizeT Tryz.prog 60 = some 6 := by kernel_rfl
@[simp] theorem z60 : zeroCs Tryz.prog 60 = some [.sc (.pointer none), .sc (.int .i64 0), .sc (.int .i64 0), .sc (.int .i64 0), .sc (.nilFunc), .sc (.pointer none)] := by kernel_rfl
@[simp] theorem f60_0 : fieldT Tryz.prog 60 0 = some 0 := by kernel_rfl
@[simp] theorem f60_1 : fieldT Tryz.prog 60 1 = some 1 := by kernel_rfl
@[simp] theorem f60_2 : fieldT Tryz.prog 60 2 = some 3 := by kernel_rfl
@[simp] theorem f60_3 : fieldT Tryz.prog 60 3 = some 4 := by kernel_rfl
@[simp] theorem f60_4 : fieldT Tryz.prog 60 4 = some 5 := by kernel_rfl
@[simp] theorem p60 : placeOf Tryz.prog 60 = some (fun i => ([(0, 1), (1, 2), (3, 1), (4, 1), (5, 1)] : List (Nat × Nat))[i]?) := by kernel_rfl
@[simp] theorem g61 : aggT Tryz.prog 61 = some false := by kernel_rfl
@[simp] theorem s61 : sizeT Tryz.prog 61 = some 1 := by kernel_rfl
@[simp] theorem z61 : zeroCs Tryz.prog 61 = some [.sc (.nilFunc)] := by kernel_rfl
@[simp] theorem g62 : aggT Tryz.prog 62 = some false := by kernel_rfl
@[simp] theorem s62 : sizeT Tryz.prog 62 = some 1 := by kernel_rfl
@[simp] theorem z62 : zeroCs Tryz.prog 62 = some [.sc (.int .u64 0)] := by kernel_rfl
@[simp] theorem u62 : Tryz.prog.underlying 62 = some (.int .u64) := by kernel_rfl
@[simp] theorem g63 : aggT Tryz.prog 63 = some true := by kernel_rfl
@[simp] theorem s63 : sizeT Tryz.prog 63 = some 3 := by kernel_rfl
@[simp] theorem z63 : zeroCs Tryz.prog 63 = some [.sc (.int .u64 0), .sc (.int .u64 0), .sc (.int .i64 0)] := by kernel_rfl
@[simp] theorem f63_0 : fieldT Tryz.prog 63 0 = some 0 := by kernel_rfl
@[simp] theorem f63_1 : fieldT Tryz.prog 63 1 = some 1 := by kernel_rfl
@[simp] theorem f63_2 : fieldT Tryz.prog 63 2 = some 2 := by kernel_rfl
@[simp] theorem p63 : placeOf Tryz.prog 63 = some (fun i => ([(0, 1), (1, 1), (2, 1)] : List (Nat × Nat))[i]?) := by kernel_rfl
@[simp] theorem g64 : aggT Tryz.prog 64 = some true := by kernel_rfl
@[simp] theorem s64 : sizeT Tryz.prog 64 = some 3 := by kernel_rfl
@[simp] theorem z64 : zeroCs Tryz.prog 64 = some [.sc (.int .u64 0), .sc (.int .u64 0), .sc (.int .i64 0)] := by kernel_rfl
@[simp] theorem f64_0 : fieldT Tryz.prog 64 0 = some 0 := by kernel_rfl
@[simp] theorem f64_1 : fieldT Tryz.prog 64 1 = some 1 := by kernel_rfl
@[simp] theorem f64_2 : fieldT Tryz.prog 64 2 = some 2 := by kernel_rfl
@[simp] theorem p64 : placeOf Tryz.prog 64 = some (fun i => ([(0, 1), (1, 1), (2, 1)] : List (Nat × Nat))[i]?) := by kernel_rfl
@[simp] theorem g66 : aggT Tryz.prog 66 = some false := by kernel_rfl
@[simp] theorem s66 : sizeT Tryz.prog 66 = some 1 := by kernel_rfl
@[simp] theorem z66 : zeroCs Tryz.prog 66 = some [.sc (.nilFunc)] := by kernel_rfl
@[simp] theorem g68 : aggT Tryz.prog 68 = some false := by kernel_rfl
@[simp] theorem s68 : sizeT Tryz.prog 68 = some 1 := by kernel_rfl
@[simp] theorem z68 : zeroCs Tryz.prog 68 = some [.sc (.nilFunc)] := by kernel_rfl
@[simp] theorem g69 : aggT Tryz.prog 69 = some false := by kernel_rfl
@[simp] theorem s69 : sizeT Tryz.prog 69 = some 1 := by kernel_rfl
@[simp] theorem z69 : zeroCs Tryz.prog 69 = some [.sc (.nilFunc)] := by kernel_rfl
@[simp] theorem g70 : aggT Tryz.prog 70 = some true := by kernel_rfl
@[simp] theorem s70 : sizeT Tryz.prog 70 = some 3 := by kernel_rfl
@[simp] theorem z70 : zeroCs Tryz.prog 70 = some [.sc (.int .i64 0), .sc (.int .i64 0), .sc (.int .i64 0)] := by kernel_rfl
@[simp] theorem f70_0 : fieldT Tryz.prog 70 0 = some 0 := by kernel_rfl
@[simp] theorem f70_1 : fieldT Tryz.prog 70 1 = some 1 := by kernel_rfl
@[simp] theorem f70_2 : fieldT Tryz.prog 70 2 = some 2 := by kernel_rfl
@[simp] theorem p70 : placeOf Tryz.prog 70 = some (fun i => ([(0, 1), (1, 1), (2, 1)] : List (Nat × Nat))[i]?) := by kernel_rfl
@[simp] theorem g71 : aggT Tryz.prog 71 = some true := by kernel_rfl
@[simp] theorem s71 : sizeT Tryz.prog 71 = some 3 := by kernel_rfl
@[simp] theorem z71 : zeroCs Tryz.prog 71 = some [.sc (.int .i64 0), .sc (.int .i64 0), .sc (.int .i64 0)] := by kernel_rfl
@[simp] theorem f71_0 : fieldT Tryz.prog 71 0 = some 0 := by kernel_rfl
@[simp] theorem f71_1 : fieldT Tryz.prog 71 1 = some 1 := by kernel_rfl
@[simp] theorem f71_2 : fieldT Tryz.prog 71 2 = some 2 := by kernel_rfl
@[simp] theorem p71 : placeOf Tryz.prog 71 = some (fun i => ([(0, 1), (1, 1), (2, 1)] : List (Nat × Nat))[i]?) := by kernel_rfl
@[simp] theorem g72 : aggT Tryz.prog 72 = some true := by kernel_rfl
@[simp] theorem s72 : sizeT Tryz.prog 72 = some 4 := by kernel_rfl
@[simp] theorem z72 : zeroCs Tryz.prog 72 = some [.sc (.int .i64 0), .sc (.int .i64 0), .sc (.int .i64 0), .sc (.int .i64 0)] := by kernel_rfl
@[simp] theorem p72 : placeOf Tryz.prog 72 = some (fun i => some (i * 1, 1)) := by kernel_rfl
@[simp] theorem u72 : Tryz.prog.underlying 72 = some (.array 4 3) := by kernel_rfl
@[simp] theorem g73 : aggT Tryz.prog 73 = some true := by kernel_rfl
@[simp] theorem s73 : sizeT Tryz.prog 73 = some 10 := by kernel_rfl
@[simp] theorem z73 : zeroCs Tryz.prog 73 = some [.sc (.int .i64 0), .sc (.int .i64 0), .sc (.int .i64 0), .sc (.int .i64 0), .sc (.int .i64 0), .sc (.int .i64 0), .sc (.int .i64 0), .sc (.int .i64 0), .sc (.bool false), .nil] := by kernel_rfl
@[simp] theorem f73_0 : fieldT Tryz.prog 73 0 = some 0 := by kernel_rfl
@[simp] theorem f73_1 : fieldT Tryz.prog 73 1 = some 3 := by kernel_rfl
@[simp] theorem f73_2 : fieldT Tryz.prog 73 2 = some 7 := by kernel_rfl
@[simp] theorem f73_3 : fieldT Tryz.prog 73 3 = some 8 := by kernel_rfl
@[simp] theorem f73_4 : fieldT Tryz.prog 73 4 = some 9 := by kernel_rfl
@[simp] theorem p73 : placeOf Tryz.prog 73 = some (fun i => ([(0, 3), (3, 4), (7, 1), (8, 1), (9, 1)] : List (Nat × Nat))[i]?) := by kernel_rfl
@[simp] theorem g74 : aggT Tryz.prog 74 = some true := by kernel_rfl
@[simp] theorem s74 : sizeT Tryz.prog 74 = some 10 := by kernel_rfl
@[simp] theorem z74 : zeroCs Tryz.prog 74 = some [.sc (.int .i64 0), .sc (.int .i64 0), .sc (.int .i64 0), .sc (.int .i64 0), .sc (.int .i64 0), .sc (.int .i64 0), .sc (.int .i64 0), .sc (.int .i64 0), .sc (.bool false), .nil] := by kernel_rfl
@[simp] theorem f74_0 : fieldT Tryz.prog 74 0 = some 0 := by kernel_rfl
@[simp] theorem f74_1 : fieldT Tryz.prog 74 1 = some 3 := by kernel_rfl
@[simp] theorem f74_2 : fieldT Tryz.prog 74 2 = some 7 := by kernel_rfl
@[simp] theorem f74_3 : fieldT Tryz.prog 74 3 = some 8 := by kernel_rfl
@[simp] theorem f74_4 : fieldT Tryz.prog 74 4 = some 9 := by kernel_rfl
@[simp] theorem p74 : placeOf Tryz.prog 74 = some (fun i => ([(0, 3), (3, 4), (7, 1), (8, 1), (9, 1)] : List (Nat × Nat))[i]?) := by kernel_rfl
@[simp] theorem g75 : aggT Tryz.prog 75 = some false := by kernel_rfl
@[simp] theorem s75 : sizeT Tryz.prog 75 = some 1 := by kernel_rfl
@[simp] theorem z75 : zeroCs Tryz.prog 75 = some [.sc (.nilFunc)] := by kernel_rfl
@[simp] theorem g76 : aggT Tryz.prog 76 = some false := by kernel_rfl
@[simp] theorem s76 : sizeT Tryz.prog 76 = some 1 := by kernel_rfl
@[simp] theorem z76 : zeroCs Tryz.prog 76 = some [.sc (.pointer none)] := by kernel_rfl
@[simp] theorem u76 : Tryz.prog.underlying 76 = some (.pointer 74) := by kernel_rfl
@[simp] theorem g77 : aggT Tryz.prog 77 = some false := by kernel_rfl
@[simp] theorem s77 : sizeT Tryz.prog 77 = some 1 := by kernel_rfl
@[simp] theorem z77 : zeroCs Tryz.prog 77 = some [.sc (.nilFunc)] := by kernel_rfl
@[simp] theorem g78 : aggT Tryz.prog 78 = some true := by kernel_rfl
@[simp] theorem s78 : sizeT Tryz.prog 78 = some 4 := by kernel_rfl
@[simp] theorem z78 : zeroCs Tryz.prog 78 = some [.sc (.int .i64 0), .sc (.int .i64 0), .sc (.int .i64 0), .sc (.int .i64 0)] := by kernel_rfl
@[simp] theorem f78_0 : fieldT Tryz.prog 78 0 = some 0 := by kernel_rfl
@[simp] theorem f78_1 : fieldT Tryz.prog 78 1 = some 1 := by kernel_rfl
@[simp] theorem f78_2 : fieldT Tryz.prog 78 2 = some 2 := by kernel_rfl
@[simp] theorem f78_3 : fieldT Tryz.prog 78 3 = some 3 := by kernel_rfl
@[simp] theorem p78 : placeOf Tryz.prog 78 = some (fun i => ([(0, 1), (1, 1), (2, 1), (3, 1)] : List (Nat × Nat))[i]?) := by kernel_rfl
@[simp] theorem g80 : aggT Tryz.prog 80 = some false := by kernel_rfl
@[simp] theorem s80 : sizeT Tryz.prog 80 = some 1 := by kernel_rfl
@[simp] theorem z80 : zeroCs Tryz.prog 80 = some [.sc (.nilFunc)] := by kernel_rfl
@[simp] theorem g81 : aggT Tryz.prog 81 = some false := by kernel_rfl
@[simp] theorem s81 : sizeT Tryz.prog 81 = some 1 := by kernel_rfl
@[simp] theorem z81 : zeroCs Tryz.prog 81 = some [.sc (.nilFunc)] := by kernel_rfl
@[simp] theorem g82 : aggT Tryz.prog 82 = some false := by kernel_rfl
@[simp] theorem s82 : sizeT Tryz.prog 82 = some 1 := by kernel_rfl
@[simp] theorem z82 : zeroCs Tryz.prog 82 = some [.sc (.nilFunc)] := by kernel_rfl
@[simp] theorem g83 : aggT Tryz.prog 83 = some false := by kernel_rfl
@[simp] theorem s83 : sizeT Tryz.prog 83 = some 1 := by kernel_rfl
@[simp] theorem z83 : zeroCs Tryz.prog 83 = some [.sc (.nilFunc)] := by kernel_rfl
@[simp] theorem g84 : aggT Tryz.prog 84 = some false := by kernel_rfl
@[simp] theorem s84 : sizeT Tryz.prog 84 = some 1 := by kernel_rfl
@[simp] theorem z84 : zeroCs Tryz.prog 84 = some [.sc (.nilFunc)] := by kernel_rfl
@[simp] theorem g85 : aggT Tryz.prog 85 = some false := by kernel_rfl
@[simp] theorem s85 : sizeT Tryz.prog 85 = some 1 := by kernel_rfl
@[simp] theorem z85 : zeroCs Tryz.prog 85 = some [.sc (.nilFunc)] := by kernel_rfl
@[simp] theorem g86 : aggT Tryz.prog 86 = some false := by kernel_rfl
@[simp] theorem s86 : sizeT Tryz.prog 86 = some 1 := by kernel_rfl
@[simp] theorem z86 : zeroCs Tryz.prog 86 = some [.nil] := by kernel_rfl
@[simp] theorem e86 : elT Tryz.prog 86 = some (64, 3, 24) := by kernel_rfl
@[simp] theorem u86 : Tryz.prog.underlying 86 = some (.slice 64) := by kernel_rfl
@[simp] theorem g87 : aggT Tryz.prog 87 = some true := by kernel_rfl
@[simp] theorem s87 : sizeT Tryz.prog 87 = some 1 := by kernel_rfl
@[simp] theorem z87 : zeroCs Tryz.prog 87 = some [.nil] := by kernel_rfl
@[simp] theorem f87_0 : fieldT Tryz.prog 87 0 = some 0 := by kernel_rfl
@[simp] theorem p87 : placeOf Tryz.prog 87 = some (fun i => ([(0, 1)] : List (Nat × Nat))[i]?) := by kernel_rfl
@[simp] theorem g88 : aggT Tryz.prog 88 = some true := by kernel_rfl
@[simp] theorem s88 : sizeT Tryz.prog 88 = some 1 := by kernel_rfl
@[simp] theorem z88 : zeroCs Tryz.prog 88 = some [.nil] := by kernel_rfl
@[simp] theorem f88_0 : fieldT Tryz.prog 88 0 = some 0 := by kernel_rfl
@[simp] theorem p88 : placeOf Tryz.prog 88 = some (fun i => ([(0, 1)] : List (Nat × Nat))[i]?) := by kernel_rfl
@[simp] theorem g89 : aggT Tryz.prog 89 = some true := by kernel_rfl
@[simp] theorem s89 : sizeT Tryz.prog 89 = some 1 := by kernel_rfl
@[simp] theorem z89 : zeroCs Tryz.prog 89 = some [.nil] := by kernel_rfl
@[simp] theorem f89_0 : fieldT Tryz.prog 89 0 = some 0 := by kernel_rfl
@[simp] theorem p89 : placeOf Tryz.prog 89 = some (fun i => ([(0, 1)] : List (Nat × Nat))[i]?) := by kernel_rfl
@[simp] theorem g90 : aggT Tryz.prog 90 = some true := by kernel_rfl
@[simp] theorem s90 : sizeT Tryz.prog 90 = some 1 := by kernel_rfl
@[simp] theorem z90 : zeroCs Tryz.prog 90 = some [.nil] := by kernel_rfl
@[simp] theorem f90_0 : fieldT Tryz.prog 90 0 = some 0 := by kernel_rfl
@[simp] theorem p90 : placeOf Tryz.prog 90 = some (fun i => ([(0, 1)] : List (Nat × Nat))[i]?) := by kernel_rfl
@[simp] theorem g91 : aggT Tryz.prog 91 = some false := by kernel_rfl
@[simp] theorem s91 : sizeT Tryz.prog 91 = some 1 := by kernel_rfl
@[simp] theorem z91 : zeroCs Tryz.prog 91 = some [.sc (.nilFunc)] := by kernel_rfl
@[simp] theorem g92 : aggT Tryz.prog 92 = some false := by kernel_rfl
@[simp] theorem s92 : sizeT Tryz.prog 92 = some 1 := by kernel_rfl
@[simp] theorem z92 : zeroCs Tryz.prog 92 = some [.sc (.nilFunc)] := by kernel_rfl
@[simp] theorem g93 : aggT Tryz.prog 93 = some false := by kernel_rfl
@[simp] theorem s93 : sizeT Tryz.prog 93 = some 1 := by kernel_rfl
@[simp] theorem z93 : zeroCs Tryz.prog 93 = some [.sc (.nilFunc)] := by kernel_rfl
@[simp] theorem g94 : aggT Tryz.prog 94 = some false := by kernel_rfl
@[simp] theorem s94 : sizeT Tryz.prog 94 = some 1 := by kernel_rfl
@[simp] theorem z94 : zeroCs Tryz.prog 94 = some [.sc (.pointer none)] := by kernel_rfl
@[simp] theorem u94 : Tryz.prog.underlying 94 = some (.pointer 88) := by kernel_rfl
@[simp] theorem g95 : aggT Tryz.prog 95 = some false := by kernel_rfl
@[simp] theorem s95 : sizeT Tryz.prog 95 = some 1 := by kernel_rfl
@[simp] theorem z95 : zeroCs Tryz.prog 95 = some [.sc (.nilFunc)] := by kernel_rfl
@[simp] theorem g97 : aggT Tryz.prog 97 = some false := by kernel_rfl
@[simp] theorem s97 : sizeT Tryz.prog 97 = some 1 := by kernel_rfl
@[simp] theorem z97 : zeroCs Tryz.prog 97 = some [.sc (.nilFunc)] := by kernel_rfl
@[simp] theorem g98 : aggT Tryz.prog 98 = some false := by kernel_rfl
@[simp] theorem s98 : sizeT Tryz.prog 98 = some 1 := by kernel_rfl
@[simp] theorem z98 : zeroCs Tryz.prog 98 = some [.sc (.nilFunc)] := by kernel_rfl
@[simp] theorem g99 : aggT Tryz.prog 99 = some false := by kernel_rfl
@[simp] theorem s99 : sizeT Tryz.prog 99 = some 1 := by kernel_rfl
@[simp] theorem z99 : zeroCs Tryz.prog 99 = some [.sc (.nilFunc)] := by kernel_rfl
@[simp] theorem g100 : aggT Tryz.prog 100 = some false := by kernel_rfl
@[simp] theorem s100 : sizeT Tryz.prog 100 = some 1 := by kernel_rfl
@[simp] theorem z100 : zeroCs Tryz.prog 100 = some [.sc (.nilFunc)] := by kernel_rfl
@[simp] theorem g101 : aggT Tryz.prog 101 = some false := by kernel_rfl
@[simp] theorem s101 : sizeT Tryz.prog 101 = some 1 := by kernel_rfl
@[simp] theorem z101 : zeroCs Tryz.prog 101 = some [.sc (.nilFunc)] := by kernel_rfl
@[simp] theorem g102 : aggT Tryz.prog 102 = some false := by kernel_rfl
@[simp] theorem s102 : sizeT Tryz.prog 102 = some 1 := by kernel_rfl
@[simp] theorem z102 : zeroCs Tryz.prog 102 = some [.sc (.int .i64 0)] := by kernel_rfl
@[simp] theorem u102 : Tryz.prog.underlying 102 = some (.int .i64) := by kernel_rfl
@[simp] theorem g104 : aggT Tryz.prog 104 = some false := by kernel_rfl
@[simp] theorem s104 : sizeT Tryz.prog 104 = some 1 := by kernel_rfl
@[simp] theorem z104 : zeroCs Tryz.prog 104 = some [.sc (.nilFunc)] := by kernel_rfl
@[simp] theorem g106 : aggT Tryz.prog 106 = some false := by kernel_rfl
@[simp] theorem s106 : sizeT Tryz.prog 106 = some 1 := by kernel_rfl
@[simp] theorem z106 : zeroCs Tryz.prog 106 = some [.sc (.int .u64 0)] := by kernel_rfl
@[simp] theorem u106 : Tryz.prog.underlying 106 = some (.int .u64) := by kernel_rfl
@[simp] theorem g107 : aggT Tryz.prog 107 = some true := by kernel_rfl
@[simp] theorem s107 : sizeT Tryz.prog 107 = some 3 := by kernel_rfl
@[simp] theorem z107 : zeroCs Tryz.prog 107 = some [.sc (.pointer none), .sc (.pointer none), .sc (.int .u64 0)] := by kernel_rfl
@[simp] theorem f107_0 : fieldT Tryz.prog 107 0 = some 0 := by kernel_rfl
@[simp] theorem f107_1 : fieldT Tryz.prog 107 1 = some 1 := by kernel_rfl
@[simp] theorem f107_2 : fieldT Tryz.prog 107 2 = some 2 := by kernel_rfl
@[simp] theorem p107 : placeOf Tryz.prog 107 = some (fun i => ([(0, 1), (1, 1), (2, 1)] : List (Nat × Nat))[i]?) := by kernel_rfl
@[simp] theorem g108 : aggT Tryz.prog 108 = some true := by kernel_rfl
@[simp] theorem s108 : sizeT Tryz.prog 108 = some 3 := by kernel_rfl
@[simp] theorem z108 : zeroCs Tryz.prog 108 = some [.sc (.pointer none), .sc (.pointer none), .sc (.int .u64 0)] := by kernel_rfl
@[simp] theorem f108_0 : fieldT Tryz.prog 108 0 = some 0 := by kernel_rfl
@[simp] theorem f108_1 : fieldT Tryz.prog 108 1 = some 1 := by kernel_rfl
@[simp] theorem f108_2 : fieldT Tryz.prog 108 2 = some 2 := by kernel_rfl
@[simp] theorem p108 : placeOf Tryz.prog 108 = some (fun i => ([(0, 1), (1, 1), (2, 1)] : List (Nat × Nat))[i]?) := by kernel_rfl
@[simp] theorem g109 : aggT Tryz.prog 109 = some false := by kernel_rfl
@[simp] theorem s109 : sizeT Tryz.prog 109 = some 1 := by kernel_rfl
@[simp] theorem z109 : zeroCs Tryz.prog 109 = some [.sc (.nilFunc)] := by kernel_rfl
@[simp] theorem g110 : aggT Tryz.prog 110 = some false := by kernel_rfl
@[simp] theorem s110 : sizeT Tryz.prog 110 = some 1 := by kernel_rfl
@[simp] theorem z110 : zeroCs Tryz.prog 110 = some [.sc (.nilFunc)] := by kernel_rfl
@[simp] theorem g111 : aggT Tryz.prog 111 = some false := by kernel_rfl
@[simp] theorem s111 : sizeT Tryz.prog 111 = some 1 := by kernel_rfl
@[simp] theorem z111 : zeroCs Tryz.prog 111 = some [.sc (.nilFunc)] := by kernel_rfl
@[simp] theorem g112 : aggT Tryz.prog 112 = some false := by kernel_rfl
@[simp] theorem s112 : sizeT Tryz.prog 112 = some 1 := by kernel_rfl
@[simp] theorem z112 : zeroCs Tryz.prog 112 = some [.sc (.nilFunc)] := by kernel_rfl
@[simp] theorem g113 : aggT Tryz.prog 113 = some false := by kernel_rfl
@[simp] theorem s113 : sizeT Tryz.prog 113 = some 1 := by kernel_rfl
@[simp] theorem z113 : zeroCs Tryz.prog 113 = some [.sc (.int .u64 0)] := by kernel_rfl
@[simp] theorem u113 : Tryz.prog.underlying 113 = some (.int .u64) := by kernel_rfl
@[simp] theorem g114 : aggT Tryz.prog 114 = some false := by kernel_rfl
@[simp] theorem s114 : sizeT Tryz.prog 114 = some 1 := by kernel_rfl
@[simp] theorem z114 : zeroCs Tryz.prog 114 = some [.sc (.nilFunc)] := by kernel_rfl
@[simp] theorem g115 : aggT Tryz.prog 115 = some true := by kernel_rfl
@[simp] theorem s115 : sizeT Tryz.prog 115 = some 2 := by kernel_rfl
@[simp] theorem z115 : zeroCs Tryz.prog 115 = some [.sc (.nilFunc), .sc (.nilFunc)] := by kernel_rfl
@[simp] theorem f115_0 : fieldT Tryz.prog 115 0 = some 0 := by kernel_rfl
@[simp] theorem f115_1 : fieldT Tryz.prog 115 1 = some 1 := by kernel_rfl
@[simp] theorem p115 : placeOf Tryz.prog 115 = some (fun i => ([(0, 1), (1, 1)] : List (Nat × Nat))[i]?) := by kernel_rfl
@[simp] theorem g116 : aggT Tryz.prog 116 = some true := by kernel_rfl
@[simp] theorem s116 : sizeT Tryz.prog 116 = some 2 := by kernel_rfl
@[simp] theorem z116 : zeroCs Tryz.prog 116 = some [.sc (.nilFunc), .sc (.nilFunc)] := by kernel_rfl
@[simp] theorem f116_0 : fieldT Tryz.prog 116 0 = some 0 := by kernel_rfl
@[simp] theorem f116_1 : fieldT Tryz.prog 116 1 = some 1 := by kernel_rfl
@[simp] theorem p116 : placeOf Tryz.prog 116 = some (fun i => ([(0, 1), (1, 1)] : List (Nat × Nat))[i]?) := by kernel_rfl
@[simp] theorem g117 : aggT Tryz.prog 117 = some false := by kernel_rfl
@[simp] theorem s117 : sizeT Tryz.prog 117 = some 1 := by kernel_rfl
@[simp] theorem z117 : zeroCs Tryz.prog 117 = some [.sc (.nilFunc)] := by kernel_rfl
@[simp] theorem g118 : aggT Tryz.prog 118 = some false := by kernel_rfl
@[simp] theorem s118 : sizeT Tryz.prog 118 = some 1 := by kernel_rfl
@[simp] theorem z118 : zeroCs Tryz.prog 118 = some [.sc (.nilFunc)] := by kernel_rfl
@[simp] theorem g121 : aggT Tryz.prog 121 = some false := by kernel_rfl
@[simp] theorem s121 : sizeT Tryz.prog 121 = some 1 := by kernel_rfl
@[simp] theorem z121 : zeroCs Tryz.prog 121 = some [.sc (.nilFunc)] := by kernel_rfl
@[simp] theorem g122 : aggT Tryz.prog 122 = some false := by kernel_rfl
@[simp] theorem s122 : sizeT Tryz.prog 122 = some 1 := by kernel_rfl
@[simp] theorem z122 : zeroCs Tryz.prog 122 = some [.sc (.nilFunc)] := by kernel_rfl
@[simp] theorem g123 : aggT Tryz.prog 123 = some false := by kernel_rfl
@[simp] theorem s123 : sizeT Tryz.prog 123 = some 1 := by kernel_rfl
@[simp] theorem z123 : zeroCs Tryz.prog 123 = some [.sc (.nilFunc)] := by kernel_rfl
@[simp] theorem g124 : aggT Tryz.prog 124 = some false := by kernel_rfl
@[simp] theorem s124 : sizeT Tryz.prog 124 = some 1 := by kernel_rfl
@[simp] theorem z124 : zeroCs Tryz.prog 124 = some [.sc (.nilFunc)] := by kernel_rfl
@[simp] theorem g125 : aggT Tryz.prog 125 = some true := by kernel_rfl
@[simp] theorem s125 : sizeT Tryz.prog 125 = some 1 := by kernel_rfl
@[simp] theorem z125 : zeroCs Tryz.prog 125 = some [.sc (.pointer none)] := by kernel_rfl
@[simp] theorem f125_0 : fieldT Tryz.prog 125 0 = some 0 := by kernel_rfl
@[simp] theorem p125 : placeOf Tryz.prog 125 = some (fun i => ([(0, 1)] : List (Nat × Nat))[i]?) := by kernel_rfl
@[simp] theorem g126 : aggT Tryz.prog 126 = some true := by kernel_rfl
@[simp] theorem s126 : sizeT Tryz.prog 126 = some 1 := by kernel_rfl
@[simp] theorem z126 : zeroCs Tryz.prog 126 = some [.sc (.pointer none)] := by kernel_rfl
@[simp] theorem f126_0 : fieldT Tryz.prog 126 0 = some 0 := by kernel_rfl
@[simp] theorem p126 : placeOf Tryz.prog 126 = some (fun i => ([(0, 1)] : List (Nat × Nat))[i]?) := by kernel_rfl
@[simp] theorem g127 : aggT Tryz.prog 127 = some false := by kernel_rfl
@[simp] theorem s127 : sizeT Tryz.prog 127 = some 1 := by kernel_rfl
@[simp] theorem z127 : zeroCs Tryz.prog 127 = some [.sc (.pointer none)] := by kernel_rfl
@[simp] theorem u127 : Tryz.prog.underlying 127 = some (.pointer 169) := by kernel_rfl
@[simp] theorem g128 : aggT Tryz.prog 128 = some false := by kernel_rfl
@[simp] theorem s128 : sizeT Tryz.prog 128 = some 1 := by kernel_rfl
@[simp] theorem z128 : zeroCs Tryz.prog 128 = some [.sc (.nilFunc)] := by kernel_rfl
@[simp] theorem g129 : aggT Tryz.prog 129 = some false := by kernel_rfl
@[simp] theorem s129 : sizeT Tryz.prog 129 = some 1 := by kernel_rfl
@[simp] theorem z129 : zeroCs Tryz.prog 129 = some [.sc (.int .u32 0)] := by kernel_rfl
@[simp] theorem u129 : Tryz.prog.underlying 129 = some (.int .u32) := by kernel_rfl
@[simp] theorem g130 : aggT Tryz.prog 130 = some false := by kernel_rfl
@[simp] theorem s130 : sizeT Tryz.prog 130 = some 1 := by kernel_rfl
@[simp] theorem z130 : zeroCs Tryz.prog 130 = some [.sc (.nilFunc)] := by kernel_rfl
@[simp] theorem g131 : aggT Tryz.prog 131 = some false := by kernel_rfl
@[simp] theorem s131 : sizeT Tryz.prog 131 = some 1 := by kernel_rfl
@[simp] theorem z131 : zeroCs Tryz.prog 131 = some [.sc (.nilFunc)] := by kernel_rfl
@[simp] theorem g132 : aggT Tryz.prog 132 = some false := by kernel_rfl
@[simp] theorem s132 : sizeT Tryz.prog 132 = some 1 := by kernel_rfl
@[simp] theorem z132 : zeroCs Tryz.prog 132 = some [.sc (.int .i64 0)] := by kernel_rfl
@[simp] theorem u132 : Tryz.prog.underlying 132 = some (.int .i64) := by kernel_rfl
@[simp] theorem g134 : aggT Tryz.prog 134 = some false := by kernel_rfl
@[simp] theorem s134 : sizeT Tryz.prog 134 = some 1 := by kernel_rfl
@[simp] theorem z134 : zeroCs Tryz.prog 134 = some [.sc (.nilFunc)] := by kernel_rfl
@[simp] theorem g135 : aggT Tryz.prog 135 = some false := by kernel_rfl
@[simp] theorem s135 : sizeT Tryz.prog 135 = some 1 := by kernel_rfl
@[simp] theorem z135 : zeroCs Tryz.prog 135 = some [.sc (.nilFunc)] := by kernel_rfl
@[simp] theorem g136 : aggT Tryz.prog 136 = some false := by kernel_rfl
@[simp] theorem s136 : sizeT Tryz.prog 136 = some 1 := by kernel_rfl
@[simp] theorem z136 : zeroCs Tryz.prog 136 = some [.sc (.nilFunc)] := by kernel_rfl
@[simp] theorem g138 : aggT Tryz.prog 138 = some false := by kernel_rfl
@[simp] theorem s138 : sizeT Tryz.prog 138 = some 1 := by kernel_rfl
@[simp] theorem z138 : zeroCs Tryz.prog 138 = some [.sc (.nilFunc)] := by kernel_rfl
@[simp] theorem g139 : aggT Tryz.prog 139 = some false := by kernel_rfl
@[simp] theorem s139 : sizeT Tryz.prog 139 = some 1 := by kernel_rfl
@[simp] theorem z139 : zeroCs Tryz.prog 139 = some [.sc (.nilFunc)] := by kernel_rfl
@[simp] theorem g140 : aggT Tryz.prog 140 = some false := by kernel_rfl
@[simp] theorem s140 : sizeT Tryz.prog 140 = some 1 := by kernel_rfl
@[simp] theorem z140 : zeroCs Tryz.prog 140 = some [.sc (.nilFunc)] := by kernel_rfl
@[simp] theorem g141 : aggT Tryz.prog 141 = some false := by kernel_rfl
@[simp] theorem s141 : sizeT Tryz.prog 141 = some 1 := by kernel_rfl
@[simp] theorem z141 : zeroCs Tryz.prog 141 = some [.sc (.nilFunc)] := by kernel_rfl
@[simp] theorem g142 : aggT Tryz.prog 142 = some false := by kernel_rfl
@[simp] theorem s142 : sizeT Tryz.prog 142 = some 1 := by kernel_rfl
@[simp] theorem z142 : zeroCs Tryz.prog 142 = some [.sc (.nilFunc)] := by kernel_rfl
@[simp] theorem g143 : aggT Tryz.prog 143 = some false := by kernel_rfl
@[simp] theorem s143 : sizeT Tryz.prog 143 = some 1 := by kernel_rfl
@[simp] theorem z143 : zeroCs Tryz.prog 143 = some [.sc (.int .u64 0)] := by kernel_rfl
@[simp] theorem u143 : Tryz.prog.underlying 143 = some (.int .u64) := by kernel_rfl
@[simp] theorem g144 : aggT Tryz.prog 144 = some false := by kernel_rfl
@[simp] theorem s144 : sizeT Tryz.prog 144 = some 1 := by kernel_rfl
@[simp] theorem z144 : zeroCs Tryz.prog 144 = some [.sc (.nilFunc)] := by kernel_rfl
@[simp] theorem g145 : aggT Tryz.prog 145 = some false := by kernel_rfl
@[simp] theorem s145 : sizeT Tryz.prog 145 = some 1 := by kernel_rfl
@[simp] theorem z145 : zeroCs Tryz.prog 145 = some [.sc (.nilFunc)] := by kernel_rfl
@[simp] theorem g146 : aggT Tryz.prog 146 = some false := by kernel_rfl
@[simp] theorem s146 : sizeT Tryz.prog 146 = some 1 := by kernel_rfl
@[simp] theorem z146 : zeroCs Tryz.prog 146 = some [.sc (.nilFunc)] := by kernel_rfl
@[simp] theorem g147 : aggT Tryz.prog 147 = some false := by kernel_rfl
@[simp] theorem s147 : sizeT Tryz.prog 147 = some 1 := by kernel_rfl
@[simp] theorem z147 : zeroCs Tryz.prog 147 = some [.sc (.pointer none)] := by kernel_rfl
@[simp] theorem u147 : Tryz.prog.underlying 147 = some (.pointer 3) := by kernel_rfl
@[simp] theorem g148 : aggT Tryz.prog 148 = some false := by kernel_rfl
@[simp] theorem s148 : sizeT Tryz.prog 148 = some 1 := by kernel_rfl
@[simp] theorem z148 : zeroCs Tryz.prog 148 = some [.sc (.nilFunc)] := by kernel_rfl
@[simp] theorem g149 : aggT Tryz.prog 149 = some false := by kernel_rfl
@[simp] theorem s149 : sizeT Tryz.prog 149 = some 1 := by kernel_rfl
@[simp] theorem z149 : zeroCs Tryz.prog 149 = some [.sc (.nilFunc)] := by kernel_rfl
@[simp] theorem g150 : aggT Tryz.prog 150 = some false := by kernel_rfl
@[simp] theorem s150 : sizeT Tryz.prog 150 = some 1 := by kernel_rfl
@[simp] theorem z150 : zeroCs Tryz.prog 150 = some [.sc (.nilFunc)] := by kernel_rfl
@[simp] theorem g151 : aggT Tryz.prog 151 = some false := by kernel_rfl
@[simp] theorem s151 : sizeT Tryz.prog 151 = some 1 := by kernel_rfl
@[simp] theorem z151 : zeroCs Tryz.prog 151 = some [.sc (.pointer none)] := by kernel_rfl
@[simp] theorem u151 : Tryz.prog.underlying 151 = some (.pointer 143) := by kernel_rfl
@[simp] theorem g152 : aggT Tryz.prog 152 = some false := by kernel_rfl
@[simp] theorem s152 : sizeT Tryz.prog 152 = some 1 := by kernel_rfl
@[simp] theorem z152 : zeroCs Tryz.prog 152 = some [.sc (.nilFunc)] := by kernel_rfl
@[simp] theorem g153 : aggT Tryz.prog 153 = some false := by kernel_rfl
@[simp] theorem s153 : sizeT Tryz.prog 153 = some 1 := by kernel_rfl
@[simp] theorem z153 : zeroCs Tryz.prog 153 = some [.sc (.nilFunc)] := by kernel_rfl
@[simp] theorem g154 : aggT Tryz.prog 154 = some true := by kernel_rfl
@[simp] theorem s154 : sizeT Tryz.prog 154 = some 4 := by kernel_rfl
@[simp] theorem z154 : zeroCs Tryz.prog 154 = some [.sc (.pointer none), .sc (.pointer none), .sc (.pointer none), .sc (.string ⟨#[]⟩)] := by kernel_rfl
@[simp] theorem f154_0 : fieldT Tryz.prog 154 0 = some 0 := by kernel_rfl
@[simp] theorem f154_1 : fieldT Tryz.prog 154 1 = some 1 := by kernel_rfl
@[simp] theorem f154_2 : fieldT Tryz.prog 154 2 = some 2 := by kernel_rfl
@[simp] theorem f154_3 : fieldT Tryz.prog 154 3 = some 3 := by kernel_rfl
@[simp] theorem p154 : placeOf Tryz.prog 154 = some (fun i => ([(0, 1), (1, 1), (2, 1), (3, 1)] : List (Nat × Nat))[i]?) := by kernel_rfl
@[simp] theorem g155 : aggT Tryz.prog 155 = some true := by kernel_rfl
@[simp] theorem s155 : sizeT Tryz.prog 155 = some 4 := by kernel_rfl
@[simp] theorem z155 : zeroCs Tryz.prog 155 = some [.sc (.pointer none), .sc (.pointer none), .sc (.pointer none), .sc (.string ⟨#[]⟩)] := by kernel_rfl
@[simp] theorem f155_0 : fieldT Tryz.prog 155 0 = some 0 := by kernel_rfl
@[simp] theorem f155_1 : fieldT Tryz.prog 155 1 = some 1 := by kernel_rfl
@[simp] theorem f155_2 : fieldT Tryz.prog 155 2 = some 2 := by kernel_rfl
@[simp] theorem f155_3 : fieldT Tryz.prog 155 3 = some 3 := by kernel_rfl
@[simp] theorem p155 : placeOf Tryz.prog 155 = some (fun i => ([(0, 1), (1, 1), (2, 1), (3, 1)] : List (Nat × Nat))[i]?) := by kernel_rfl
@[simp] theorem g156 : aggT Tryz.prog 156 = some true := by kernel_rfl
@[simp] theorem s156 : sizeT Tryz.prog 156 = some 0 := by kernel_rfl
@[simp] theorem z156 : zeroCs Tryz.prog 156 = some [] := by kernel_rfl
@[simp] theorem p156 : placeOf Tryz.prog 156 = some (fun i => some (i * 1, 1)) := by kernel_rfl
@[simp] theorem u156 : Tryz.prog.underlying 156 = some (.array 0 16) := by kernel_rfl
@[simp] theorem g157 : aggT Tryz.prog 157 = some true := by kernel_rfl
@[simp] theorem s157 : sizeT Tryz.prog 157 = some 0 := by kernel_rfl
@[simp] theorem z157 : zeroCs Tryz.prog 157 = some [] := by kernel_rfl
@[simp] theorem p157 : placeOf Tryz.prog 157 = some (fun i => ([(0, 0)] : List (Nat × Nat))[i]?) := by kernel_rfl
@[simp] theorem g158 : aggT Tryz.prog 158 = some true := by kernel_rfl
@[simp] theorem s158 : sizeT Tryz.prog 158 = some 0 := by kernel_rfl
@[simp] theorem z158 : zeroCs Tryz.prog 158 = some [] := by kernel_rfl
@[simp] theorem p158 : placeOf Tryz.prog 158 = some (fun i => ([(0, 0)] : List (Nat × Nat))[i]?) := by kernel_rfl
@[simp] theorem g159 : aggT Tryz.prog 159 = some false := by kernel_rfl
@[simp] theorem s159 : sizeT Tryz.prog 159 = some 1 := by kernel_rfl
@[simp] theorem z159 : zeroCs Tryz.prog 159 = some [.sc (.int .u8 0)] := by kernel_rfl
@[simp] theorem u159 : Tryz.prog.underlying 159 = some (.int .u8) := by kernel_rfl
@[simp] theorem g160 : aggT Tryz.prog 160 = some false := by kernel_rfl
@[simp] theorem s160 : sizeT Tryz.prog 160 = some 1 := by kernel_rfl
@[simp] theorem z160 : zeroCs Tryz.prog 160 = some [.sc (.int .u8 0)] := by kernel_rfl
@[simp] theorem u160 : Tryz.prog.underlying 160 = some (.int .u8) := by kernel_rfl
@[simp] theorem g161 : aggT Tryz.prog 161 = some false := by kernel_rfl
@[simp] theorem s161 : sizeT Tryz.prog 161 = some 1 := by kernel_rfl
@[simp] theorem z161 : zeroCs Tryz.prog 161 = some [.sc (.nilFunc)] := by kernel_rfl
@[simp] theorem g162 : aggT Tryz.prog 162 = some false := by kernel_rfl
@[simp] theorem s162 : sizeT Tryz.prog 162 = some 1 := by kernel_rfl
@[simp] theorem z162 : zeroCs Tryz.prog 162 = some [.sc (.pointer none)] := by kernel_rfl
@[simp] theorem u162 : Tryz.prog.underlying 162 = some (.pointer 5) := by kernel_rfl
@[simp] theorem g163 : aggT Tryz.prog 163 = some false := by kernel_rfl
@[simp] theorem s163 : sizeT Tryz.prog 163 = some 1 := by kernel_rfl
@[simp] theorem z163 : zeroCs Tryz.prog 163 = some [.sc (.int .i32 0)] := by kernel_rfl
@[simp] theorem u163 : Tryz.prog.underlying 163 = some (.int .i32) := by kernel_rfl
@[simp] theorem g164 : aggT Tryz.prog 164 = some false := by kernel_rfl
@[simp] theorem s164 : sizeT Tryz.prog 164 = some 1 := by kernel_rfl
@[simp] theorem z164 : zeroCs Tryz.prog 164 = some [.sc (.int .i32 0)] := by kernel_rfl
@[simp] theorem u164 : Tryz.prog.underlying 164 = some (.int .i32) := by kernel_rfl
@[simp] theorem g165 : aggT Tryz.prog 165 = some true := by kernel_rfl
@[simp] theorem s165 : sizeT Tryz.prog 165 = some 11 := by kernel_rfl
@[simp] theorem z165 : zeroCs Tryz.prog 165 = some [.sc (.int .u64 0), .sc (.int .u64 0), .sc (.int .u32 0), .sc (.int .u8 0), .sc (.int .u8 0), .sc (.int .u8 0), .sc (.int .u8 0), .sc (.nilFunc), .sc (.pointer none), .sc (.int .i32 0), .sc (.int .i32 0)] := by kernel_rfl
@[simp] theorem f165_0 : fieldT Tryz.prog 165 0 = some 0 := by kernel_rfl
@[simp] theorem f165_1 : fieldT Tryz.prog 165 1 = some 1 := by kernel_rfl
@[simp] theorem f165_2 : fieldT Tryz.prog 165 2 = some 2 := by kernel_rfl
@[simp] theorem f165_3 : fieldT Tryz.prog 165 3 = some 3 := by kernel_rfl
@[simp] theorem f165_4 : fieldT Tryz.prog 165 4 = some 4 := by kernel_rfl
@[simp] theorem f165_5 : fieldT Tryz.prog 165 5 = some 5 := by kernel_rfl
@[simp] theorem f165_6 : fieldT Tryz.prog 165 6 = some 6 := by kernel_rfl
@[simp] theorem f165_7 : fieldT Tryz.prog 165 7 = some 7 := by kernel_rfl
@[simp] theorem f165_8 : fieldT Tryz.prog 165 8 = some 8 := by kernel_rfl
@[simp] theorem f165_9 : fieldT Tryz.prog 165 9 = some 9 := by kernel_rfl
@[simp] theorem f165_10 : fieldT Tryz.prog 165 10 = some 10 := by kernel_rfl
@[simp] theorem p165 : placeOf Tryz.prog 165 = some (fun i => ([(0, 1), (1, 1), (2, 1), (3, 1), (4, 1), (5, 1), (6, 1), (7, 1), (8, 1), (9, 1), (10, 1)] : List (Nat × Nat))[i]?) := by kernel_rfl
@[simp] theorem g166 : aggT Tryz.prog 166 = some true := by kernel_rfl
@[simp] theorem s166 : sizeT Tryz.prog 166 = some 11 := by kernel_rfl
@[simp] theorem z166 : zeroCs Tryz.prog 166 = some [.sc (.int .u64 0), .sc (.int .u64 0), .sc (.int .u32 0), .sc (.int .u8 0), .sc (.int .u8 0), .sc (.int .u8 0), .sc (.int .u8 0), .sc (.nilFunc), .sc (.pointer none), .sc (.int .i32 0), .sc (.int .i32 0)] := by kernel_rfl
@[simp] theorem f166_0 : fieldT Tryz.prog 166 0 = some 0 := by kernel_rfl
@[simp] theorem f166_1 : fieldT Tryz.prog 166 1 = some 1 := by kernel_rfl
@[simp] theorem f166_2 : fieldT Tryz.prog 166 2 = some 2 := by kernel_rfl
@[simp] theorem f166_3 : fieldT Tryz.prog 166 3 = some 3 := by kernel_rfl
@[simp] theorem f166_4 : fieldT Tryz.prog 166 4 = some 4 := by kernel_rfl
@[simp] theorem f166_5 : fieldT Tryz.prog 166 5 = some 5 := by kernel_rfl
@[simp] theorem f166_6 : fieldT Tryz.prog 166 6 = some 6 := by kernel_rfl
@[simp] theorem f166_7 : fieldT Tryz.prog 166 7 = some 7 := by kernel_rfl
@[simp] theorem f166_8 : fieldT Tryz.prog 166 8 = some 8 := by kernel_rfl
@[simp] theorem f166_9 : fieldT Tryz.prog 166 9 = some 9 := by kernel_rfl
@[simp] theorem f166_10 : fieldT Tryz.prog 166 10 = some 10 := by kernel_rfl
@[simp] theorem p166 : placeOf Tryz.prog 166 = some (fun i => ([(0, 1), (1, 1), (2, 1), (3, 1), (4, 1), (5, 1), (6, 1), (7, 1), (8, 1), (9, 1), (10, 1)] : List (Nat × Nat))[i]?) := by kernel_rfl
@[simp] theorem g167 : aggT Tryz.prog 167 = some false := by kernel_rfl
@[simp] theorem s167 : sizeT Tryz.prog 167 = some 1 := by kernel_rfl
@[simp] theorem z167 : zeroCs Tryz.prog 167 = some [.sc (.nilFunc)] := by kernel_rfl
@[simp] theorem g168 : aggT Tryz.prog 168 = some true := by kernel_rfl
@[simp] theorem s168 : sizeT Tryz.prog 168 = some 2 := by kernel_rfl
@[simp] theorem z168 : zeroCs Tryz.prog 168 = some [.sc (.string ⟨#[]⟩), .sc (.int .u8 0)] := by kernel_rfl
@[simp] theorem f168_0 : fieldT Tryz.prog 168 0 = some 0 := by kernel_rfl
@[simp] theorem f168_1 : fieldT Tryz.prog 168 1 = some 1 := by kernel_rfl
@[simp] theorem p168 : placeOf Tryz.prog 168 = some (fun i => ([(0, 1), (1, 1)] : List (Nat × Nat))[i]?) := by kernel_rfl
@[simp] theorem g169 : aggT Tryz.prog 169 = some true := by kernel_rfl
@[simp] theorem s169 : sizeT Tryz.prog 169 = some 2 := by kernel_rfl
@[simp] theorem z169 : zeroCs Tryz.prog 169 = some [.sc (.string ⟨#[]⟩), .sc (.int .u8 0)] := by kernel_rfl
@[simp] theorem f169_0 : fieldT Tryz.prog 169 0 = some 0 := by kernel_rfl
@[simp] theorem f169_1 : fieldT Tryz.prog 169 1 = some 1 := by kernel_rfl
@[simp] theorem p169 : placeOf Tryz.prog 169 = some (fun i => ([(0, 1), (1, 1)] : List (Nat × Nat))[i]?) := by kernel_rfl
end Ty
theorem mixed : Tryz.prog.follows .mixedOrders = true := by kernel_rfl
end Go.Proofs.YtmjnffjacgjfmaaGreat
