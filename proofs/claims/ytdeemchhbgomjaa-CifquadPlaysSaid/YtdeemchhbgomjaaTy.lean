/- The types of the program: sizes, fields, zero cells, elements. Printed by wip/gen/types.py; each fact is closed. -/
import Derived.Test.YtdeemchhbgomjaaRows
import Derived.Test.YtdeemchhbgomjaaAo
namespace Go.Proofs.Ytdeemchhbgomjaa
open Go.RowKit AM
namespace Ty
@[simp] theorem g1 : aggT Try.prog 1 = some false := by kernel_rfl
@[simp] theorem s1 : sizeT Try.prog 1 = some 1 := by kernel_rfl
@[simp] theorem z1 : zeroCs Try.prog 1 = some [.sc (.nilFunc)] := by kernel_rfl
@[simp] theorem g2 : aggT Try.prog 2 = some false := by kernel_rfl
@[simp] theorem s2 : sizeT Try.prog 2 = some 1 := by kernel_rfl
@[simp] theorem z2 : zeroCs Try.prog 2 = some [.sc (.int .i64 0)] := by kernel_rfl
@[simp] theorem u2 : Try.prog.underlying 2 = some (.int .i64) := by kernel_rfl
@[simp] theorem g3 : aggT Try.prog 3 = some false := by kernel_rfl
@[simp] theorem s3 : sizeT Try.prog 3 = some 1 := by kernel_rfl
@[simp] theorem z3 : zeroCs Try.prog 3 = some [.sc (.int .i64 0)] := by kernel_rfl
@[simp] theorem u3 : Try.prog.underlying 3 = some (.int .i64) := by kernel_rfl
@[simp] theorem g4 : aggT Try.prog 4 = some false := by kernel_rfl
@[simp] theorem s4 : sizeT Try.prog 4 = some 1 := by kernel_rfl
@[simp] theorem z4 : zeroCs Try.prog 4 = some [.sc (.bool false)] := by kernel_rfl
@[simp] theorem u4 : Try.prog.underlying 4 = some .bool := by kernel_rfl
@[simp] theorem g5 : aggT Try.prog 5 = some false := by kernel_rfl
@[simp] theorem s5 : sizeT Try.prog 5 = some 1 := by kernel_rfl
@[simp] theorem z5 : zeroCs Try.prog 5 = some [.sc (.int .u8 0)] := by kernel_rfl
@[simp] theorem u5 : Try.prog.underlying 5 = some (.int .u8) := by kernel_rfl
@[simp] theorem g6 : aggT Try.prog 6 = some false := by kernel_rfl
@[simp] theorem s6 : sizeT Try.prog 6 = some 1 := by kernel_rfl
@[simp] theorem z6 : zeroCs Try.prog 6 = some [.sc (.int .u8 0)] := by kernel_rfl
@[simp] theorem u6 : Try.prog.underlying 6 = some (.int .u8) := by kernel_rfl
@[simp] theorem g7 : aggT Try.prog 7 = some true := by kernel_rfl
@[simp] theorem s7 : sizeT Try.prog 7 = some 4 := by kernel_rfl
@[simp] theorem z7 : zeroCs Try.prog 7 = some [.sc (.int .i64 0), .sc (.int .i64 0), .sc (.bool false), .sc (.int .u8 0)] := by kernel_rfl
@[simp] theorem f7_0 : fieldT Try.prog 7 0 = some 0 := by kernel_rfl
@[simp] theorem f7_1 : fieldT Try.prog 7 1 = some 1 := by kernel_rfl
@[simp] theorem f7_2 : fieldT Try.prog 7 2 = some 2 := by kernel_rfl
@[simp] theorem f7_3 : fieldT Try.prog 7 3 = some 3 := by kernel_rfl
@[simp] theorem p7 : placeOf Try.prog 7 = some (fun i => ([(0, 1), (1, 1), (2, 1), (3, 1)] : List (Nat × Nat))[i]?) := by kernel_rfl
@[simp] theorem g8 : aggT Try.prog 8 = some true := by kernel_rfl
@[simp] theorem s8 : sizeT Try.prog 8 = some 4 := by kernel_rfl
@[simp] theorem z8 : zeroCs Try.prog 8 = some [.sc (.int .i64 0), .sc (.int .i64 0), .sc (.bool false), .sc (.int .u8 0)] := by kernel_rfl
@[simp] theorem f8_0 : fieldT Try.prog 8 0 = some 0 := by kernel_rfl
@[simp] theorem f8_1 : fieldT Try.prog 8 1 = some 1 := by kernel_rfl
@[simp] theorem f8_2 : fieldT Try.prog 8 2 = some 2 := by kernel_rfl
@[simp] theorem f8_3 : fieldT Try.prog 8 3 = some 3 := by kernel_rfl
@[simp] theorem p8 : placeOf Try.prog 8 = some (fun i => ([(0, 1), (1, 1), (2, 1), (3, 1)] : List (Nat × Nat))[i]?) := by kernel_rfl
@[simp] theorem g9 : aggT Try.prog 9 = some false := by kernel_rfl
@[simp] theorem s9 : sizeT Try.prog 9 = some 1 := by kernel_rfl
@[simp] theorem z9 : zeroCs Try.prog 9 = some [.sc (.string ⟨#[]⟩)] := by kernel_rfl
@[simp] theorem u9 : Try.prog.underlying 9 = some .string := by kernel_rfl
@[simp] theorem g10 : aggT Try.prog 10 = some false := by kernel_rfl
@[simp] theorem s10 : sizeT Try.prog 10 = some 1 := by kernel_rfl
@[simp] theorem z10 : zeroCs Try.prog 10 = some [.sc (.string ⟨#[]⟩)] := by kernel_rfl
@[simp] theorem u10 : Try.prog.underlying 10 = some .string := by kernel_rfl
@[simp] theorem g11 : aggT Try.prog 11 = some false := by kernel_rfl
@[simp] theorem s11 : sizeT Try.prog 11 = some 1 := by kernel_rfl
@[simp] theorem z11 : zeroCs Try.prog 11 = some [.sc (.string ⟨#[]⟩)] := by kernel_rfl
@[simp] theorem u11 : Try.prog.underlying 11 = some .string := by kernel_rfl
@[simp] theorem g12 : aggT Try.prog 12 = some false := by kernel_rfl
@[simp] theorem s12 : sizeT Try.prog 12 = some 1 := by kernel_rfl
@[simp] theorem z12 : zeroCs Try.prog 12 = some [.sc (.int .u64 0)] := by kernel_rfl
@[simp] theorem u12 : Try.prog.underlying 12 = some (.int .u64) := by kernel_rfl
@[simp] theorem g13 : aggT Try.prog 13 = some true := by kernel_rfl
@[simp] theorem s13 : sizeT Try.prog 13 = some 2 := by kernel_rfl
@[simp] theorem z13 : zeroCs Try.prog 13 = some [.sc (.string ⟨#[]⟩), .sc (.int .u64 0)] := by kernel_rfl
@[simp] theorem f13_0 : fieldT Try.prog 13 0 = some 0 := by kernel_rfl
@[simp] theorem f13_1 : fieldT Try.prog 13 1 = some 1 := by kernel_rfl
@[simp] theorem p13 : placeOf Try.prog 13 = some (fun i => ([(0, 1), (1, 1)] : List (Nat × Nat))[i]?) := by kernel_rfl
@[simp] theorem g14 : aggT Try.prog 14 = some true := by kernel_rfl
@[simp] theorem s14 : sizeT Try.prog 14 = some 2 := by kernel_rfl
@[simp] theorem z14 : zeroCs Try.prog 14 = some [.sc (.string ⟨#[]⟩), .sc (.int .u64 0)] := by kernel_rfl
@[simp] theorem f14_0 : fieldT Try.prog 14 0 = some 0 := by kernel_rfl
@[simp] theorem f14_1 : fieldT Try.prog 14 1 = some 1 := by kernel_rfl
@[simp] theorem p14 : placeOf Try.prog 14 = some (fun i => ([(0, 1), (1, 1)] : List (Nat × Nat))[i]?) := by kernel_rfl
@[simp] theorem g15 : aggT Try.prog 15 = some false := by kernel_rfl
@[simp] theorem s15 : sizeT Try.prog 15 = some 1 := by kernel_rfl
@[simp] theorem z15 : zeroCs Try.prog 15 = some [.sc (.pointer none)] := by kernel_rfl
@[simp] theorem u15 : Try.prog.underlying 15 = some (.pointer 137) := by kernel_rfl
@[simp] theorem g16 : aggT Try.prog 16 = some false := by kernel_rfl
@[simp] theorem s16 : sizeT Try.prog 16 = some 1 := by kernel_rfl
@[simp] theorem z16 : zeroCs Try.prog 16 = some [.sc (.pointer none)] := by kernel_rfl
@[simp] theorem u16 : Try.prog.underlying 16 = some (.pointer 140) := by kernel_rfl
@[simp] theorem g17 : aggT Try.prog 17 = some false := by kernel_rfl
@[simp] theorem s17 : sizeT Try.prog 17 = some 1 := by kernel_rfl
@[simp] theorem z17 : zeroCs Try.prog 17 = some [.sc (.pointer none)] := by kernel_rfl
@[simp] theorem u17 : Try.prog.underlying 17 = some (.pointer 148) := by kernel_rfl
@[simp] theorem g18 : aggT Try.prog 18 = some true := by kernel_rfl
@[simp] theorem s18 : sizeT Try.prog 18 = some 1 := by kernel_rfl
@[simp] theorem z18 : zeroCs Try.prog 18 = some [.sc (.pointer none)] := by kernel_rfl
@[simp] theorem f18_0 : fieldT Try.prog 18 0 = some 0 := by kernel_rfl
@[simp] theorem p18 : placeOf Try.prog 18 = some (fun i => ([(0, 1)] : List (Nat × Nat))[i]?) := by kernel_rfl
@[simp] theorem g19 : aggT Try.prog 19 = some true := by kernel_rfl
@[simp] theorem s19 : sizeT Try.prog 19 = some 1 := by kernel_rfl
@[simp] theorem z19 : zeroCs Try.prog 19 = some [.sc (.pointer none)] := by kernel_rfl
@[simp] theorem f19_0 : fieldT Try.prog 19 0 = some 0 := by kernel_rfl
@[simp] theorem p19 : placeOf Try.prog 19 = some (fun i => ([(0, 1)] : List (Nat × Nat))[i]?) := by kernel_rfl
@[simp] theorem g21 : aggT Try.prog 21 = some false := by kernel_rfl
@[simp] theorem s21 : sizeT Try.prog 21 = some 1 := by kernel_rfl
@[simp] theorem z21 : zeroCs Try.prog 21 = some [.sc (.int .i32 0)] := by kernel_rfl
@[simp] theorem u21 : Try.prog.underlying 21 = some (.int .i32) := by kernel_rfl
@[simp] theorem g22 : aggT Try.prog 22 = some false := by kernel_rfl
@[simp] theorem s22 : sizeT Try.prog 22 = some 1 := by kernel_rfl
@[simp] theorem z22 : zeroCs Try.prog 22 = some [.nil] := by kernel_rfl
@[simp] theorem e22 : elT Try.prog 22 = some (38, 6, 48) := by kernel_rfl
@[simp] theorem u22 : Try.prog.underlying 22 = some (.slice 38) := by kernel_rfl
@[simp] theorem g23 : aggT Try.prog 23 = some true := by kernel_rfl
@[simp] theorem s23 : sizeT Try.prog 23 = some 3 := by kernel_rfl
@[simp] theorem z23 : zeroCs Try.prog 23 = some [.sc (.int .i64 0), .sc (.int .i64 0), .sc (.int .i64 0)] := by kernel_rfl
@[simp] theorem f23_0 : fieldT Try.prog 23 0 = some 0 := by kernel_rfl
@[simp] theorem f23_1 : fieldT Try.prog 23 1 = some 1 := by kernel_rfl
@[simp] theorem f23_2 : fieldT Try.prog 23 2 = some 2 := by kernel_rfl
@[simp] theorem p23 : placeOf Try.prog 23 = some (fun i => ([(0, 1), (1, 1), (2, 1)] : List (Nat × Nat))[i]?) := by kernel_rfl
@[simp] theorem g24 : aggT Try.prog 24 = some true := by kernel_rfl
@[simp] theorem s24 : sizeT Try.prog 24 = some 3 := by kernel_rfl
@[simp] theorem z24 : zeroCs Try.prog 24 = some [.sc (.int .i64 0), .sc (.int .i64 0), .sc (.int .i64 0)] := by kernel_rfl
@[simp] theorem f24_0 : fieldT Try.prog 24 0 = some 0 := by kernel_rfl
@[simp] theorem f24_1 : fieldT Try.prog 24 1 = some 1 := by kernel_rfl
@[simp] theorem f24_2 : fieldT Try.prog 24 2 = some 2 := by kernel_rfl
@[simp] theorem p24 : placeOf Try.prog 24 = some (fun i => ([(0, 1), (1, 1), (2, 1)] : List (Nat × Nat))[i]?) := by kernel_rfl
@[simp] theorem g25 : aggT Try.prog 25 = some false := by kernel_rfl
@[simp] theorem s25 : sizeT Try.prog 25 = some 1 := by kernel_rfl
@[simp] theorem z25 : zeroCs Try.prog 25 = some [.sc (.pointer none)] := by kernel_rfl
@[simp] theorem u25 : Try.prog.underlying 25 = some (.pointer 62) := by kernel_rfl
@[simp] theorem g27 : aggT Try.prog 27 = some false := by kernel_rfl
@[simp] theorem s27 : sizeT Try.prog 27 = some 1 := by kernel_rfl
@[simp] theorem z27 : zeroCs Try.prog 27 = some [.sc (.nilFunc)] := by kernel_rfl
@[simp] theorem g28 : aggT Try.prog 28 = some false := by kernel_rfl
@[simp] theorem s28 : sizeT Try.prog 28 = some 1 := by kernel_rfl
@[simp] theorem z28 : zeroCs Try.prog 28 = some [.sc (.nilFunc)] := by kernel_rfl
@[simp] theorem g29 : aggT Try.prog 29 = some false := by kernel_rfl
@[simp] theorem s29 : sizeT Try.prog 29 = some 1 := by kernel_rfl
@[simp] theorem z29 : zeroCs Try.prog 29 = some [.sc (.nilFunc)] := by kernel_rfl
@[simp] theorem g30 : aggT Try.prog 30 = some false := by kernel_rfl
@[simp] theorem s30 : sizeT Try.prog 30 = some 1 := by kernel_rfl
@[simp] theorem z30 : zeroCs Try.prog 30 = some [.sc (.nilFunc)] := by kernel_rfl
@[simp] theorem g31 : aggT Try.prog 31 = some false := by kernel_rfl
@[simp] theorem s31 : sizeT Try.prog 31 = some 1 := by kernel_rfl
@[simp] theorem z31 : zeroCs Try.prog 31 = some [.sc (.nilFunc)] := by kernel_rfl
@[simp] theorem g32 : aggT Try.prog 32 = some false := by kernel_rfl
@[simp] theorem s32 : sizeT Try.prog 32 = some 1 := by kernel_rfl
@[simp] theorem z32 : zeroCs Try.prog 32 = some [.sc (.nilFunc)] := by kernel_rfl
@[simp] theorem g33 : aggT Try.prog 33 = some false := by kernel_rfl
@[simp] theorem s33 : sizeT Try.prog 33 = some 1 := by kernel_rfl
@[simp] theorem z33 : zeroCs Try.prog 33 = some [.sc (.int .i64 0)] := by kernel_rfl
@[simp] theorem u33 : Try.prog.underlying 33 = some (.int .i64) := by kernel_rfl
@[simp] theorem g34 : aggT Try.prog 34 = some false := by kernel_rfl
@[simp] theorem s34 : sizeT Try.prog 34 = some 1 := by kernel_rfl
@[simp] theorem z34 : zeroCs Try.prog 34 = some [.sc (.nilFunc)] := by kernel_rfl
@[simp] theorem g35 : aggT Try.prog 35 = some true := by kernel_rfl
@[simp] theorem s35 : sizeT Try.prog 35 = some 4 := by kernel_rfl
@[simp] theorem z35 : zeroCs Try.prog 35 = some [.sc (.int .i64 0), .sc (.int .i64 0), .sc (.int .i64 0), .sc (.int .i64 0)] := by kernel_rfl
@[simp] theorem f35_0 : fieldT Try.prog 35 0 = some 0 := by kernel_rfl
@[simp] theorem f35_1 : fieldT Try.prog 35 1 = some 1 := by kernel_rfl
@[simp] theorem f35_2 : fieldT Try.prog 35 2 = some 2 := by kernel_rfl
@[simp] theorem f35_3 : fieldT Try.prog 35 3 = some 3 := by kernel_rfl
@[simp] theorem p35 : placeOf Try.prog 35 = some (fun i => ([(0, 1), (1, 1), (2, 1), (3, 1)] : List (Nat × Nat))[i]?) := by kernel_rfl
@[simp] theorem g36 : aggT Try.prog 36 = some true := by kernel_rfl
@[simp] theorem s36 : sizeT Try.prog 36 = some 4 := by kernel_rfl
@[simp] theorem z36 : zeroCs Try.prog 36 = some [.sc (.int .i64 0), .sc (.int .i64 0), .sc (.int .i64 0), .sc (.int .i64 0)] := by kernel_rfl
@[simp] theorem f36_0 : fieldT Try.prog 36 0 = some 0 := by kernel_rfl
@[simp] theorem f36_1 : fieldT Try.prog 36 1 = some 1 := by kernel_rfl
@[simp] theorem f36_2 : fieldT Try.prog 36 2 = some 2 := by kernel_rfl
@[simp] theorem f36_3 : fieldT Try.prog 36 3 = some 3 := by kernel_rfl
@[simp] theorem p36 : placeOf Try.prog 36 = some (fun i => ([(0, 1), (1, 1), (2, 1), (3, 1)] : List (Nat × Nat))[i]?) := by kernel_rfl
@[simp] theorem g37 : aggT Try.prog 37 = some true := by kernel_rfl
@[simp] theorem s37 : sizeT Try.prog 37 = some 6 := by kernel_rfl
@[simp] theorem z37 : zeroCs Try.prog 37 = some [.sc (.int .i64 0), .sc (.int .i64 0), .sc (.int .i64 0), .sc (.int .i64 0), .sc (.int .i64 0), .sc (.int .i64 0)] := by kernel_rfl
@[simp] theorem f37_0 : fieldT Try.prog 37 0 = some 0 := by kernel_rfl
@[simp] theorem f37_1 : fieldT Try.prog 37 1 = some 1 := by kernel_rfl
@[simp] theorem f37_2 : fieldT Try.prog 37 2 = some 5 := by kernel_rfl
@[simp] theorem p37 : placeOf Try.prog 37 = some (fun i => ([(0, 1), (1, 4), (5, 1)] : List (Nat × Nat))[i]?) := by kernel_rfl
@[simp] theorem g38 : aggT Try.prog 38 = some true := by kernel_rfl
@[simp] theorem s38 : sizeT Try.prog 38 = some 6 := by kernel_rfl
@[simp] theorem z38 : zeroCs Try.prog 38 = some [.sc (.int .i64 0), .sc (.int .i64 0), .sc (.int .i64 0), .sc (.int .i64 0), .sc (.int .i64 0), .sc (.int .i64 0)] := by kernel_rfl
@[simp] theorem f38_0 : fieldT Try.prog 38 0 = some 0 := by kernel_rfl
@[simp] theorem f38_1 : fieldT Try.prog 38 1 = some 1 := by kernel_rfl
@[simp] theorem f38_2 : fieldT Try.prog 38 2 = some 5 := by kernel_rfl
@[simp] theorem p38 : placeOf Try.prog 38 = some (fun i => ([(0, 1), (1, 4), (5, 1)] : List (Nat × Nat))[i]?) := by kernel_rfl
@[simp] theorem g40 : aggT Try.prog 40 = some false := by kernel_rfl
@[simp] theorem s40 : sizeT Try.prog 40 = some 1 := by kernel_rfl
@[simp] theorem z40 : zeroCs Try.prog 40 = some [.sc (.nilFunc)] := by kernel_rfl
@[simp] theorem g41 : aggT Try.prog 41 = some false := by kernel_rfl
@[simp] theorem s41 : sizeT Try.prog 41 = some 1 := by kernel_rfl
@[simp] theorem z41 : zeroCs Try.prog 41 = some [.sc (.nilFunc)] := by kernel_rfl
@[simp] theorem g42 : aggT Try.prog 42 = some false := by kernel_rfl
@[simp] theorem s42 : sizeT Try.prog 42 = some 1 := by kernel_rfl
@[simp] theorem z42 : zeroCs Try.prog 42 = some [.sc (.nilFunc)] := by kernel_rfl
@[simp] theorem g43 : aggT Try.prog 43 = some false := by kernel_rfl
@[simp] theorem s43 : sizeT Try.prog 43 = some 1 := by kernel_rfl
@[simp] theorem z43 : zeroCs Try.prog 43 = some [.sc (.nilFunc)] := by kernel_rfl
@[simp] theorem g44 : aggT Try.prog 44 = some false := by kernel_rfl
@[simp] theorem s44 : sizeT Try.prog 44 = some 1 := by kernel_rfl
@[simp] theorem z44 : zeroCs Try.prog 44 = some [.sc (.nilFunc)] := by kernel_rfl
@[simp] theorem g45 : aggT Try.prog 45 = some false := by kernel_rfl
@[simp] theorem s45 : sizeT Try.prog 45 = some 1 := by kernel_rfl
@[simp] theorem z45 : zeroCs Try.prog 45 = some [.sc (.nilFunc)] := by kernel_rfl
@[simp] theorem g46 : aggT Try.prog 46 = some false := by kernel_rfl
@[simp] theorem s46 : sizeT Try.prog 46 = some 1 := by kernel_rfl
@[simp] theorem z46 : zeroCs Try.prog 46 = some [.sc (.nilFunc)] := by kernel_rfl
@[simp] theorem g47 : aggT Try.prog 47 = some false := by kernel_rfl
@[simp] theorem s47 : sizeT Try.prog 47 = some 1 := by kernel_rfl
@[simp] theorem z47 : zeroCs Try.prog 47 = some [.sc (.nilFunc)] := by kernel_rfl
@[simp] theorem g48 : aggT Try.prog 48 = some false := by kernel_rfl
@[simp] theorem s48 : sizeT Try.prog 48 = some 1 := by kernel_rfl
@[simp] theorem z48 : zeroCs Try.prog 48 = some [.nil] := by kernel_rfl
@[simp] theorem e48 : elT Try.prog 48 = some (50, 7, 56) := by kernel_rfl
@[simp] theorem u48 : Try.prog.underlying 48 = some (.slice 50) := by kernel_rfl
@[simp] theorem g49 : aggT Try.prog 49 = some true := by kernel_rfl
@[simp] theorem s49 : sizeT Try.prog 49 = some 7 := by kernel_rfl
@[simp] theorem z49 : zeroCs Try.prog 49 = some [.sc (.int .i64 0), .sc (.int .i64 0), .sc (.int .i64 0), .sc (.int .i64 0), .sc (.int .i64 0), .sc (.int .i64 0), .sc (.int .i64 0)] := by kernel_rfl
@[simp] theorem f49_0 : fieldT Try.prog 49 0 = some 0 := by kernel_rfl
@[simp] theorem f49_1 : fieldT Try.prog 49 1 = some 1 := by kernel_rfl
@[simp] theorem p49 : placeOf Try.prog 49 = some (fun i => ([(0, 1), (1, 6)] : List (Nat × Nat))[i]?) := by kernel_rfl
@[simp] theorem g50 : aggT Try.prog 50 = some true := by kernel_rfl
@[simp] theorem s50 : sizeT Try.prog 50 = some 7 := by kernel_rfl
@[simp] theorem z50 : zeroCs Try.prog 50 = some [.sc (.int .i64 0), .sc (.int .i64 0), .sc (.int .i64 0), .sc (.int .i64 0), .sc (.int .i64 0), .sc (.int .i64 0), .sc (.int .i64 0)] := by kernel_rfl
@[simp] theorem f50_0 : fieldT Try.prog 50 0 = some 0 := by kernel_rfl
@[simp] theorem f50_1 : fieldT Try.prog 50 1 = some 1 := by kernel_rfl
@[simp] theorem p50 : placeOf Try.prog 50 = some (fun i => ([(0, 1), (1, 6)] : List (Nat × Nat))[i]?) := by kernel_rfl
@[simp] theorem g51 : aggT Try.prog 51 = some false := by kernel_rfl
@[simp] theorem s51 : sizeT Try.prog 51 = some 1 := by kernel_rfl
@[simp] theorem z51 : zeroCs Try.prog 51 = some [.sc (.nilFunc)] := by kernel_rfl
@[simp] theorem g52 : aggT Try.prog 52 = some false := by kernel_rfl
@[simp] theorem s52 : sizeT Try.prog 52 = some 1 := by kernel_rfl
@[simp] theorem z52 : zeroCs Try.prog 52 = some [.sc (.nilFunc)] := by kernel_rfl
@[simp] theorem g53 : aggT Try.prog 53 = some false := by kernel_rfl
@[simp] theorem s53 : sizeT Try.prog 53 = some 1 := by kernel_rfl
@[simp] theorem z53 : zeroCs Try.prog 53 = some [.sc (.nilFunc)] := by kernel_rfl
@[simp] theorem g54 : aggT Try.prog 54 = some false := by kernel_rfl
@[simp] theorem s54 : sizeT Try.prog 54 = some 1 := by kernel_rfl
@[simp] theorem z54 : zeroCs Try.prog 54 = some [.sc (.nilFunc)] := by kernel_rfl
@[simp] theorem g55 : aggT Try.prog 55 = some false := by kernel_rfl
@[simp] theorem s55 : sizeT Try.prog 55 = some 1 := by kernel_rfl
@[simp] theorem z55 : zeroCs Try.prog 55 = some [.sc (.nilFunc)] := by kernel_rfl
@[simp] theorem g56 : aggT Try.prog 56 = some false := by kernel_rfl
@[simp] theorem s56 : sizeT Try.prog 56 = some 1 := by kernel_rfl
@[simp] theorem z56 : zeroCs Try.prog 56 = some [.sc (.nilFunc)] := by kernel_rfl
@[simp] theorem g57 : aggT Try.prog 57 = some false := by kernel_rfl
@[simp] theorem s57 : sizeT Try.prog 57 = some 1 := by kernel_rfl
@[simp] theorem z57 : zeroCs Try.prog 57 = some [.sc (.nilFunc)] := by kernel_rfl
@[simp] theorem g58 : aggT Try.prog 58 = some false := by kernel_rfl
@[simp] theorem s58 : sizeT Try.prog 58 = some 1 := by kernel_rfl
@[simp] theorem z58 : zeroCs Try.prog 58 = some [.sc (.nilFunc)] := by kernel_rfl
@[simp] theorem g59 : aggT Try.prog 59 = some false := by kernel_rfl
@[simp] theorem s59 : sizeT Try.prog 59 = some 1 := by kernel_rfl
@[simp] theorem z59 : zeroCs Try.prog 59 = some [.sc (.pointer none)] := by kernel_rfl
@[simp] theorem u59 : Try.prog.underlying 59 = some (.pointer 65) := by kernel_rfl
@[simp] theorem g60 : aggT Try.prog 60 = some false := by kernel_rfl
@[simp] theorem s60 : sizeT Try.prog 60 = some 1 := by kernel_rfl
@[simp] theorem z60 : zeroCs Try.prog 60 = some [.sc (.map none)] := by kernel_rfl
@[simp] theorem u60 : Try.prog.underlying 60 = some (.map 3 38) := by kernel_rfl
@[simp] theorem g61 : aggT Try.prog 61 = some true := by kernel_rfl
@[simp] theorem s61 : sizeT Try.prog 61 = some 2 := by kernel_rfl
@[simp] theorem z61 : zeroCs Try.prog 61 = some [.sc (.pointer none), .sc (.map none)] := by kernel_rfl
@[simp] theorem f61_0 : fieldT Try.prog 61 0 = some 0 := by kernel_rfl
@[simp] theorem f61_1 : fieldT Try.prog 61 1 = some 1 := by kernel_rfl
@[simp] theorem p61 : placeOf Try.prog 61 = some (fun i => ([(0, 1), (1, 1)] : List (Nat × Nat))[i]?) := by kernel_rfl
@[simp] theorem g62 : aggT Try.prog 62 = some true := by kernel_rfl
@[simp] theorem s62 : sizeT Try.prog 62 = some 2 := by kernel_rfl
@[simp] theorem z62 : zeroCs Try.prog 62 = some [.sc (.pointer none), .sc (.map none)] := by kernel_rfl
@[simp] theorem f62_0 : fieldT Try.prog 62 0 = some 0 := by kernel_rfl
@[simp] theorem f62_1 : fieldT Try.prog 62 1 = some 1 := by kernel_rfl
@[simp] theorem p62 : placeOf Try.prog 62 = some (fun i => ([(0, 1), (1, 1)] : List (Nat × Nat))[i]?) := by kernel_rfl
@[simp] theorem g63 : aggT Try.prog 63 = some true := by kernel_rfl
@[simp] theorem s63 : sizeT Try.prog 63 = some 4 := by kernel_rfl
@[simp] theorem z63 : zeroCs Try.prog 63 = some [.sc (.pointer none), .sc (.pointer none), .sc (.pointer none), .sc (.pointer none)] := by kernel_rfl
@[simp] theorem p63 : placeOf Try.prog 63 = some (fun i => some (i * 1, 1)) := by kernel_rfl
@[simp] theorem u63 : Try.prog.underlying 63 = some (.array 4 59) := by kernel_rfl
@[simp] theorem g64 : aggT Try.prog 64 = some true := by kernel_rfl
@[simp] theorem s64 : sizeT Try.prog 64 = some 9 := by kernel_rfl
@[simp] theorem z64 : zeroCs Try.prog 64 = some [.sc (.int .i64 0), .sc (.int .i64 0), .sc (.int .i64 0), .sc (.pointer none), .sc (.pointer none), .sc (.pointer none), .sc (.pointer none), .sc (.int .i64 0), .sc (.map none)] := by kernel_rfl
@[simp] theorem f64_0 : fieldT Try.prog 64 0 = some 0 := by kernel_rfl
@[simp] theorem f64_1 : fieldT Try.prog 64 1 = some 3 := by kernel_rfl
@[simp] theorem f64_2 : fieldT Try.prog 64 2 = some 7 := by kernel_rfl
@[simp] theorem f64_3 : fieldT Try.prog 64 3 = some 8 := by kernel_rfl
@[simp] theorem p64 : placeOf Try.prog 64 = some (fun i => ([(0, 3), (3, 4), (7, 1), (8, 1)] : List (Nat × Nat))[i]?) := by kernel_rfl
@[simp] theorem g65 : aggT Try.prog 65 = some true := by kernel_rfl
@[simp] theorem s65 : sizeT Try.prog 65 = some 9 := by kernel_rfl
@[simp] theorem z65 : zeroCs Try.prog 65 = some [.sc (.int .i64 0), .sc (.int .i64 0), .sc (.int .i64 0), .sc (.pointer none), .sc (.pointer none), .sc (.pointer none), .sc (.pointer none), .sc (.int .i64 0), .sc (.map none)] := by kernel_rfl
@[simp] theorem f65_0 : fieldT Try.prog 65 0 = some 0 := by kernel_rfl
@[simp] theorem f65_1 : fieldT Try.prog 65 1 = some 3 := by kernel_rfl
@[simp] theorem f65_2 : fieldT Try.prog 65 2 = some 7 := by kernel_rfl
@[simp] theorem f65_3 : fieldT Try.prog 65 3 = some 8 := by kernel_rfl
@[simp] theorem p65 : placeOf Try.prog 65 = some (fun i => ([(0, 3), (3, 4), (7, 1), (8, 1)] : List (Nat × Nat))[i]?) := by kernel_rfl
@[simp] theorem g66 : aggT Try.prog 66 = some false := by kernel_rfl
@[simp] theorem s66 : sizeT Try.prog 66 = some 1 := by kernel_rfl
@[simp] theorem z66 : zeroCs Try.prog 66 = some [.sc (.nilFunc)] := by kernel_rfl
@[simp] theorem g68 : aggT Try.prog 68 = some false := by kernel_rfl
@[simp] theorem s68 : sizeT Try.prog 68 = some 1 := by kernel_rfl
@[simp] theorem z68 : zeroCs Try.prog 68 = some [.sc (.nilFunc)] := by kernel_rfl
@[simp] theorem g69 : aggT Try.prog 69 = some false := by kernel_rfl
@[simp] theorem s69 : sizeT Try.prog 69 = some 1 := by kernel_rfl
@[simp] theorem z69 : zeroCs Try.prog 69 = some [.sc (.nilFunc)] := by kernel_rfl
@[simp] theorem g70 : aggT Try.prog 70 = some false := by kernel_rfl
@[simp] theorem s70 : sizeT Try.prog 70 = some 1 := by kernel_rfl
@[simp] theorem z70 : zeroCs Try.prog 70 = some [.sc (.nilFunc)] := by kernel_rfl
@[simp] theorem g71 : aggT Try.prog 71 = some false := by kernel_rfl
@[simp] theorem s71 : sizeT Try.prog 71 = some 1 := by kernel_rfl
@[simp] theorem z71 : zeroCs Try.prog 71 = some [.sc (.nilFunc)] := by kernel_rfl
@[simp] theorem g72 : aggT Try.prog 72 = some false := by kernel_rfl
@[simp] theorem s72 : sizeT Try.prog 72 = some 1 := by kernel_rfl
@[simp] theorem z72 : zeroCs Try.prog 72 = some [.sc (.nilFunc)] := by kernel_rfl
@[simp] theorem g73 : aggT Try.prog 73 = some false := by kernel_rfl
@[simp] theorem s73 : sizeT Try.prog 73 = some 1 := by kernel_rfl
@[simp] theorem z73 : zeroCs Try.prog 73 = some [.sc (.nilFunc)] := by kernel_rfl
@[simp] theorem g74 : aggT Try.prog 74 = some false := by kernel_rfl
@[simp] theorem s74 : sizeT Try.prog 74 = some 1 := by kernel_rfl
@[simp] theorem z74 : zeroCs Try.prog 74 = some [.sc (.nilFunc)] := by kernel_rfl
@[simp] theorem g75 : aggT Try.prog 75 = some false := by kernel_rfl
@[simp] theorem s75 : sizeT Try.prog 75 = some 1 := by kernel_rfl
@[simp] theorem z75 : zeroCs Try.prog 75 = some [.sc (.nilFunc)] := by kernel_rfl
@[simp] theorem g77 : aggT Try.prog 77 = some false := by kernel_rfl
@[simp] theorem s77 : sizeT Try.prog 77 = some 1 := by kernel_rfl
@[simp] theorem z77 : zeroCs Try.prog 77 = some [.sc (.nilFunc)] := by kernel_rfl
@[simp] theorem g78 : aggT Try.prog 78 = some false := by kernel_rfl
@[simp] theorem s78 : sizeT Try.prog 78 = some 1 := by kernel_rfl
@[simp] theorem z78 : zeroCs Try.prog 78 = some [.sc (.nilFunc)] := by kernel_rfl
@[simp] theorem g79 : aggT Try.prog 79 = some false := by kernel_rfl
@[simp] theorem s79 : sizeT Try.prog 79 = some 1 := by kernel_rfl
@[simp] theorem z79 : zeroCs Try.prog 79 = some [.nil] := by kernel_rfl
@[simp] theorem e79 : elT Try.prog 79 = some (24, 3, 24) := by kernel_rfl
@[simp] theorem u79 : Try.prog.underlying 79 = some (.slice 24) := by kernel_rfl
@[simp] theorem g80 : aggT Try.prog 80 = some false := by kernel_rfl
@[simp] theorem s80 : sizeT Try.prog 80 = some 1 := by kernel_rfl
@[simp] theorem z80 : zeroCs Try.prog 80 = some [.sc (.nilFunc)] := by kernel_rfl
@[simp] theorem g81 : aggT Try.prog 81 = some false := by kernel_rfl
@[simp] theorem s81 : sizeT Try.prog 81 = some 1 := by kernel_rfl
@[simp] theorem z81 : zeroCs Try.prog 81 = some [.sc (.nilFunc)] := by kernel_rfl
@[simp] theorem g82 : aggT Try.prog 82 = some true := by kernel_rfl
@[simp] theorem s82 : sizeT Try.prog 82 = some 2 := by kernel_rfl
@[simp] theorem z82 : zeroCs Try.prog 82 = some [.sc (.int .i64 0), .sc (.int .i64 0)] := by kernel_rfl
@[simp] theorem f82_0 : fieldT Try.prog 82 0 = some 0 := by kernel_rfl
@[simp] theorem f82_1 : fieldT Try.prog 82 1 = some 1 := by kernel_rfl
@[simp] theorem p82 : placeOf Try.prog 82 = some (fun i => ([(0, 1), (1, 1)] : List (Nat × Nat))[i]?) := by kernel_rfl
@[simp] theorem g83 : aggT Try.prog 83 = some true := by kernel_rfl
@[simp] theorem s83 : sizeT Try.prog 83 = some 2 := by kernel_rfl
@[simp] theorem z83 : zeroCs Try.prog 83 = some [.sc (.int .i64 0), .sc (.int .i64 0)] := by kernel_rfl
@[simp] theorem f83_0 : fieldT Try.prog 83 0 = some 0 := by kernel_rfl
@[simp] theorem f83_1 : fieldT Try.prog 83 1 = some 1 := by kernel_rfl
@[simp] theorem p83 : placeOf Try.prog 83 = some (fun i => ([(0, 1), (1, 1)] : List (Nat × Nat))[i]?) := by kernel_rfl
@[simp] theorem g84 : aggT Try.prog 84 = some false := by kernel_rfl
@[simp] theorem s84 : sizeT Try.prog 84 = some 1 := by kernel_rfl
@[simp] theorem z84 : zeroCs Try.prog 84 = some [.sc (.nilFunc)] := by kernel_rfl
@[simp] theorem g85 : aggT Try.prog 85 = some false := by kernel_rfl
@[simp] theorem s85 : sizeT Try.prog 85 = some 1 := by kernel_rfl
@[simp] theorem z85 : zeroCs Try.prog 85 = some [.sc (.nilFunc)] := by kernel_rfl
@[simp] theorem g86 : aggT Try.prog 86 = some false := by kernel_rfl
@[simp] theorem s86 : sizeT Try.prog 86 = some 1 := by kernel_rfl
@[simp] theorem z86 : zeroCs Try.prog 86 = some [.sc (.nilFunc)] := by kernel_rfl
@[simp] theorem g87 : aggT Try.prog 87 = some false := by kernel_rfl
@[simp] theorem s87 : sizeT Try.prog 87 = some 1 := by kernel_rfl
@[simp] theorem z87 : zeroCs Try.prog 87 = some [.sc (.nilFunc)] := by kernel_rfl
@[simp] theorem g88 : aggT Try.prog 88 = some false := by kernel_rfl
@[simp] theorem s88 : sizeT Try.prog 88 = some 1 := by kernel_rfl
@[simp] theorem z88 : zeroCs Try.prog 88 = some [.sc (.nilFunc)] := by kernel_rfl
@[simp] theorem g89 : aggT Try.prog 89 = some false := by kernel_rfl
@[simp] theorem s89 : sizeT Try.prog 89 = some 1 := by kernel_rfl
@[simp] theorem z89 : zeroCs Try.prog 89 = some [.sc (.nilFunc)] := by kernel_rfl
@[simp] theorem g90 : aggT Try.prog 90 = some false := by kernel_rfl
@[simp] theorem s90 : sizeT Try.prog 90 = some 1 := by kernel_rfl
@[simp] theorem z90 : zeroCs Try.prog 90 = some [.sc (.nilFunc)] := by kernel_rfl
@[simp] theorem g91 : aggT Try.prog 91 = some false := by kernel_rfl
@[simp] theorem s91 : sizeT Try.prog 91 = some 1 := by kernel_rfl
@[simp] theorem z91 : zeroCs Try.prog 91 = some [.sc (.nilFunc)] := by kernel_rfl
@[simp] theorem g92 : aggT Try.prog 92 = some true := by kernel_rfl
@[simp] theorem s92 : sizeT Try.prog 92 = some 4 := by kernel_rfl
@[simp] theorem z92 : zeroCs Try.prog 92 = some [.sc (.int .i64 0), .sc (.int .i64 0), .sc (.int .i64 0), .sc (.int .i64 0)] := by kernel_rfl
@[simp] theorem f92_0 : fieldT Try.prog 92 0 = some 0 := by kernel_rfl
@[simp] theorem f92_1 : fieldT Try.prog 92 1 = some 1 := by kernel_rfl
@[simp] theorem f92_2 : fieldT Try.prog 92 2 = some 2 := by kernel_rfl
@[simp] theorem f92_3 : fieldT Try.prog 92 3 = some 3 := by kernel_rfl
@[simp] theorem p92 : placeOf Try.prog 92 = some (fun i => ([(0, 1), (1, 1), (2, 1), (3, 1)] : List (Nat × Nat))[i]?) := by kernel_rfl
@[simp] theorem g93 : aggT Try.prog 93 = some false := by kernel_rfl
@[simp] theorem s93 : sizeT Try.prog 93 = some 1 := by kernel_rfl
@[simp] theorem z93 : zeroCs Try.prog 93 = some [.sc (.nilFunc)] := by kernel_rfl
@[simp] theorem g94 : aggT Try.prog 94 = some false := by kernel_rfl
@[simp] theorem s94 : sizeT Try.prog 94 = some 1 := by kernel_rfl
@[simp] theorem z94 : zeroCs Try.prog 94 = some [.sc (.nilFunc)] := by kernel_rfl
@[simp] theorem g96 : aggT Try.prog 96 = some false := by kernel_rfl
@[simp] theorem s96 : sizeT Try.prog 96 = some 1 := by kernel_rfl
@[simp] theorem z96 : zeroCs Try.prog 96 = some [.sc (.nilFunc)] := by kernel_rfl
@[simp] theorem g97 : aggT Try.prog 97 = some false := by kernel_rfl
@[simp] theorem s97 : sizeT Try.prog 97 = some 1 := by kernel_rfl
@[simp] theorem z97 : zeroCs Try.prog 97 = some [.sc (.int .i64 0)] := by kernel_rfl
@[simp] theorem u97 : Try.prog.underlying 97 = some (.int .i64) := by kernel_rfl
@[simp] theorem g99 : aggT Try.prog 99 = some false := by kernel_rfl
@[simp] theorem s99 : sizeT Try.prog 99 = some 1 := by kernel_rfl
@[simp] theorem z99 : zeroCs Try.prog 99 = some [.sc (.int .u64 0)] := by kernel_rfl
@[simp] theorem u99 : Try.prog.underlying 99 = some (.int .u64) := by kernel_rfl
@[simp] theorem g100 : aggT Try.prog 100 = some true := by kernel_rfl
@[simp] theorem s100 : sizeT Try.prog 100 = some 3 := by kernel_rfl
@[simp] theorem z100 : zeroCs Try.prog 100 = some [.sc (.pointer none), .sc (.pointer none), .sc (.int .u64 0)] := by kernel_rfl
@[simp] theorem f100_0 : fieldT Try.prog 100 0 = some 0 := by kernel_rfl
@[simp] theorem f100_1 : fieldT Try.prog 100 1 = some 1 := by kernel_rfl
@[simp] theorem f100_2 : fieldT Try.prog 100 2 = some 2 := by kernel_rfl
@[simp] theorem p100 : placeOf Try.prog 100 = some (fun i => ([(0, 1), (1, 1), (2, 1)] : List (Nat × Nat))[i]?) := by kernel_rfl
@[simp] theorem g101 : aggT Try.prog 101 = some true := by kernel_rfl
@[simp] theorem s101 : sizeT Try.prog 101 = some 3 := by kernel_rfl
@[simp] theorem z101 : zeroCs Try.prog 101 = some [.sc (.pointer none), .sc (.pointer none), .sc (.int .u64 0)] := by kernel_rfl
@[simp] theorem f101_0 : fieldT Try.prog 101 0 = some 0 := by kernel_rfl
@[simp] theorem f101_1 : fieldT Try.prog 101 1 = some 1 := by kernel_rfl
@[simp] theorem f101_2 : fieldT Try.prog 101 2 = some 2 := by kernel_rfl
@[simp] theorem p101 : placeOf Try.prog 101 = some (fun i => ([(0, 1), (1, 1), (2, 1)] : List (Nat × Nat))[i]?) := by kernel_rfl
@[simp] theorem g102 : aggT Try.prog 102 = some false := by kernel_rfl
@[simp] theorem s102 : sizeT Try.prog 102 = some 1 := by kernel_rfl
@[simp] theorem z102 : zeroCs Try.prog 102 = some [.sc (.nilFunc)] := by kernel_rfl
@[simp] theorem g103 : aggT Try.prog 103 = some false := by kernel_rfl
@[simp] theorem s103 : sizeT Try.prog 103 = some 1 := by kernel_rfl
@[simp] theorem z103 : zeroCs Try.prog 103 = some [.sc (.nilFunc)] := by kernel_rfl
@[simp] theorem g104 : aggT Try.prog 104 = some false := by kernel_rfl
@[simp] theorem s104 : sizeT Try.prog 104 = some 1 := by kernel_rfl
@[simp] theorem z104 : zeroCs Try.prog 104 = some [.sc (.nilFunc)] := by kernel_rfl
@[simp] theorem g105 : aggT Try.prog 105 = some false := by kernel_rfl
@[simp] theorem s105 : sizeT Try.prog 105 = some 1 := by kernel_rfl
@[simp] theorem z105 : zeroCs Try.prog 105 = some [.sc (.nilFunc)] := by kernel_rfl
@[simp] theorem g106 : aggT Try.prog 106 = some false := by kernel_rfl
@[simp] theorem s106 : sizeT Try.prog 106 = some 1 := by kernel_rfl
@[simp] theorem z106 : zeroCs Try.prog 106 = some [.sc (.int .u64 0)] := by kernel_rfl
@[simp] theorem u106 : Try.prog.underlying 106 = some (.int .u64) := by kernel_rfl
@[simp] theorem g107 : aggT Try.prog 107 = some false := by kernel_rfl
@[simp] theorem s107 : sizeT Try.prog 107 = some 1 := by kernel_rfl
@[simp] theorem z107 : zeroCs Try.prog 107 = some [.sc (.nilFunc)] := by kernel_rfl
@[simp] theorem g108 : aggT Try.prog 108 = some true := by kernel_rfl
@[simp] theorem s108 : sizeT Try.prog 108 = some 2 := by kernel_rfl
@[simp] theorem z108 : zeroCs Try.prog 108 = some [.sc (.nilFunc), .sc (.nilFunc)] := by kernel_rfl
@[simp] theorem f108_0 : fieldT Try.prog 108 0 = some 0 := by kernel_rfl
@[simp] theorem f108_1 : fieldT Try.prog 108 1 = some 1 := by kernel_rfl
@[simp] theorem p108 : placeOf Try.prog 108 = some (fun i => ([(0, 1), (1, 1)] : List (Nat × Nat))[i]?) := by kernel_rfl
@[simp] theorem g109 : aggT Try.prog 109 = some true := by kernel_rfl
@[simp] theorem s109 : sizeT Try.prog 109 = some 2 := by kernel_rfl
@[simp] theorem z109 : zeroCs Try.prog 109 = some [.sc (.nilFunc), .sc (.nilFunc)] := by kernel_rfl
@[simp] theorem f109_0 : fieldT Try.prog 109 0 = some 0 := by kernel_rfl
@[simp] theorem f109_1 : fieldT Try.prog 109 1 = some 1 := by kernel_rfl
@[simp] theorem p109 : placeOf Try.prog 109 = some (fun i => ([(0, 1), (1, 1)] : List (Nat × Nat))[i]?) := by kernel_rfl
@[simp] theorem g110 : aggT Try.prog 110 = some false := by kernel_rfl
@[simp] theorem s110 : sizeT Try.prog 110 = some 1 := by kernel_rfl
@[simp] theorem z110 : zeroCs Try.prog 110 = some [.sc (.nilFunc)] := by kernel_rfl
@[simp] theorem g111 : aggT Try.prog 111 = some false := by kernel_rfl
@[simp] theorem s111 : sizeT Try.prog 111 = some 1 := by kernel_rfl
@[simp] theorem z111 : zeroCs Try.prog 111 = some [.sc (.nilFunc)] := by kernel_rfl
@[simp] theorem g112 : aggT Try.prog 112 = some true := by kernel_rfl
@[simp] theorem s112 : sizeT Try.prog 112 = some 1 := by kernel_rfl
@[simp] theorem z112 : zeroCs Try.prog 112 = some [.sc (.pointer none)] := by kernel_rfl
@[simp] theorem f112_0 : fieldT Try.prog 112 0 = some 0 := by kernel_rfl
@[simp] theorem p112 : placeOf Try.prog 112 = some (fun i => ([(0, 1)] : List (Nat × Nat))[i]?) := by kernel_rfl
@[simp] theorem g113 : aggT Try.prog 113 = some true := by kernel_rfl
@[simp] theorem s113 : sizeT Try.prog 113 = some 1 := by kernel_rfl
@[simp] theorem z113 : zeroCs Try.prog 113 = some [.sc (.pointer none)] := by kernel_rfl
@[simp] theorem f113_0 : fieldT Try.prog 113 0 = some 0 := by kernel_rfl
@[simp] theorem p113 : placeOf Try.prog 113 = some (fun i => ([(0, 1)] : List (Nat × Nat))[i]?) := by kernel_rfl
@[simp] theorem g114 : aggT Try.prog 114 = some false := by kernel_rfl
@[simp] theorem s114 : sizeT Try.prog 114 = some 1 := by kernel_rfl
@[simp] theorem z114 : zeroCs Try.prog 114 = some [.sc (.pointer none)] := by kernel_rfl
@[simp] theorem u114 : Try.prog.underlying 114 = some (.pointer 150) := by kernel_rfl
@[simp] theorem g115 : aggT Try.prog 115 = some false := by kernel_rfl
@[simp] theorem s115 : sizeT Try.prog 115 = some 1 := by kernel_rfl
@[simp] theorem z115 : zeroCs Try.prog 115 = some [.sc (.nilFunc)] := by kernel_rfl
@[simp] theorem g116 : aggT Try.prog 116 = some false := by kernel_rfl
@[simp] theorem s116 : sizeT Try.prog 116 = some 1 := by kernel_rfl
@[simp] theorem z116 : zeroCs Try.prog 116 = some [.sc (.int .u32 0)] := by kernel_rfl
@[simp] theorem u116 : Try.prog.underlying 116 = some (.int .u32) := by kernel_rfl
@[simp] theorem g117 : aggT Try.prog 117 = some false := by kernel_rfl
@[simp] theorem s117 : sizeT Try.prog 117 = some 1 := by kernel_rfl
@[simp] theorem z117 : zeroCs Try.prog 117 = some [.sc (.nilFunc)] := by kernel_rfl
@[simp] theorem g118 : aggT Try.prog 118 = some false := by kernel_rfl
@[simp] theorem s118 : sizeT Try.prog 118 = some 1 := by kernel_rfl
@[simp] theorem z118 : zeroCs Try.prog 118 = some [.sc (.int .u64 0)] := by kernel_rfl
@[simp] theorem u118 : Try.prog.underlying 118 = some (.int .u64) := by kernel_rfl
@[simp] theorem g119 : aggT Try.prog 119 = some false := by kernel_rfl
@[simp] theorem s119 : sizeT Try.prog 119 = some 1 := by kernel_rfl
@[simp] theorem z119 : zeroCs Try.prog 119 = some [.sc (.nilFunc)] := by kernel_rfl
@[simp] theorem g120 : aggT Try.prog 120 = some false := by kernel_rfl
@[simp] theorem s120 : sizeT Try.prog 120 = some 1 := by kernel_rfl
@[simp] theorem z120 : zeroCs Try.prog 120 = some [.sc (.int .i64 0)] := by kernel_rfl
@[simp] theorem u120 : Try.prog.underlying 120 = some (.int .i64) := by kernel_rfl
@[simp] theorem g122 : aggT Try.prog 122 = some false := by kernel_rfl
@[simp] theorem s122 : sizeT Try.prog 122 = some 1 := by kernel_rfl
@[simp] theorem z122 : zeroCs Try.prog 122 = some [.sc (.nilFunc)] := by kernel_rfl
@[simp] theorem g123 : aggT Try.prog 123 = some false := by kernel_rfl
@[simp] theorem s123 : sizeT Try.prog 123 = some 1 := by kernel_rfl
@[simp] theorem z123 : zeroCs Try.prog 123 = some [.sc (.nilFunc)] := by kernel_rfl
@[simp] theorem g124 : aggT Try.prog 124 = some false := by kernel_rfl
@[simp] theorem s124 : sizeT Try.prog 124 = some 1 := by kernel_rfl
@[simp] theorem z124 : zeroCs Try.prog 124 = some [.sc (.nilFunc)] := by kernel_rfl
@[simp] theorem g126 : aggT Try.prog 126 = some false := by kernel_rfl
@[simp] theorem s126 : sizeT Try.prog 126 = some 1 := by kernel_rfl
@[simp] theorem z126 : zeroCs Try.prog 126 = some [.sc (.nilFunc)] := by kernel_rfl
@[simp] theorem g127 : aggT Try.prog 127 = some false := by kernel_rfl
@[simp] theorem s127 : sizeT Try.prog 127 = some 1 := by kernel_rfl
@[simp] theorem z127 : zeroCs Try.prog 127 = some [.sc (.int .u64 0)] := by kernel_rfl
@[simp] theorem u127 : Try.prog.underlying 127 = some (.int .u64) := by kernel_rfl
@[simp] theorem g128 : aggT Try.prog 128 = some false := by kernel_rfl
@[simp] theorem s128 : sizeT Try.prog 128 = some 1 := by kernel_rfl
@[simp] theorem z128 : zeroCs Try.prog 128 = some [.sc (.nilFunc)] := by kernel_rfl
@[simp] theorem g129 : aggT Try.prog 129 = some false := by kernel_rfl
@[simp] theorem s129 : sizeT Try.prog 129 = some 1 := by kernel_rfl
@[simp] theorem z129 : zeroCs Try.prog 129 = some [.sc (.nilFunc)] := by kernel_rfl
@[simp] theorem g130 : aggT Try.prog 130 = some false := by kernel_rfl
@[simp] theorem s130 : sizeT Try.prog 130 = some 1 := by kernel_rfl
@[simp] theorem z130 : zeroCs Try.prog 130 = some [.sc (.nilFunc)] := by kernel_rfl
@[simp] theorem g131 : aggT Try.prog 131 = some false := by kernel_rfl
@[simp] theorem s131 : sizeT Try.prog 131 = some 1 := by kernel_rfl
@[simp] theorem z131 : zeroCs Try.prog 131 = some [.sc (.pointer none)] := by kernel_rfl
@[simp] theorem u131 : Try.prog.underlying 131 = some (.pointer 3) := by kernel_rfl
@[simp] theorem g132 : aggT Try.prog 132 = some false := by kernel_rfl
@[simp] theorem s132 : sizeT Try.prog 132 = some 1 := by kernel_rfl
@[simp] theorem z132 : zeroCs Try.prog 132 = some [.sc (.nilFunc)] := by kernel_rfl
@[simp] theorem g133 : aggT Try.prog 133 = some false := by kernel_rfl
@[simp] theorem s133 : sizeT Try.prog 133 = some 1 := by kernel_rfl
@[simp] theorem z133 : zeroCs Try.prog 133 = some [.sc (.pointer none)] := by kernel_rfl
@[simp] theorem u133 : Try.prog.underlying 133 = some (.pointer 127) := by kernel_rfl
@[simp] theorem g134 : aggT Try.prog 134 = some false := by kernel_rfl
@[simp] theorem s134 : sizeT Try.prog 134 = some 1 := by kernel_rfl
@[simp] theorem z134 : zeroCs Try.prog 134 = some [.sc (.nilFunc)] := by kernel_rfl
@[simp] theorem g135 : aggT Try.prog 135 = some false := by kernel_rfl
@[simp] theorem s135 : sizeT Try.prog 135 = some 1 := by kernel_rfl
@[simp] theorem z135 : zeroCs Try.prog 135 = some [.sc (.nilFunc)] := by kernel_rfl
@[simp] theorem g136 : aggT Try.prog 136 = some true := by kernel_rfl
@[simp] theorem s136 : sizeT Try.prog 136 = some 4 := by kernel_rfl
@[simp] theorem z136 : zeroCs Try.prog 136 = some [.sc (.pointer none), .sc (.pointer none), .sc (.pointer none), .sc (.string ⟨#[]⟩)] := by kernel_rfl
@[simp] theorem f136_0 : fieldT Try.prog 136 0 = some 0 := by kernel_rfl
@[simp] theorem f136_1 : fieldT Try.prog 136 1 = some 1 := by kernel_rfl
@[simp] theorem f136_2 : fieldT Try.prog 136 2 = some 2 := by kernel_rfl
@[simp] theorem f136_3 : fieldT Try.prog 136 3 = some 3 := by kernel_rfl
@[simp] theorem p136 : placeOf Try.prog 136 = some (fun i => ([(0, 1), (1, 1), (2, 1), (3, 1)] : List (Nat × Nat))[i]?) := by kernel_rfl
@[simp] theorem g137 : aggT Try.prog 137 = some true := by kernel_rfl
@[simp] theorem s137 : sizeT Try.prog 137 = some 4 := by kernel_rfl
@[simp] theorem z137 : zeroCs Try.prog 137 = some [.sc (.pointer none), .sc (.pointer none), .sc (.pointer none), .sc (.string ⟨#[]⟩)] := by kernel_rfl
@[simp] theorem f137_0 : fieldT Try.prog 137 0 = some 0 := by kernel_rfl
@[simp] theorem f137_1 : fieldT Try.prog 137 1 = some 1 := by kernel_rfl
@[simp] theorem f137_2 : fieldT Try.prog 137 2 = some 2 := by kernel_rfl
@[simp] theorem f137_3 : fieldT Try.prog 137 3 = some 3 := by kernel_rfl
@[simp] theorem p137 : placeOf Try.prog 137 = some (fun i => ([(0, 1), (1, 1), (2, 1), (3, 1)] : List (Nat × Nat))[i]?) := by kernel_rfl
@[simp] theorem g138 : aggT Try.prog 138 = some true := by kernel_rfl
@[simp] theorem s138 : sizeT Try.prog 138 = some 0 := by kernel_rfl
@[simp] theorem z138 : zeroCs Try.prog 138 = some [] := by kernel_rfl
@[simp] theorem p138 : placeOf Try.prog 138 = some (fun i => some (i * 1, 1)) := by kernel_rfl
@[simp] theorem u138 : Try.prog.underlying 138 = some (.array 0 16) := by kernel_rfl
@[simp] theorem g139 : aggT Try.prog 139 = some true := by kernel_rfl
@[simp] theorem s139 : sizeT Try.prog 139 = some 0 := by kernel_rfl
@[simp] theorem z139 : zeroCs Try.prog 139 = some [] := by kernel_rfl
@[simp] theorem p139 : placeOf Try.prog 139 = some (fun i => ([(0, 0)] : List (Nat × Nat))[i]?) := by kernel_rfl
@[simp] theorem g140 : aggT Try.prog 140 = some true := by kernel_rfl
@[simp] theorem s140 : sizeT Try.prog 140 = some 0 := by kernel_rfl
@[simp] theorem z140 : zeroCs Try.prog 140 = some [] := by kernel_rfl
@[simp] theorem p140 : placeOf Try.prog 140 = some (fun i => ([(0, 0)] : List (Nat × Nat))[i]?) := by kernel_rfl
@[simp] theorem g141 : aggT Try.prog 141 = some false := by kernel_rfl
@[simp] theorem s141 : sizeT Try.prog 141 = some 1 := by kernel_rfl
@[simp] theorem z141 : zeroCs Try.prog 141 = some [.sc (.int .u8 0)] := by kernel_rfl
@[simp] theorem u141 : Try.prog.underlying 141 = some (.int .u8) := by kernel_rfl
@[simp] theorem g142 : aggT Try.prog 142 = some false := by kernel_rfl
@[simp] theorem s142 : sizeT Try.prog 142 = some 1 := by kernel_rfl
@[simp] theorem z142 : zeroCs Try.prog 142 = some [.sc (.int .u8 0)] := by kernel_rfl
@[simp] theorem u142 : Try.prog.underlying 142 = some (.int .u8) := by kernel_rfl
@[simp] theorem g143 : aggT Try.prog 143 = some false := by kernel_rfl
@[simp] theorem s143 : sizeT Try.prog 143 = some 1 := by kernel_rfl
@[simp] theorem z143 : zeroCs Try.prog 143 = some [.sc (.nilFunc)] := by kernel_rfl
@[simp] theorem g144 : aggT Try.prog 144 = some false := by kernel_rfl
@[simp] theorem s144 : sizeT Try.prog 144 = some 1 := by kernel_rfl
@[simp] theorem z144 : zeroCs Try.prog 144 = some [.sc (.pointer none)] := by kernel_rfl
@[simp] theorem u144 : Try.prog.underlying 144 = some (.pointer 5) := by kernel_rfl
@[simp] theorem g145 : aggT Try.prog 145 = some false := by kernel_rfl
@[simp] theorem s145 : sizeT Try.prog 145 = some 1 := by kernel_rfl
@[simp] theorem z145 : zeroCs Try.prog 145 = some [.sc (.int .i32 0)] := by kernel_rfl
@[simp] theorem u145 : Try.prog.underlying 145 = some (.int .i32) := by kernel_rfl
@[simp] theorem g146 : aggT Try.prog 146 = some false := by kernel_rfl
@[simp] theorem s146 : sizeT Try.prog 146 = some 1 := by kernel_rfl
@[simp] theorem z146 : zeroCs Try.prog 146 = some [.sc (.int .i32 0)] := by kernel_rfl
@[simp] theorem u146 : Try.prog.underlying 146 = some (.int .i32) := by kernel_rfl
@[simp] theorem g147 : aggT Try.prog 147 = some true := by kernel_rfl
@[simp] theorem s147 : sizeT Try.prog 147 = some 11 := by kernel_rfl
@[simp] theorem z147 : zeroCs Try.prog 147 = some [.sc (.int .u64 0), .sc (.int .u64 0), .sc (.int .u32 0), .sc (.int .u8 0), .sc (.int .u8 0), .sc (.int .u8 0), .sc (.int .u8 0), .sc (.nilFunc), .sc (.pointer none), .sc (.int .i32 0), .sc (.int .i32 0)] := by kernel_rfl
@[simp] theorem f147_0 : fieldT Try.prog 147 0 = some 0 := by kernel_rfl
@[simp] theorem f147_1 : fieldT Try.prog 147 1 = some 1 := by kernel_rfl
@[simp] theorem f147_2 : fieldT Try.prog 147 2 = some 2 := by kernel_rfl
@[simp] theorem f147_3 : fieldT Try.prog 147 3 = some 3 := by kernel_rfl
@[simp] theorem f147_4 : fieldT Try.prog 147 4 = some 4 := by kernel_rfl
@[simp] theorem f147_5 : fieldT Try.prog 147 5 = some 5 := by kernel_rfl
@[simp] theorem f147_6 : fieldT Try.prog 147 6 = some 6 := by kernel_rfl
@[simp] theorem f147_7 : fieldT Try.prog 147 7 = some 7 := by kernel_rfl
@[simp] theorem f147_8 : fieldT Try.prog 147 8 = some 8 := by kernel_rfl
@[simp] theorem f147_9 : fieldT Try.prog 147 9 = some 9 := by kernel_rfl
@[simp] theorem f147_10 : fieldT Try.prog 147 10 = some 10 := by kernel_rfl
@[simp] theorem p147 : placeOf Try.prog 147 = some (fun i => ([(0, 1), (1, 1), (2, 1), (3, 1), (4, 1), (5, 1), (6, 1), (7, 1), (8, 1), (9, 1), (10, 1)] : List (Nat × Nat))[i]?) := by kernel_rfl
@[simp] theorem g148 : aggT Try.prog 148 = some true := by kernel_rfl
@[simp] theorem s148 : sizeT Try.prog 148 = some 11 := by kernel_rfl
@[simp] theorem z148 : zeroCs Try.prog 148 = some [.sc (.int .u64 0), .sc (.int .u64 0), .sc (.int .u32 0), .sc (.int .u8 0), .sc (.int .u8 0), .sc (.int .u8 0), .sc (.int .u8 0), .sc (.nilFunc), .sc (.pointer none), .sc (.int .i32 0), .sc (.int .i32 0)] := by kernel_rfl
@[simp] theorem f148_0 : fieldT Try.prog 148 0 = some 0 := by kernel_rfl
@[simp] theorem f148_1 : fieldT Try.prog 148 1 = some 1 := by kernel_rfl
@[simp] theorem f148_2 : fieldT Try.prog 148 2 = some 2 := by kernel_rfl
@[simp] theorem f148_3 : fieldT Try.prog 148 3 = some 3 := by kernel_rfl
@[simp] theorem f148_4 : fieldT Try.prog 148 4 = some 4 := by kernel_rfl
@[simp] theorem f148_5 : fieldT Try.prog 148 5 = some 5 := by kernel_rfl
@[simp] theorem f148_6 : fieldT Try.prog 148 6 = some 6 := by kernel_rfl
@[simp] theorem f148_7 : fieldT Try.prog 148 7 = some 7 := by kernel_rfl
@[simp] theorem f148_8 : fieldT Try.prog 148 8 = some 8 := by kernel_rfl
@[simp] theorem f148_9 : fieldT Try.prog 148 9 = some 9 := by kernel_rfl
@[simp] theorem f148_10 : fieldT Try.prog 148 10 = some 10 := by kernel_rfl
@[simp] theorem p148 : placeOf Try.prog 148 = some (fun i => ([(0, 1), (1, 1), (2, 1), (3, 1), (4, 1), (5, 1), (6, 1), (7, 1), (8, 1), (9, 1), (10, 1)] : List (Nat × Nat))[i]?) := by kernel_rfl
@[simp] theorem g149 : aggT Try.prog 149 = some true := by kernel_rfl
@[simp] theorem s149 : sizeT Try.prog 149 = some 2 := by kernel_rfl
@[simp] theorem z149 : zeroCs Try.prog 149 = some [.sc (.string ⟨#[]⟩), .sc (.int .u8 0)] := by kernel_rfl
@[simp] theorem f149_0 : fieldT Try.prog 149 0 = some 0 := by kernel_rfl
@[simp] theorem f149_1 : fieldT Try.prog 149 1 = some 1 := by kernel_rfl
@[simp] theorem p149 : placeOf Try.prog 149 = some (fun i => ([(0, 1), (1, 1)] : List (Nat × Nat))[i]?) := by kernel_rfl
@[simp] theorem g150 : aggT Try.prog 150 = some true := by kernel_rfl
@[simp] theorem s150 : sizeT Try.prog 150 = some 2 := by kernel_rfl
@[simp] theorem z150 : zeroCs Try.prog 150 = some [.sc (.string ⟨#[]⟩), .sc (.int .u8 0)] := by kernel_rfl
@[simp] theorem f150_0 : fieldT Try.prog 150 0 = some 0 := by kernel_rfl
@[simp] theorem f150_1 : fieldT Try.prog 150 1 = some 1 := by kernel_rfl
@[simp] theorem p150 : placeOf Try.prog 150 = some (fun i => ([(0, 1), (1, 1)] : List (Nat × Nat))[i]?) := by kernel_rfl
end Ty
theorem mixed : Try.prog.follows .mixedOrders = true := by kernel_rfl
end Go.Proofs.Ytdeemchhbgomjaa
