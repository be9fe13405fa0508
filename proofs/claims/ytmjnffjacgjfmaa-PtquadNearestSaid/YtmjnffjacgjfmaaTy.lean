/- The types of the program: sizes, fields, zero cells, elements. Printed by wip/gen/types.py; each fact is closed. -/
import Derived.Test.YtmjnffjacgjfmaaRows
import Derived.Test.YtmjnffjacgjfmaaAo
namespace Go.Proofs.Ytmjnffjacgjfmaa
open Go.RowKit AM
namespace Ty
@[simp] theorem g1 : aggT Try.prog 1 = some false := by kernel_rfl
@[simp] theorem s1 : sizeT Try.prog 1 = some 1 := by kernel_rfl
@[simp] theorem z1 : zeroCs Try.prog 1 = some [.sc (.nilFunc)] := by kernel_rfl
@[simp] theorem g2 : aggT Try.prog 2 = some false := by kernel_rfl
@[simp] theorem s2 : sizeT Try.prog 2 = some 1 := by kernel_rfl
@[simp] theorem z2 : zeroCs Try.prog 2 = some [.sc (.int .i64 0)] := by kernel_rfl
@[simp] theorem u2 : Try.prog.underlying 2 = some (.int .i64) := by kernel_rfl
@[simp] theorem g3 : aggT Try.prog 3 = some false := by kernel_rfl
@[simp] theorem s3 : sizeT Try.prog 3 = some 1 := by kernel_rfl
@[simp] theorem z3 : zeroCs Try.prog 3 = some [.sc (.int .i64 0)] := by kernel_rfl
@[simp] theorem u3 : Try.prog.underlying 3 = some (.int .i64) := by kernel_rfl
@[simp] theorem g4 : aggT Try.prog 4 = some false := by kernel_rfl
@[simp] theorem s4 : sizeT Try.prog 4 = some 1 := by kernel_rfl
@[simp] theorem z4 : zeroCs Try.prog 4 = some [.sc (.bool false)] := by kernel_rfl
@[simp] theorem u4 : Try.prog.underlying 4 = some .bool := by kernel_rfl
@[simp] theorem g5 : aggT Try.prog 5 = some false := by kernel_rfl
@[simp] theorem s5 : sizeT Try.prog 5 = some 1 := by kernel_rfl
@[simp] theorem z5 : zeroCs Try.prog 5 = some [.sc (.int .u8 0)] := by kernel_rfl
@[simp] theorem u5 : Try.prog.underlying 5 = some (.int .u8) := by kernel_rfl
@[simp] theorem g6 : aggT Try.prog 6 = some false := by kernel_rfl
@[simp] theorem s6 : sizeT Try.prog 6 = some 1 := by kernel_rfl
@[simp] theorem z6 : zeroCs Try.prog 6 = some [.sc (.int .u8 0)] := by kernel_rfl
@[simp] theorem u6 : Try.prog.underlying 6 = some (.int .u8) := by kernel_rfl
@[simp] theorem g7 : aggT Try.prog 7 = some true := by kernel_rfl
@[simp] theorem s7 : sizeT Try.prog 7 = some 4 := by kernel_rfl
@[simp] theorem z7 : zeroCs Try.prog 7 = some [.sc (.int .i64 0), .sc (.int .i64 0), .sc (.bool false), .sc (.int .u8 0)] := by kernel_rfl
@[simp] theorem f7_0 : fieldT Try.prog 7 0 = some 0 := by kernel_rfl
@[simp] theorem f7_1 : fieldT Try.prog 7 1 = some 1 := by kernel_rfl
@[simp] theorem f7_2 : fieldT Try.prog 7 2 = some 2 := by kernel_rfl
@[simp] theorem f7_3 : fieldT Try.prog 7 3 = some 3 := by kernel_rfl
@[simp] theorem p7 : placeOf Try.prog 7 = some (fun i => ([(0, 1), (1, 1), (2, 1), (3, 1)] : List (Nat × Nat))[i]?) := by kernel_rfl
@[simp] theorem g8 : aggT Try.prog 8 = some true := by kernel_rfl
@[simp] theorem s8 : sizeT Try.prog 8 = some 4 := by kernel_rfl
@[simp] theorem z8 : zeroCs Try.prog 8 = some [.sc (.int .i64 0), .sc (.int .i64 0), .sc (.bool false), .sc (.int .u8 0)] := by kernel_rfl
@[simp] theorem f8_0 : fieldT Try.prog 8 0 = some 0 := by kernel_rfl
@[simp] theorem f8_1 : fieldT Try.prog 8 1 = some 1 := by kernel_rfl
@[simp] theorem f8_2 : fieldT Try.prog 8 2 = some 2 := by kernel_rfl
@[simp] theorem f8_3 : fieldT Try.prog 8 3 = some 3 := by kernel_rfl
@[simp] theorem p8 : placeOf Try.prog 8 = some (fun i => ([(0, 1), (1, 1), (2, 1), (3, 1)] : List (Nat × Nat))[i]?) := by kernel_rfl
@[simp] theorem g9 : aggT Try.prog 9 = some false := by kernel_rfl
@[simp] theorem s9 : sizeT Try.prog 9 = some 1 := by kernel_rfl
@[simp] theorem z9 : zeroCs Try.prog 9 = some [.sc (.string ⟨#[]⟩)] := by kernel_rfl
@[simp] theorem u9 : Try.prog.underlying 9 = some .string := by kernel_rfl
@[simp] theorem g10 : aggT Try.prog 10 = some false := by kernel_rfl
@[simp] theorem s10 : sizeT Try.prog 10 = some 1 := by kernel_rfl
@[simp] theorem z10 : zeroCs Try.prog 10 = some [.sc (.string ⟨#[]⟩)] := by kernel_rfl
@[simp] theorem u10 : Try.prog.underlying 10 = some .string := by kernel_rfl
@[simp] theorem g11 : aggT Try.prog 11 = some false := by kernel_rfl
@[simp] theorem s11 : sizeT Try.prog 11 = some 1 := by kernel_rfl
@[simp] theorem z11 : zeroCs Try.prog 11 = some [.sc (.string ⟨#[]⟩)] := by kernel_rfl
@[simp] theorem u11 : Try.prog.underlying 11 = some .string := by kernel_rfl
@[simp] theorem g12 : aggT Try.prog 12 = some false := by kernel_rfl
@[simp] theorem s12 : sizeT Try.prog 12 = some 1 := by kernel_rfl
@[simp] theorem z12 : zeroCs Try.prog 12 = some [.sc (.int .u64 0)] := by kernel_rfl
@[simp] theorem u12 : Try.prog.underlying 12 = some (.int .u64) := by kernel_rfl
@[simp] theorem g13 : aggT Try.prog 13 = some true := by kernel_rfl
@[simp] theorem s13 : sizeT Try.prog 13 = some 2 := by kernel_rfl
@[simp] theorem z13 : zeroCs Try.prog 13 = some [.sc (.string ⟨#[]⟩), .sc (.int .u64 0)] := by kernel_rfl
@[simp] theorem f13_0 : fieldT Try.prog 13 0 = some 0 := by kernel_rfl
@[simp] theorem f13_1 : fieldT Try.prog 13 1 = some 1 := by kernel_rfl
@[simp] theorem p13 : placeOf Try.prog 13 = some (fun i => ([(0, 1), (1, 1)] : List (Nat × Nat))[i]?) := by kernel_rfl
@[simp] theorem g14 : aggT Try.prog 14 = some true := by kernel_rfl
@[simp] theorem s14 : sizeT Try.prog 14 = some 2 := by kernel_rfl
@[simp] theorem z14 : zeroCs Try.prog 14 = some [.sc (.string ⟨#[]⟩), .sc (.int .u64 0)] := by kernel_rfl
@[simp] theorem f14_0 : fieldT Try.prog 14 0 = some 0 := by kernel_rfl
@[simp] theorem f14_1 : fieldT Try.prog 14 1 = some 1 := by kernel_rfl
@[simp] theorem p14 : placeOf Try.prog 14 = some (fun i => ([(0, 1), (1, 1)] : List (Nat × Nat))[i]?) := by kernel_rfl
@[simp] theorem g15 : aggT Try.prog 15 = some false := by kernel_rfl
@[simp] theorem s15 : sizeT Try.prog 15 = some 1 := by kernel_rfl
@[simp] theorem z15 : zeroCs Try.prog 15 = some [.sc (.pointer none)] := by kernel_rfl
@[simp] theorem u15 : Try.prog.underlying 15 = some (.pointer 178) := by kernel_rfl
@[simp] theorem g16 : aggT Try.prog 16 = some false := by kernel_rfl
@[simp] theorem s16 : sizeT Try.prog 16 = some 1 := by kernel_rfl
@[simp] theorem z16 : zeroCs Try.prog 16 = some [.sc (.pointer none)] := by kernel_rfl
@[simp] theorem u16 : Try.prog.underlying 16 = some (.pointer 181) := by kernel_rfl
@[simp] theorem g17 : aggT Try.prog 17 = some false := by kernel_rfl
@[simp] theorem s17 : sizeT Try.prog 17 = some 1 := by kernel_rfl
@[simp] theorem z17 : zeroCs Try.prog 17 = some [.sc (.pointer none)] := by kernel_rfl
@[simp] theorem u17 : Try.prog.underlying 17 = some (.pointer 189) := by kernel_rfl
@[simp] theorem g18 : aggT Try.prog 18 = some true := by kernel_rfl
@[simp] theorem s18 : sizeT Try.prog 18 = some 1 := by kernel_rfl
@[simp] theorem z18 : zeroCs Try.prog 18 = some [.sc (.pointer none)] := by kernel_rfl
@[simp] theorem f18_0 : fieldT Try.prog 18 0 = some 0 := by kernel_rfl
@[simp] theorem p18 : placeOf Try.prog 18 = some (fun i => ([(0, 1)] : List (Nat × Nat))[i]?) := by kernel_rfl
@[simp] theorem g19 : aggT Try.prog 19 = some true := by kernel_rfl
@[simp] theorem s19 : sizeT Try.prog 19 = some 1 := by kernel_rfl
@[simp] theorem z19 : zeroCs Try.prog 19 = some [.sc (.pointer none)] := by kernel_rfl
@[simp] theorem f19_0 : fieldT Try.prog 19 0 = some 0 := by kernel_rfl
@[simp] theorem p19 : placeOf Try.prog 19 = some (fun i => ([(0, 1)] : List (Nat × Nat))[i]?) := by kernel_rfl
@[simp] theorem g21 : aggT Try.prog 21 = some false := by kernel_rfl
@[simp] theorem s21 : sizeT Try.prog 21 = some 1 := by kernel_rfl
@[simp] theorem z21 : zeroCs Try.prog 21 = some [.sc (.int .i32 0)] := by kernel_rfl
@[simp] theorem u21 : Try.prog.underlying 21 = some (.int .i32) := by kernel_rfl
@[simp] theorem g22 : aggT Try.prog 22 = some false := by kernel_rfl
@[simp] theorem s22 : sizeT Try.prog 22 = some 1 := by kernel_rfl
@[simp] theorem z22 : zeroCs Try.prog 22 = some [.nil] := by kernel_rfl
@[simp] theorem e22 : elT Try.prog 22 = some (32, 4, 32) := by kernel_rfl
@[simp] theorem u22 : Try.prog.underlying 22 = some (.slice 32) := by kernel_rfl
@[simp] theorem g23 : aggT Try.prog 23 = some true := by kernel_rfl
@[simp] theorem s23 : sizeT Try.prog 23 = some 2 := by kernel_rfl
@[simp] theorem z23 : zeroCs Try.prog 23 = some [.sc (.int .i64 0), .sc (.int .i64 0)] := by kernel_rfl
@[simp] theorem f23_0 : fieldT Try.prog 23 0 = some 0 := by kernel_rfl
@[simp] theorem f23_1 : fieldT Try.prog 23 1 = some 1 := by kernel_rfl
@[simp] theorem p23 : placeOf Try.prog 23 = some (fun i => ([(0, 1), (1, 1)] : List (Nat × Nat))[i]?) := by kernel_rfl
@[simp] theorem g24 : aggT Try.prog 24 = some true := by kernel_rfl
@[simp] theorem s24 : sizeT Try.prog 24 = some 2 := by kernel_rfl
@[simp] theorem z24 : zeroCs Try.prog 24 = some [.sc (.int .i64 0), .sc (.int .i64 0)] := by kernel_rfl
@[simp] theorem f24_0 : fieldT Try.prog 24 0 = some 0 := by kernel_rfl
@[simp] theorem f24_1 : fieldT Try.prog 24 1 = some 1 := by kernel_rfl
@[simp] theorem p24 : placeOf Try.prog 24 = some (fun i => ([(0, 1), (1, 1)] : List (Nat × Nat))[i]?) := by kernel_rfl
@[simp] theorem g25 : aggT Try.prog 25 = some true := by kernel_rfl
@[simp] theorem s25 : sizeT Try.prog 25 = some 4 := by kernel_rfl
@[simp] theorem z25 : zeroCs Try.prog 25 = some [.sc (.int .i64 0), .sc (.int .i64 0), .sc (.int .i64 0), .sc (.int .i64 0)] := by kernel_rfl
@[simp] theorem f25_0 : fieldT Try.prog 25 0 = some 0 := by kernel_rfl
@[simp] theorem f25_1 : fieldT Try.prog 25 1 = some 2 := by kernel_rfl
@[simp] theorem f25_2 : fieldT Try.prog 25 2 = some 3 := by kernel_rfl
@[simp] theorem p25 : placeOf Try.prog 25 = some (fun i => ([(0, 2), (2, 1), (3, 1)] : List (Nat × Nat))[i]?) := by kernel_rfl
@[simp] theorem g26 : aggT Try.prog 26 = some true := by kernel_rfl
@[simp] theorem s26 : sizeT Try.prog 26 = some 4 := by kernel_rfl
@[simp] theorem z26 : zeroCs Try.prog 26 = some [.sc (.int .i64 0), .sc (.int .i64 0), .sc (.int .i64 0), .sc (.int .i64 0)] := by kernel_rfl
@[simp] theorem f26_0 : fieldT Try.prog 26 0 = some 0 := by kernel_rfl
@[simp] theorem f26_1 : fieldT Try.prog 26 1 = some 2 := by kernel_rfl
@[simp] theorem f26_2 : fieldT Try.prog 26 2 = some 3 := by kernel_rfl
@[simp] theorem p26 : placeOf Try.prog 26 = some (fun i => ([(0, 2), (2, 1), (3, 1)] : List (Nat × Nat))[i]?) := by kernel_rfl
@[simp] theorem g27 : aggT Try.prog 27 = some false := by kernel_rfl
@[simp] theorem s27 : sizeT Try.prog 27 = some 1 := by kernel_rfl
@[simp] theorem z27 : zeroCs Try.prog 27 = some [.sc (.pointer none)] := by kernel_rfl
@[simp] theorem u27 : Try.prog.underlying 27 = some (.pointer 87) := by kernel_rfl
@[simp] theorem g29 : aggT Try.prog 29 = some false := by kernel_rfl
@[simp] theorem s29 : sizeT Try.prog 29 = some 1 := by kernel_rfl
@[simp] theorem z29 : zeroCs Try.prog 29 = some [.sc (.nilFunc)] := by kernel_rfl
@[simp] theorem g30 : aggT Try.prog 30 = some false := by kernel_rfl
@[simp] theorem s30 : sizeT Try.prog 30 = some 1 := by kernel_rfl
@[simp] theorem z30 : zeroCs Try.prog 30 = some [.sc (.nilFunc)] := by kernel_rfl
@[simp] theorem g31 : aggT Try.prog 31 = some true := by kernel_rfl
@[simp] theorem s31 : sizeT Try.prog 31 = some 4 := by kernel_rfl
@[simp] theorem z31 : zeroCs Try.prog 31 = some [.sc (.int .i64 0), .sc (.int .i64 0), .sc (.int .i64 0), .sc (.int .i64 0)] := by kernel_rfl
@[simp] theorem f31_0 : fieldT Try.prog 31 0 = some 0 := by kernel_rfl
@[simp] theorem f31_1 : fieldT Try.prog 31 1 = some 1 := by kernel_rfl
@[simp] theorem f31_2 : fieldT Try.prog 31 2 = some 3 := by kernel_rfl
@[simp] theorem p31 : placeOf Try.prog 31 = some (fun i => ([(0, 1), (1, 2), (3, 1)] : List (Nat × Nat))[i]?) := by kernel_rfl
@[simp] theorem g32 : aggT Try.prog 32 = some true := by kernel_rfl
@[simp] theorem s32 : sizeT Try.prog 32 = some 4 := by kernel_rfl
@[simp] theorem z32 : zeroCs Try.prog 32 = some [.sc (.int .i64 0), .sc (.int .i64 0), .sc (.int .i64 0), .sc (.int .i64 0)] := by kernel_rfl
@[simp] theorem f32_0 : fieldT Try.prog 32 0 = some 0 := by kernel_rfl
@[simp] theorem f32_1 : fieldT Try.prog 32 1 = some 1 := by kernel_rfl
@[simp] theorem f32_2 : fieldT Try.prog 32 2 = some 3 := by kernel_rfl
@[simp] theorem p32 : placeOf Try.prog 32 = some (fun i => ([(0, 1), (1, 2), (3, 1)] : List (Nat × Nat))[i]?) := by kernel_rfl
@[simp] theorem g33 : aggT Try.prog 33 = some false := by kernel_rfl
@[simp] theorem s33 : sizeT Try.prog 33 = some 1 := by kernel_rfl
@[simp] theorem z33 : zeroCs Try.prog 33 = some [.sc (.nilFunc)] := by kernel_rfl
@[simp] theorem g34 : aggT Try.prog 34 = some false := by kernel_rfl
@[simp] theorem s34 : sizeT Try.prog 34 = some 1 := by kernel_rfl
@[simp] theorem z34 : zeroCs Try.prog 34 = some [.sc (.nilFunc)] := by kernel_rfl
@[simp] theorem g35 : aggT Try.prog 35 = some false := by kernel_rfl
@[simp] theorem s35 : sizeT Try.prog 35 = some 1 := by kernel_rfl
@[simp] theorem z35 : zeroCs Try.prog 35 = some [.sc (.nilFunc)] := by kernel_rfl
@[simp] theorem g36 : aggT Try.prog 36 = some false := by kernel_rfl
@[simp] theorem s36 : sizeT Try.prog 36 = some 1 := by kernel_rfl
@[simp] theorem z36 : zeroCs Try.prog 36 = some [.sc (.nilFunc)] := by kernel_rfl
@[simp] theorem g37 : aggT Try.prog 37 = some false := by kernel_rfl
@[simp] theorem s37 : sizeT Try.prog 37 = some 1 := by kernel_rfl
@[simp] theorem z37 : zeroCs Try.prog 37 = some [.sc (.nilFunc)] := by kernel_rfl
@[simp] theorem g38 : aggT Try.prog 38 = some false := by kernel_rfl
@[simp] theorem s38 : sizeT Try.prog 38 = some 1 := by kernel_rfl
@[simp] theorem z38 : zeroCs Try.prog 38 = some [.sc (.int .i64 0)] := by kernel_rfl
@[simp] theorem u38 : Try.prog.underlying 38 = some (.int .i64) := by kernel_rfl
@[simp] theorem g40 : aggT Try.prog 40 = some false := by kernel_rfl
@[simp] theorem s40 : sizeT Try.prog 40 = some 1 := by kernel_rfl
@[simp] theorem z40 : zeroCs Try.prog 40 = some [.sc (.nilFunc)] := by kernel_rfl
@[simp] theorem g41 : aggT Try.prog 41 = some false := by kernel_rfl
@[simp] theorem s41 : sizeT Try.prog 41 = some 1 := by kernel_rfl
@[simp] theorem z41 : zeroCs Try.prog 41 = some [.nil] := by kernel_rfl
@[simp] theorem e41 : elT Try.prog 41 = some (3, 1, 8) := by kernel_rfl
@[simp] theorem u41 : Try.prog.underlying 41 = some (.slice 3) := by kernel_rfl
@[simp] theorem g43 : aggT Try.prog 43 = some false := by kernel_rfl
@[simp] theorem s43 : sizeT Try.prog 43 = some 1 := by kernel_rfl
@[simp] theorem z43 : zeroCs Try.prog 43 = some [.sc (.nilFunc)] := by kernel_rfl
@[simp] theorem g44 : aggT Try.prog 44 = some false := by kernel_rfl
@[simp] theorem s44 : sizeT Try.prog 44 = some 1 := by kernel_rfl
@[simp] theorem z44 : zeroCs Try.prog 44 = some [.sc (.nilFunc)] := by kernel_rfl
@[simp] theorem g45 : aggT Try.prog 45 = some false := by kernel_rfl
@[simp] theorem s45 : sizeT Try.prog 45 = some 1 := by kernel_rfl
@[simp] theorem z45 : zeroCs Try.prog 45 = some [.sc (.nilFunc)] := by kernel_rfl
@[simp] theorem g46 : aggT Try.prog 46 = some false := by kernel_rfl
@[simp] theorem s46 : sizeT Try.prog 46 = some 1 := by kernel_rfl
@[simp] theorem z46 : zeroCs Try.prog 46 = some [.sc (.nilFunc)] := by kernel_rfl
@[simp] theorem g47 : aggT Try.prog 47 = some false := by kernel_rfl
@[simp] theorem s47 : sizeT Try.prog 47 = some 1 := by kernel_rfl
@[simp] theorem z47 : zeroCs Try.prog 47 = some [.sc (.nilFunc)] := by kernel_rfl
@[simp] theorem g48 : aggT Try.prog 48 = some false := by kernel_rfl
@[simp] theorem s48 : sizeT Try.prog 48 = some 1 := by kernel_rfl
@[simp] theorem z48 : zeroCs Try.prog 48 = some [.sc (.nilFunc)] := by kernel_rfl
@[simp] theorem g49 : aggT Try.prog 49 = some true := by kernel_rfl
@[simp] theorem s49 : sizeT Try.prog 49 = some 4 := by kernel_rfl
@[simp] theorem z49 : zeroCs Try.prog 49 = some [.sc (.int .i64 0), .sc (.int .i64 0), .sc (.int .i64 0), .sc (.int .i64 0)] := by kernel_rfl
@[simp] theorem f49_0 : fieldT Try.prog 49 0 = some 0 := by kernel_rfl
@[simp] theorem f49_1 : fieldT Try.prog 49 1 = some 1 := by kernel_rfl
@[simp] theorem f49_2 : fieldT Try.prog 49 2 = some 2 := by kernel_rfl
@[simp] theorem f49_3 : fieldT Try.prog 49 3 = some 3 := by kernel_rfl
@[simp] theorem p49 : placeOf Try.prog 49 = some (fun i => ([(0, 1), (1, 1), (2, 1), (3, 1)] : List (Nat × Nat))[i]?) := by kernel_rfl
@[simp] theorem g50 : aggT Try.prog 50 = some true := by kernel_rfl
@[simp] theorem s50 : sizeT Try.prog 50 = some 4 := by kernel_rfl
@[simp] theorem z50 : zeroCs Try.prog 50 = some [.sc (.int .i64 0), .sc (.int .i64 0), .sc (.int .i64 0), .sc (.int .i64 0)] := by kernel_rfl
@[simp] theorem f50_0 : fieldT Try.prog 50 0 = some 0 := by kernel_rfl
@[simp] theorem f50_1 : fieldT Try.prog 50 1 = some 1 := by kernel_rfl
@[simp] theorem f50_2 : fieldT Try.prog 50 2 = some 2 := by kernel_rfl
@[simp] theorem f50_3 : fieldT Try.prog 50 3 = some 3 := by kernel_rfl
@[simp] theorem p50 : placeOf Try.prog 50 = some (fun i => ([(0, 1), (1, 1), (2, 1), (3, 1)] : List (Nat × Nat))[i]?) := by kernel_rfl
@[simp] theorem g51 : aggT Try.prog 51 = some false := by kernel_rfl
@[simp] theorem s51 : sizeT Try.prog 51 = some 1 := by kernel_rfl
@[simp] theorem z51 : zeroCs Try.prog 51 = some [.sc (.nilFunc)] := by kernel_rfl
@[simp] theorem g52 : aggT Try.prog 52 = some false := by kernel_rfl
@[simp] theorem s52 : sizeT Try.prog 52 = some 1 := by kernel_rfl
@[simp] theorem z52 : zeroCs Try.prog 52 = some [.sc (.nilFunc)] := by kernel_rfl
@[simp] theorem g53 : aggT Try.prog 53 = some false := by kernel_rfl
@[simp] theorem s53 : sizeT Try.prog 53 = some 1 := by kernel_rfl
@[simp] theorem z53 : zeroCs Try.prog 53 = some [.sc (.nilFunc)] := by kernel_rfl
@[simp] theorem g54 : aggT Try.prog 54 = some false := by kernel_rfl
@[simp] theorem s54 : sizeT Try.prog 54 = some 1 := by kernel_rfl
@[simp] theorem z54 : zeroCs Try.prog 54 = some [.sc (.nilFunc)] := by kernel_rfl
@[simp] theorem g55 : aggT Try.prog 55 = some false := by kernel_rfl
@[simp] theorem s55 : sizeT Try.prog 55 = some 1 := by kernel_rfl
@[simp] theorem z55 : zeroCs Try.prog 55 = some [.sc (.nilFunc)] := by kernel_rfl
@[simp] theorem g56 : aggT Try.prog 56 = some false := by kernel_rfl
@[simp] theorem s56 : sizeT Try.prog 56 = some 1 := by kernel_rfl
@[simp] theorem z56 : zeroCs Try.prog 56 = some [.sc (.nilFunc)] := by kernel_rfl
@[simp] theorem g57 : aggT Try.prog 57 = some false := by kernel_rfl
@[simp] theorem s57 : sizeT Try.prog 57 = some 1 := by kernel_rfl
@[simp] theorem z57 : zeroCs Try.prog 57 = some [.sc (.nilFunc)] := by kernel_rfl
@[simp] theorem g58 : aggT Try.prog 58 = some false := by kernel_rfl
@[simp] theorem s58 : sizeT Try.prog 58 = some 1 := by kernel_rfl
@[simp] theorem z58 : zeroCs Try.prog 58 = some [.sc (.nilFunc)] := by kernel_rfl
@[simp] theorem g59 : aggT Try.prog 59 = some false := by kernel_rfl
@[simp] theorem s59 : sizeT Try.prog 59 = some 1 := by kernel_rfl
@[simp] theorem z59 : zeroCs Try.prog 59 = some [.sc (.nilFunc)] := by kernel_rfl
@[simp] theorem g60 : aggT Try.prog 60 = some false := by kernel_rfl
@[simp] theorem s60 : sizeT Try.prog 60 = some 1 := by kernel_rfl
@[simp] theorem z60 : zeroCs Try.prog 60 = some [.sc (.nilFunc)] := by kernel_rfl
@[simp] theorem g61 : aggT Try.prog 61 = some false := by kernel_rfl
@[simp] theorem s61 : sizeT Try.prog 61 = some 1 := by kernel_rfl
@[simp] theorem z61 : zeroCs Try.prog 61 = some [.nil] := by kernel_rfl
@[simp] theorem e61 : elT Try.prog 61 = some (65, 5, 40) := by kernel_rfl
@[simp] theorem u61 : Try.prog.underlying 61 = some (.slice 65) := by kernel_rfl
@[simp] theorem g63 : aggT Try.prog 63 = some false := by kernel_rfl
@[simp] theorem s63 : sizeT Try.prog 63 = some 1 := by kernel_rfl
@[simp] theorem z63 : zeroCs Try.prog 63 = some [.sc (.nilFunc)] := by kernel_rfl
@[simp] theorem g64 : aggT Try.prog 64 = some true := by kernel_rfl
@[simp] theorem s64 : sizeT Try.prog 64 = some 5 := by kernel_rfl
@[simp] theorem z64 : zeroCs Try.prog 64 = some [.sc (.int .i64 0), .sc (.int .i64 0), .sc (.int .i64 0), .sc (.int .i64 0), .sc (.int .i64 0)] := by kernel_rfl
@[simp] theorem f64_0 : fieldT Try.prog 64 0 = some 0 := by kernel_rfl
@[simp] theorem f64_1 : fieldT Try.prog 64 1 = some 1 := by kernel_rfl
@[simp] theorem p64 : placeOf Try.prog 64 = some (fun i => ([(0, 1), (1, 4)] : List (Nat × Nat))[i]?) := by kernel_rfl
@[simp] theorem g65 : aggT Try.prog 65 = some true := by kernel_rfl
@[simp] theorem s65 : sizeT Try.prog 65 = some 5 := by kernel_rfl
@[simp] theorem z65 : zeroCs Try.prog 65 = some [.sc (.int .i64 0), .sc (.int .i64 0), .sc (.int .i64 0), .sc (.int .i64 0), .sc (.int .i64 0)] := by kernel_rfl
@[simp] theorem f65_0 : fieldT Try.prog 65 0 = some 0 := by kernel_rfl
@[simp] theorem f65_1 : fieldT Try.prog 65 1 = some 1 := by kernel_rfl
@[simp] theorem p65 : placeOf Try.prog 65 = some (fun i => ([(0, 1), (1, 4)] : List (Nat × Nat))[i]?) := by kernel_rfl
@[simp] theorem g67 : aggT Try.prog 67 = some false := by kernel_rfl
@[simp] theorem s67 : sizeT Try.prog 67 = some 1 := by kernel_rfl
@[simp] theorem z67 : zeroCs Try.prog 67 = some [.sc (.nilFunc)] := by kernel_rfl
@[simp] theorem g68 : aggT Try.prog 68 = some true := by kernel_rfl
@[simp] theorem s68 : sizeT Try.prog 68 = some 3 := by kernel_rfl
@[simp] theorem z68 : zeroCs Try.prog 68 = some [.sc (.int .i64 0), .sc (.int .i64 0), .sc (.int .i64 0)] := by kernel_rfl
@[simp] theorem f68_0 : fieldT Try.prog 68 0 = some 0 := by kernel_rfl
@[simp] theorem f68_1 : fieldT Try.prog 68 1 = some 1 := by kernel_rfl
@[simp] theorem f68_2 : fieldT Try.prog 68 2 = some 2 := by kernel_rfl
@[simp] theorem p68 : placeOf Try.prog 68 = some (fun i => ([(0, 1), (1, 1), (2, 1)] : List (Nat × Nat))[i]?) := by kernel_rfl
@[simp] theorem g69 : aggT Try.prog 69 = some true := by kernel_rfl
@[simp] theorem s69 : sizeT Try.prog 69 = some 3 := by kernel_rfl
@[simp] theorem z69 : zeroCs Try.prog 69 = some [.sc (.int .i64 0), .sc (.int .i64 0), .sc (.int .i64 0)] := by kernel_rfl
@[simp] theorem f69_0 : fieldT Try.prog 69 0 = some 0 := by kernel_rfl
@[simp] theorem f69_1 : fieldT Try.prog 69 1 = some 1 := by kernel_rfl
@[simp] theorem f69_2 : fieldT Try.prog 69 2 = some 2 := by kernel_rfl
@[simp] theorem p69 : placeOf Try.prog 69 = some (fun i => ([(0, 1), (1, 1), (2, 1)] : List (Nat × Nat))[i]?) := by kernel_rfl
@[simp] theorem g70 : aggT Try.prog 70 = some false := by kernel_rfl
@[simp] theorem s70 : sizeT Try.prog 70 = some 1 := by kernel_rfl
@[simp] theorem z70 : zeroCs Try.prog 70 = some [.sc (.nilFunc)] := by kernel_rfl
@[simp] theorem g71 : aggT Try.prog 71 = some false := by kernel_rfl
@[simp] theorem s71 : sizeT Try.prog 71 = some 1 := by kernel_rfl
@[simp] theorem z71 : zeroCs Try.prog 71 = some [.sc (.nilFunc)] := by kernel_rfl
@[simp] theorem g72 : aggT Try.prog 72 = some false := by kernel_rfl
@[simp] theorem s72 : sizeT Try.prog 72 = some 1 := by kernel_rfl
@[simp] theorem z72 : zeroCs Try.prog 72 = some [.sc (.nilFunc)] := by kernel_rfl
@[simp] theorem g73 : aggT Try.prog 73 = some false := by kernel_rfl
@[simp] theorem s73 : sizeT Try.prog 73 = some 1 := by kernel_rfl
@[simp] theorem z73 : zeroCs Try.prog 73 = some [.sc (.pointer none)] := by kernel_rfl
@[simp] theorem u73 : Try.prog.underlying 73 = some (.pointer 77) := by kernel_rfl
@[simp] theorem g74 : aggT Try.prog 74 = some false := by kernel_rfl
@[simp] theorem s74 : sizeT Try.prog 74 = some 1 := by kernel_rfl
@[simp] theorem z74 : zeroCs Try.prog 74 = some [.sc (.pointer none)] := by kernel_rfl
@[simp] theorem u74 : Try.prog.underlying 74 = some (.pointer 106) := by kernel_rfl
@[simp] theorem g75 : aggT Try.prog 75 = some false := by kernel_rfl
@[simp] theorem s75 : sizeT Try.prog 75 = some 1 := by kernel_rfl
@[simp] theorem z75 : zeroCs Try.prog 75 = some [.sc (.nilFunc)] := by kernel_rfl
@[simp] theorem g76 : aggT Try.prog 76 = some true := by kernel_rfl
@[simp] theorem s76 : sizeT Try.prog 76 = some 6 := by kernel_rfl
@[simp] theorem z76 : zeroCs Try.prog 76 = some [.sc (.pointer none), .sc (.int .i64 0), .sc (.int .i64 0), .sc (.int .i64 0), .sc (.nilFunc), .sc (.pointer none)] := by kernel_rfl
@[simp] theorem f76_0 : fieldT Try.prog 76 0 = some 0 := by kernel_rfl
@[simp] theorem f76_1 : fieldT Try.prog 76 1 = some 1 := by kernel_rfl
@[simp] theorem f76_2 : fieldT Try.prog 76 2 = some 3 := by kernel_rfl
@[simp] theorem f76_3 : fieldT Try.prog 76 3 = some 4 := by kernel_rfl
@[simp] theorem f76_4 : fieldT Try.prog 76 4 = some 5 := by kernel_rfl
@[simp] theorem p76 : placeOf Try.prog 76 = some (fun i => ([(0, 1), (1, 2), (3, 1), (4, 1), (5, 1)] : List (Nat × Nat))[i]?) := by kernel_rfl
@[simp] theorem g77 : aggT Try.prog 77 = some true := by kernel_rfl
@[simp] theorem s77 : sizeT Try.prog 77 = some 6 := by kernel_rfl
@[simp] theorem z77 : zeroCs Try.prog 77 = some [.sc (.pointer none), .sc (.int .i64 0), .sc (.int .i64 0), .sc (.int .i64 0), .sc (.nilFunc), .sc (.pointer none)] := by kernel_rfl
@[simp] theorem f77_0 : fieldT Try.prog 77 0 = some 0 := by kernel_rfl
@[simp] theorem f77_1 : fieldT Try.prog 77 1 = some 1 := by kernel_rfl
@[simp] theorem f77_2 : fieldT Try.prog 77 2 = some 3 := by kernel_rfl
@[simp] theorem f77_3 : fieldT Try.prog 77 3 = some 4 := by kernel_rfl
@[simp] theorem f77_4 : fieldT Try.prog 77 4 = some 5 := by kernel_rfl
@[simp] theorem p77 : placeOf Try.prog 77 = some (fun i => ([(0, 1), (1, 2), (3, 1), (4, 1), (5, 1)] : List (Nat × Nat))[i]?) := by kernel_rfl
@[simp] theorem g78 : aggT Try.prog 78 = some false := by kernel_rfl
@[simp] theorem s78 : sizeT Try.prog 78 = some 1 := by kernel_rfl
@[simp] theorem z78 : zeroCs Try.prog 78 = some [.sc (.nilFunc)] := by kernel_rfl
@[simp] theorem g79 : aggT Try.prog 79 = some false := by kernel_rfl
@[simp] theorem s79 : sizeT Try.prog 79 = some 1 := by kernel_rfl
@[simp] theorem z79 : zeroCs Try.prog 79 = some [.sc (.int .u64 0)] := by kernel_rfl
@[simp] theorem u79 : Try.prog.underlying 79 = some (.int .u64) := by kernel_rfl
@[simp] theorem g80 : aggT Try.prog 80 = some true := by kernel_rfl
@[simp] theorem s80 : sizeT Try.prog 80 = some 3 := by kernel_rfl
@[simp] theorem z80 : zeroCs Try.prog 80 = some [.sc (.int .u64 0), .sc (.int .u64 0), .sc (.int .i64 0)] := by kernel_rfl
@[simp] theorem f80_0 : fieldT Try.prog 80 0 = some 0 := by kernel_rfl
@[simp] theorem f80_1 : fieldT Try.prog 80 1 = some 1 := by kernel_rfl
@[simp] theorem f80_2 : fieldT Try.prog 80 2 = some 2 := by kernel_rfl
@[simp] theorem p80 : placeOf Try.prog 80 = some (fun i => ([(0, 1), (1, 1), (2, 1)] : List (Nat × Nat))[i]?) := by kernel_rfl
@[simp] theorem g81 : aggT Try.prog 81 = some true := by kernel_rfl
@[simp] theorem s81 : sizeT Try.prog 81 = some 3 := by kernel_rfl
@[simp] theorem z81 : zeroCs Try.prog 81 = some [.sc (.int .u64 0), .sc (.int .u64 0), .sc (.int .i64 0)] := by kernel_rfl
@[simp] theorem f81_0 : fieldT Try.prog 81 0 = some 0 := by kernel_rfl
@[simp] theorem f81_1 : fieldT Try.prog 81 1 = some 1 := by kernel_rfl
@[simp] theorem f81_2 : fieldT Try.prog 81 2 = some 2 := by kernel_rfl
@[simp] theorem p81 : placeOf Try.prog 81 = some (fun i => ([(0, 1), (1, 1), (2, 1)] : List (Nat × Nat))[i]?) := by kernel_rfl
@[simp] theorem g83 : aggT Try.prog 83 = some false := by kernel_rfl
@[simp] theorem s83 : sizeT Try.prog 83 = some 1 := by kernel_rfl
@[simp] theorem z83 : zeroCs Try.prog 83 = some [.sc (.nilFunc)] := by kernel_rfl
@[simp] theorem g84 : aggT Try.prog 84 = some false := by kernel_rfl
@[simp] theorem s84 : sizeT Try.prog 84 = some 1 := by kernel_rfl
@[simp] theorem z84 : zeroCs Try.prog 84 = some [.nil] := by kernel_rfl
@[simp] theorem e84 : elT Try.prog 84 = some (109, 10, 96) := by kernel_rfl
@[simp] theorem u84 : Try.prog.underlying 84 = some (.slice 109) := by kernel_rfl
@[simp] theorem g85 : aggT Try.prog 85 = some false := by kernel_rfl
@[simp] theorem s85 : sizeT Try.prog 85 = some 1 := by kernel_rfl
@[simp] theorem z85 : zeroCs Try.prog 85 = some [.sc (.map none)] := by kernel_rfl
@[simp] theorem u85 : Try.prog.underlying 85 = some (.map 3 32) := by kernel_rfl
@[simp] theorem g86 : aggT Try.prog 86 = some true := by kernel_rfl
@[simp] theorem s86 : sizeT Try.prog 86 = some 4 := by kernel_rfl
@[simp] theorem z86 : zeroCs Try.prog 86 = some [.sc (.int .i64 0), .nil, .nil, .sc (.map none)] := by kernel_rfl
@[simp] theorem f86_0 : fieldT Try.prog 86 0 = some 0 := by kernel_rfl
@[simp] theorem f86_1 : fieldT Try.prog 86 1 = some 1 := by kernel_rfl
@[simp] theorem f86_2 : fieldT Try.prog 86 2 = some 2 := by kernel_rfl
@[simp] theorem f86_3 : fieldT Try.prog 86 3 = some 3 := by kernel_rfl
@[simp] theorem p86 : placeOf Try.prog 86 = some (fun i => ([(0, 1), (1, 1), (2, 1), (3, 1)] : List (Nat × Nat))[i]?) := by kernel_rfl
@[simp] theorem g87 : aggT Try.prog 87 = some true := by kernel_rfl
@[simp] theorem s87 : sizeT Try.prog 87 = some 4 := by kernel_rfl
@[simp] theorem z87 : zeroCs Try.prog 87 = some [.sc (.int .i64 0), .nil, .nil, .sc (.map none)] := by kernel_rfl
@[simp] theorem f87_0 : fieldT Try.prog 87 0 = some 0 := by kernel_rfl
@[simp] theorem f87_1 : fieldT Try.prog 87 1 = some 1 := by kernel_rfl
@[simp] theorem f87_2 : fieldT Try.prog 87 2 = some 2 := by kernel_rfl
@[simp] theorem f87_3 : fieldT Try.prog 87 3 = some 3 := by kernel_rfl
@[simp] theorem p87 : placeOf Try.prog 87 = some (fun i => ([(0, 1), (1, 1), (2, 1), (3, 1)] : List (Nat × Nat))[i]?) := by kernel_rfl
@[simp] theorem g88 : aggT Try.prog 88 = some false := by kernel_rfl
@[simp] theorem s88 : sizeT Try.prog 88 = some 1 := by kernel_rfl
@[simp] theorem z88 : zeroCs Try.prog 88 = some [.sc (.nilFunc)] := by kernel_rfl
@[simp] theorem g89 : aggT Try.prog 89 = some false := by kernel_rfl
@[simp] theorem s89 : sizeT Try.prog 89 = some 1 := by kernel_rfl
@[simp] theorem z89 : zeroCs Try.prog 89 = some [.sc (.nilFunc)] := by kernel_rfl
@[simp] theorem g90 : aggT Try.prog 90 = some false := by kernel_rfl
@[simp] theorem s90 : sizeT Try.prog 90 = some 1 := by kernel_rfl
@[simp] theorem z90 : zeroCs Try.prog 90 = some [.sc (.nilFunc)] := by kernel_rfl
@[simp] theorem g91 : aggT Try.prog 91 = some false := by kernel_rfl
@[simp] theorem s91 : sizeT Try.prog 91 = some 1 := by kernel_rfl
@[simp] theorem z91 : zeroCs Try.prog 91 = some [.sc (.nilFunc)] := by kernel_rfl
@[simp] theorem g92 : aggT Try.prog 92 = some false := by kernel_rfl
@[simp] theorem s92 : sizeT Try.prog 92 = some 1 := by kernel_rfl
@[simp] theorem z92 : zeroCs Try.prog 92 = some [.sc (.nilFunc)] := by kernel_rfl
@[simp] theorem g93 : aggT Try.prog 93 = some false := by kernel_rfl
@[simp] theorem s93 : sizeT Try.prog 93 = some 1 := by kernel_rfl
@[simp] theorem z93 : zeroCs Try.prog 93 = some [.sc (.nilFunc)] := by kernel_rfl
@[simp] theorem g94 : aggT Try.prog 94 = some false := by kernel_rfl
@[simp] theorem s94 : sizeT Try.prog 94 = some 1 := by kernel_rfl
@[simp] theorem z94 : zeroCs Try.prog 94 = some [.sc (.nilFunc)] := by kernel_rfl
@[simp] theorem g95 : aggT Try.prog 95 = some false := by kernel_rfl
@[simp] theorem s95 : sizeT Try.prog 95 = some 1 := by kernel_rfl
@[simp] theorem z95 : zeroCs Try.prog 95 = some [.sc (.nilFunc)] := by kernel_rfl
@[simp] theorem g96 : aggT Try.prog 96 = some false := by kernel_rfl
@[simp] theorem s96 : sizeT Try.prog 96 = some 1 := by kernel_rfl
@[simp] theorem z96 : zeroCs Try.prog 96 = some [.sc (.nilFunc)] := by kernel_rfl
@[simp] theorem g97 : aggT Try.prog 97 = some false := by kernel_rfl
@[simp] theorem s97 : sizeT Try.prog 97 = some 1 := by kernel_rfl
@[simp] theorem z97 : zeroCs Try.prog 97 = some [.sc (.nilFunc)] := by kernel_rfl
@[simp] theorem g99 : aggT Try.prog 99 = some false := by kernel_rfl
@[simp] theorem s99 : sizeT Try.prog 99 = some 1 := by kernel_rfl
@[simp] theorem z99 : zeroCs Try.prog 99 = some [.sc (.nilFunc)] := by kernel_rfl
@[simp] theorem g101 : aggT Try.prog 101 = some false := by kernel_rfl
@[simp] theorem s101 : sizeT Try.prog 101 = some 1 := by kernel_rfl
@[simp] theorem z101 : zeroCs Try.prog 101 = some [.sc (.nilFunc)] := by kernel_rfl
@[simp] theorem g102 : aggT Try.prog 102 = some false := by kernel_rfl
@[simp] theorem s102 : sizeT Try.prog 102 = some 1 := by kernel_rfl
@[simp] theorem z102 : zeroCs Try.prog 102 = some [.nil] := by kernel_rfl
@[simp] theorem e102 : elT Try.prog 102 = some (81, 3, 24) := by kernel_rfl
@[simp] theorem u102 : Try.prog.underlying 102 = some (.slice 81) := by kernel_rfl
@[simp] theorem g103 : aggT Try.prog 103 = some true := by kernel_rfl
@[simp] theorem s103 : sizeT Try.prog 103 = some 1 := by kernel_rfl
@[simp] theorem z103 : zeroCs Try.prog 103 = some [.nil] := by kernel_rfl
@[simp] theorem f103_0 : fieldT Try.prog 103 0 = some 0 := by kernel_rfl
@[simp] theorem p103 : placeOf Try.prog 103 = some (fun i => ([(0, 1)] : List (Nat × Nat))[i]?) := by kernel_rfl
@[simp] theorem g104 : aggT Try.prog 104 = some true := by kernel_rfl
@[simp] theorem s104 : sizeT Try.prog 104 = some 1 := by kernel_rfl
@[simp] theorem z104 : zeroCs Try.prog 104 = some [.nil] := by kernel_rfl
@[simp] theorem f104_0 : fieldT Try.prog 104 0 = some 0 := by kernel_rfl
@[simp] theorem p104 : placeOf Try.prog 104 = some (fun i => ([(0, 1)] : List (Nat × Nat))[i]?) := by kernel_rfl
@[simp] theorem g105 : aggT Try.prog 105 = some true := by kernel_rfl
@[simp] theorem s105 : sizeT Try.prog 105 = some 1 := by kernel_rfl
@[simp] theorem z105 : zeroCs Try.prog 105 = some [.nil] := by kernel_rfl
@[simp] theorem f105_0 : fieldT Try.prog 105 0 = some 0 := by kernel_rfl
@[simp] theorem p105 : placeOf Try.prog 105 = some (fun i => ([(0, 1)] : List (Nat × Nat))[i]?) := by kernel_rfl
@[simp] theorem g106 : aggT Try.prog 106 = some true := by kernel_rfl
@[simp] theorem s106 : sizeT Try.prog 106 = some 1 := by kernel_rfl
@[simp] theorem z106 : zeroCs Try.prog 106 = some [.nil] := by kernel_rfl
@[simp] theorem f106_0 : fieldT Try.prog 106 0 = some 0 := by kernel_rfl
@[simp] theorem p106 : placeOf Try.prog 106 = some (fun i => ([(0, 1)] : List (Nat × Nat))[i]?) := by kernel_rfl
@[simp] theorem g107 : aggT Try.prog 107 = some true := by kernel_rfl
@[simp] theorem s107 : sizeT Try.prog 107 = some 4 := by kernel_rfl
@[simp] theorem z107 : zeroCs Try.prog 107 = some [.sc (.int .i64 0), .sc (.int .i64 0), .sc (.int .i64 0), .sc (.int .i64 0)] := by kernel_rfl
@[simp] theorem p107 : placeOf Try.prog 107 = some (fun i => some (i * 1, 1)) := by kernel_rfl
@[simp] theorem u107 : Try.prog.underlying 107 = some (.array 4 3) := by kernel_rfl
@[simp] theorem g108 : aggT Try.prog 108 = some true := by kernel_rfl
@[simp] theorem s108 : sizeT Try.prog 108 = some 10 := by kernel_rfl
@[simp] theorem z108 : zeroCs Try.prog 108 = some [.sc (.int .i64 0), .sc (.int .i64 0), .sc (.int .i64 0), .sc (.int .i64 0), .sc (.int .i64 0), .sc (.int .i64 0), .sc (.int .i64 0), .sc (.int .i64 0), .sc (.bool false), .nil] := by kernel_rfl
@[simp] theorem f108_0 : fieldT Try.prog 108 0 = some 0 := by kernel_rfl
@[simp] theorem f108_1 : fieldT Try.prog 108 1 = some 3 := by kernel_rfl
@[simp] theorem f108_2 : fieldT Try.prog 108 2 = some 7 := by kernel_rfl
@[simp] theorem f108_3 : fieldT Try.prog 108 3 = some 8 := by kernel_rfl
@[simp] theorem f108_4 : fieldT Try.prog 108 4 = some 9 := by kernel_rfl
@[simp] theorem p108 : placeOf Try.prog 108 = some (fun i => ([(0, 3), (3, 4), (7, 1), (8, 1), (9, 1)] : List (Nat × Nat))[i]?) := by kernel_rfl
@[simp] theorem g109 : aggT Try.prog 109 = some true := by kernel_rfl
@[simp] theorem s109 : sizeT Try.prog 109 = some 10 := by kernel_rfl
@[simp] theorem z109 : zeroCs Try.prog 109 = some [.sc (.int .i64 0), .sc (.int .i64 0), .sc (.int .i64 0), .sc (.int .i64 0), .sc (.int .i64 0), .sc (.int .i64 0), .sc (.int .i64 0), .sc (.int .i64 0), .sc (.bool false), .nil] := by kernel_rfl
@[simp] theorem f109_0 : fieldT Try.prog 109 0 = some 0 := by kernel_rfl
@[simp] theorem f109_1 : fieldT Try.prog 109 1 = some 3 := by kernel_rfl
@[simp] theorem f109_2 : fieldT Try.prog 109 2 = some 7 := by kernel_rfl
@[simp] theorem f109_3 : fieldT Try.prog 109 3 = some 8 := by kernel_rfl
@[simp] theorem f109_4 : fieldT Try.prog 109 4 = some 9 := by kernel_rfl
@[simp] theorem p109 : placeOf Try.prog 109 = some (fun i => ([(0, 3), (3, 4), (7, 1), (8, 1), (9, 1)] : List (Nat × Nat))[i]?) := by kernel_rfl
@[simp] theorem g110 : aggT Try.prog 110 = some false := by kernel_rfl
@[simp] theorem s110 : sizeT Try.prog 110 = some 1 := by kernel_rfl
@[simp] theorem z110 : zeroCs Try.prog 110 = some [.sc (.nilFunc)] := by kernel_rfl
@[simp] theorem g111 : aggT Try.prog 111 = some false := by kernel_rfl
@[simp] theorem s111 : sizeT Try.prog 111 = some 1 := by kernel_rfl
@[simp] theorem z111 : zeroCs Try.prog 111 = some [.sc (.nilFunc)] := by kernel_rfl
@[simp] theorem g112 : aggT Try.prog 112 = some false := by kernel_rfl
@[simp] theorem s112 : sizeT Try.prog 112 = some 1 := by kernel_rfl
@[simp] theorem z112 : zeroCs Try.prog 112 = some [.sc (.nilFunc)] := by kernel_rfl
@[simp] theorem g113 : aggT Try.prog 113 = some false := by kernel_rfl
@[simp] theorem s113 : sizeT Try.prog 113 = some 1 := by kernel_rfl
@[simp] theorem z113 : zeroCs Try.prog 113 = some [.sc (.pointer none)] := by kernel_rfl
@[simp] theorem u113 : Try.prog.underlying 113 = some (.pointer 104) := by kernel_rfl
@[simp] theorem g114 : aggT Try.prog 114 = some false := by kernel_rfl
@[simp] theorem s114 : sizeT Try.prog 114 = some 1 := by kernel_rfl
@[simp] theorem z114 : zeroCs Try.prog 114 = some [.sc (.nilFunc)] := by kernel_rfl
@[simp] theorem g115 : aggT Try.prog 115 = some false := by kernel_rfl
@[simp] theorem s115 : sizeT Try.prog 115 = some 1 := by kernel_rfl
@[simp] theorem z115 : zeroCs Try.prog 115 = some [.sc (.nilFunc)] := by kernel_rfl
@[simp] theorem g116 : aggT Try.prog 116 = some false := by kernel_rfl
@[simp] theorem s116 : sizeT Try.prog 116 = some 1 := by kernel_rfl
@[simp] theorem z116 : zeroCs Try.prog 116 = some [.sc (.nilFunc)] := by kernel_rfl
@[simp] theorem g117 : aggT Try.prog 117 = some false := by kernel_rfl
@[simp] theorem s117 : sizeT Try.prog 117 = some 1 := by kernel_rfl
@[simp] theorem z117 : zeroCs Try.prog 117 = some [.sc (.pointer none)] := by kernel_rfl
@[simp] theorem u117 : Try.prog.underlying 117 = some (.pointer 109) := by kernel_rfl
@[simp] theorem g118 : aggT Try.prog 118 = some false := by kernel_rfl
@[simp] theorem s118 : sizeT Try.prog 118 = some 1 := by kernel_rfl
@[simp] theorem z118 : zeroCs Try.prog 118 = some [.sc (.nilFunc)] := by kernel_rfl
@[simp] theorem g119 : aggT Try.prog 119 = some true := by kernel_rfl
@[simp] theorem s119 : sizeT Try.prog 119 = some 4 := by kernel_rfl
@[simp] theorem z119 : zeroCs Try.prog 119 = some [.sc (.int .i64 0), .sc (.int .i64 0), .sc (.int .i64 0), .sc (.int .i64 0)] := by kernel_rfl
@[simp] theorem f119_0 : fieldT Try.prog 119 0 = some 0 := by kernel_rfl
@[simp] theorem f119_1 : fieldT Try.prog 119 1 = some 1 := by kernel_rfl
@[simp] theorem f119_2 : fieldT Try.prog 119 2 = some 2 := by kernel_rfl
@[simp] theorem f119_3 : fieldT Try.prog 119 3 = some 3 := by kernel_rfl
@[simp] theorem p119 : placeOf Try.prog 119 = some (fun i => ([(0, 1), (1, 1), (2, 1), (3, 1)] : List (Nat × Nat))[i]?) := by kernel_rfl
@[simp] theorem g120 : aggT Try.prog 120 = some false := by kernel_rfl
@[simp] theorem s120 : sizeT Try.prog 120 = some 1 := by kernel_rfl
@[simp] theorem z120 : zeroCs Try.prog 120 = some [.sc (.nilFunc)] := by kernel_rfl
@[simp] theorem g121 : aggT Try.prog 121 = some false := by kernel_rfl
@[simp] theorem s121 : sizeT Try.prog 121 = some 1 := by kernel_rfl
@[simp] theorem z121 : zeroCs Try.prog 121 = some [.sc (.nilFunc)] := by kernel_rfl
@[simp] theorem g122 : aggT Try.prog 122 = some false := by kernel_rfl
@[simp] theorem s122 : sizeT Try.prog 122 = some 1 := by kernel_rfl
@[simp] theorem z122 : zeroCs Try.prog 122 = some [.sc (.nilFunc)] := by kernel_rfl
@[simp] theorem g123 : aggT Try.prog 123 = some false := by kernel_rfl
@[simp] theorem s123 : sizeT Try.prog 123 = some 1 := by kernel_rfl
@[simp] theorem z123 : zeroCs Try.prog 123 = some [.sc (.nilFunc)] := by kernel_rfl
@[simp] theorem g124 : aggT Try.prog 124 = some false := by kernel_rfl
@[simp] theorem s124 : sizeT Try.prog 124 = some 1 := by kernel_rfl
@[simp] theorem z124 : zeroCs Try.prog 124 = some [.sc (.nilFunc)] := by kernel_rfl
@[simp] theorem g125 : aggT Try.prog 125 = some false := by kernel_rfl
@[simp] theorem s125 : sizeT Try.prog 125 = some 1 := by kernel_rfl
@[simp] theorem z125 : zeroCs Try.prog 125 = some [.sc (.nilFunc)] := by kernel_rfl
@[simp] theorem g128 : aggT Try.prog 128 = some false := by kernel_rfl
@[simp] theorem s128 : sizeT Try.prog 128 = some 1 := by kernel_rfl
@[simp] theorem z128 : zeroCs Try.prog 128 = some [.sc (.nilFunc)] := by kernel_rfl
@[simp] theorem g129 : aggT Try.prog 129 = some false := by kernel_rfl
@[simp] theorem s129 : sizeT Try.prog 129 = some 1 := by kernel_rfl
@[simp] theorem z129 : zeroCs Try.prog 129 = some [.sc (.nilFunc)] := by kernel_rfl
@[simp] theorem g130 : aggT Try.prog 130 = some false := by kernel_rfl
@[simp] theorem s130 : sizeT Try.prog 130 = some 1 := by kernel_rfl
@[simp] theorem z130 : zeroCs Try.prog 130 = some [.sc (.nilFunc)] := by kernel_rfl
@[simp] theorem g131 : aggT Try.prog 131 = some false := by kernel_rfl
@[simp] theorem s131 : sizeT Try.prog 131 = some 1 := by kernel_rfl
@[simp] theorem z131 : zeroCs Try.prog 131 = some [.sc (.nilFunc)] := by kernel_rfl
@[simp] theorem g132 : aggT Try.prog 132 = some false := by kernel_rfl
@[simp] theorem s132 : sizeT Try.prog 132 = some 1 := by kernel_rfl
@[simp] theorem z132 : zeroCs Try.prog 132 = some [.sc (.nilFunc)] := by kernel_rfl
@[simp] theorem g133 : aggT Try.prog 133 = some false := by kernel_rfl
@[simp] theorem s133 : sizeT Try.prog 133 = some 1 := by kernel_rfl
@[simp] theorem z133 : zeroCs Try.prog 133 = some [.sc (.nilFunc)] := by kernel_rfl
@[simp] theorem g134 : aggT Try.prog 134 = some false := by kernel_rfl
@[simp] theorem s134 : sizeT Try.prog 134 = some 1 := by kernel_rfl
@[simp] theorem z134 : zeroCs Try.prog 134 = some [.sc (.int .i64 0)] := by kernel_rfl
@[simp] theorem u134 : Try.prog.underlying 134 = some (.int .i64) := by kernel_rfl
@[simp] theorem g135 : aggT Try.prog 135 = some false := by kernel_rfl
@[simp] theorem s135 : sizeT Try.prog 135 = some 1 := by kernel_rfl
@[simp] theorem z135 : zeroCs Try.prog 135 = some [.sc (.nilFunc)] := by kernel_rfl
@[simp] theorem g137 : aggT Try.prog 137 = some false := by kernel_rfl
@[simp] theorem s137 : sizeT Try.prog 137 = some 1 := by kernel_rfl
@[simp] theorem z137 : zeroCs Try.prog 137 = some [.sc (.int .u64 0)] := by kernel_rfl
@[simp] theorem u137 : Try.prog.underlying 137 = some (.int .u64) := by kernel_rfl
@[simp] theorem g138 : aggT Try.prog 138 = some true := by kernel_rfl
@[simp] theorem s138 : sizeT Try.prog 138 = some 3 := by kernel_rfl
@[simp] theorem z138 : zeroCs Try.prog 138 = some [.sc (.pointer none), .sc (.pointer none), .sc (.int .u64 0)] := by kernel_rfl
@[simp] theorem f138_0 : fieldT Try.prog 138 0 = some 0 := by kernel_rfl
@[simp] theorem f138_1 : fieldT Try.prog 138 1 = some 1 := by kernel_rfl
@[simp] theorem f138_2 : fieldT Try.prog 138 2 = some 2 := by kernel_rfl
@[simp] theorem p138 : placeOf Try.prog 138 = some (fun i => ([(0, 1), (1, 1), (2, 1)] : List (Nat × Nat))[i]?) := by kernel_rfl
@[simp] theorem g139 : aggT Try.prog 139 = some true := by kernel_rfl
@[simp] theorem s139 : sizeT Try.prog 139 = some 3 := by kernel_rfl
@[simp] theorem z139 : zeroCs Try.prog 139 = some [.sc (.pointer none), .sc (.pointer none), .sc (.int .u64 0)] := by kernel_rfl
@[simp] theorem f139_0 : fieldT Try.prog 139 0 = some 0 := by kernel_rfl
@[simp] theorem f139_1 : fieldT Try.prog 139 1 = some 1 := by kernel_rfl
@[simp] theorem f139_2 : fieldT Try.prog 139 2 = some 2 := by kernel_rfl
@[simp] theorem p139 : placeOf Try.prog 139 = some (fun i => ([(0, 1), (1, 1), (2, 1)] : List (Nat × Nat))[i]?) := by kernel_rfl
@[simp] theorem g140 : aggT Try.prog 140 = some false := by kernel_rfl
@[simp] theorem s140 : sizeT Try.prog 140 = some 1 := by kernel_rfl
@[simp] theorem z140 : zeroCs Try.prog 140 = some [.sc (.nilFunc)] := by kernel_rfl
@[simp] theorem g141 : aggT Try.prog 141 = some false := by kernel_rfl
@[simp] theorem s141 : sizeT Try.prog 141 = some 1 := by kernel_rfl
@[simp] theorem z141 : zeroCs Try.prog 141 = some [.sc (.nilFunc)] := by kernel_rfl
@[simp] theorem g142 : aggT Try.prog 142 = some false := by kernel_rfl
@[simp] theorem s142 : sizeT Try.prog 142 = some 1 := by kernel_rfl
@[simp] theorem z142 : zeroCs Try.prog 142 = some [.sc (.nilFunc)] := by kernel_rfl
@[simp] theorem g143 : aggT Try.prog 143 = some false := by kernel_rfl
@[simp] theorem s143 : sizeT Try.prog 143 = some 1 := by kernel_rfl
@[simp] theorem z143 : zeroCs Try.prog 143 = some [.sc (.int .u64 0)] := by kernel_rfl
@[simp] theorem u143 : Try.prog.underlying 143 = some (.int .u64) := by kernel_rfl
@[simp] theorem g144 : aggT Try.prog 144 = some false := by kernel_rfl
@[simp] theorem s144 : sizeT Try.prog 144 = some 1 := by kernel_rfl
@[simp] theorem z144 : zeroCs Try.prog 144 = some [.sc (.nilFunc)] := by kernel_rfl
@[simp] theorem g145 : aggT Try.prog 145 = some true := by kernel_rfl
@[simp] theorem s145 : sizeT Try.prog 145 = some 2 := by kernel_rfl
@[simp] theorem z145 : zeroCs Try.prog 145 = some [.sc (.nilFunc), .sc (.nilFunc)] := by kernel_rfl
@[simp] theorem f145_0 : fieldT Try.prog 145 0 = some 0 := by kernel_rfl
@[simp] theorem f145_1 : fieldT Try.prog 145 1 = some 1 := by kernel_rfl
@[simp] theorem p145 : placeOf Try.prog 145 = some (fun i => ([(0, 1), (1, 1)] : List (Nat × Nat))[i]?) := by kernel_rfl
@[simp] theorem g146 : aggT Try.prog 146 = some true := by kernel_rfl
@[simp] theorem s146 : sizeT Try.prog 146 = some 2 := by kernel_rfl
@[simp] theorem z146 : zeroCs Try.prog 146 = some [.sc (.nilFunc), .sc (.nilFunc)] := by kernel_rfl
@[simp] theorem f146_0 : fieldT Try.prog 146 0 = some 0 := by kernel_rfl
@[simp] theorem f146_1 : fieldT Try.prog 146 1 = some 1 := by kernel_rfl
@[simp] theorem p146 : placeOf Try.prog 146 = some (fun i => ([(0, 1), (1, 1)] : List (Nat × Nat))[i]?) := by kernel_rfl
@[simp] theorem g147 : aggT Try.prog 147 = some false := by kernel_rfl
@[simp] theorem s147 : sizeT Try.prog 147 = some 1 := by kernel_rfl
@[simp] theorem z147 : zeroCs Try.prog 147 = some [.sc (.nilFunc)] := by kernel_rfl
@[simp] theorem g148 : aggT Try.prog 148 = some false := by kernel_rfl
@[simp] theorem s148 : sizeT Try.prog 148 = some 1 := by kernel_rfl
@[simp] theorem z148 : zeroCs Try.prog 148 = some [.sc (.nilFunc)] := by kernel_rfl
@[simp] theorem g149 : aggT Try.prog 149 = some false := by kernel_rfl
@[simp] theorem s149 : sizeT Try.prog 149 = some 1 := by kernel_rfl
@[simp] theorem z149 : zeroCs Try.prog 149 = some [.sc (.nilFunc)] := by kernel_rfl
@[simp] theorem g150 : aggT Try.prog 150 = some false := by kernel_rfl
@[simp] theorem s150 : sizeT Try.prog 150 = some 1 := by kernel_rfl
@[simp] theorem z150 : zeroCs Try.prog 150 = some [.sc (.nilFunc)] := by kernel_rfl
@[simp] theorem g151 : aggT Try.prog 151 = some false := by kernel_rfl
@[simp] theorem s151 : sizeT Try.prog 151 = some 1 := by kernel_rfl
@[simp] theorem z151 : zeroCs Try.prog 151 = some [.sc (.nilFunc)] := by kernel_rfl
@[simp] theorem g152 : aggT Try.prog 152 = some true := by kernel_rfl
@[simp] theorem s152 : sizeT Try.prog 152 = some 1 := by kernel_rfl
@[simp] theorem z152 : zeroCs Try.prog 152 = some [.sc (.pointer none)] := by kernel_rfl
@[simp] theorem f152_0 : fieldT Try.prog 152 0 = some 0 := by kernel_rfl
@[simp] theorem p152 : placeOf Try.prog 152 = some (fun i => ([(0, 1)] : List (Nat × Nat))[i]?) := by kernel_rfl
@[simp] theorem g153 : aggT Try.prog 153 = some true := by kernel_rfl
@[simp] theorem s153 : sizeT Try.prog 153 = some 1 := by kernel_rfl
@[simp] theorem z153 : zeroCs Try.prog 153 = some [.sc (.pointer none)] := by kernel_rfl
@[simp] theorem f153_0 : fieldT Try.prog 153 0 = some 0 := by kernel_rfl
@[simp] theorem p153 : placeOf Try.prog 153 = some (fun i => ([(0, 1)] : List (Nat × Nat))[i]?) := by kernel_rfl
@[simp] theorem g154 : aggT Try.prog 154 = some false := by kernel_rfl
@[simp] theorem s154 : sizeT Try.prog 154 = some 1 := by kernel_rfl
@[simp] theorem z154 : zeroCs Try.prog 154 = some [.sc (.pointer none)] := by kernel_rfl
@[simp] theorem u154 : Try.prog.underlying 154 = some (.pointer 192) := by kernel_rfl
@[simp] theorem g155 : aggT Try.prog 155 = some false := by kernel_rfl
@[simp] theorem s155 : sizeT Try.prog 155 = some 1 := by kernel_rfl
@[simp] theorem z155 : zeroCs Try.prog 155 = some [.sc (.nilFunc)] := by kernel_rfl
@[simp] theorem g156 : aggT Try.prog 156 = some false := by kernel_rfl
@[simp] theorem s156 : sizeT Try.prog 156 = some 1 := by kernel_rfl
@[simp] theorem z156 : zeroCs Try.prog 156 = some [.sc (.int .u32 0)] := by kernel_rfl
@[simp] theorem u156 : Try.prog.underlying 156 = some (.int .u32) := by kernel_rfl
@[simp] theorem g157 : aggT Try.prog 157 = some false := by kernel_rfl
@[simp] theorem s157 : sizeT Try.prog 157 = some 1 := by kernel_rfl
@[simp] theorem z157 : zeroCs Try.prog 157 = some [.sc (.nilFunc)] := by kernel_rfl
@[simp] theorem g158 : aggT Try.prog 158 = some false := by kernel_rfl
@[simp] theorem s158 : sizeT Try.prog 158 = some 1 := by kernel_rfl
@[simp] theorem z158 : zeroCs Try.prog 158 = some [.sc (.nilFunc)] := by kernel_rfl
@[simp] theorem g159 : aggT Try.prog 159 = some false := by kernel_rfl
@[simp] theorem s159 : sizeT Try.prog 159 = some 1 := by kernel_rfl
@[simp] theorem z159 : zeroCs Try.prog 159 = some [.sc (.int .i64 0)] := by kernel_rfl
@[simp] theorem u159 : Try.prog.underlying 159 = some (.int .i64) := by kernel_rfl
@[simp] theorem g161 : aggT Try.prog 161 = some false := by kernel_rfl
@[simp] theorem s161 : sizeT Try.prog 161 = some 1 := by kernel_rfl
@[simp] theorem z161 : zeroCs Try.prog 161 = some [.sc (.nilFunc)] := by kernel_rfl
@[simp] theorem g162 : aggT Try.prog 162 = some false := by kernel_rfl
@[simp] theorem s162 : sizeT Try.prog 162 = some 1 := by kernel_rfl
@[simp] theorem z162 : zeroCs Try.prog 162 = some [.sc (.nilFunc)] := by kernel_rfl
@[simp] theorem g163 : aggT Try.prog 163 = some false := by kernel_rfl
@[simp] theorem s163 : sizeT Try.prog 163 = some 1 := by kernel_rfl
@[simp] theorem z163 : zeroCs Try.prog 163 = some [.sc (.nilFunc)] := by kernel_rfl
@[simp] theorem g165 : aggT Try.prog 165 = some false := by kernel_rfl
@[simp] theorem s165 : sizeT Try.prog 165 = some 1 := by kernel_rfl
@[simp] theorem z165 : zeroCs Try.prog 165 = some [.sc (.nilFunc)] := by kernel_rfl
@[simp] theorem g166 : aggT Try.prog 166 = some false := by kernel_rfl
@[simp] theorem s166 : sizeT Try.prog 166 = some 1 := by kernel_rfl
@[simp] theorem z166 : zeroCs Try.prog 166 = some [.sc (.nilFunc)] := by kernel_rfl
@[simp] theorem g167 : aggT Try.prog 167 = some false := by kernel_rfl
@[simp] theorem s167 : sizeT Try.prog 167 = some 1 := by kernel_rfl
@[simp] theorem z167 : zeroCs Try.prog 167 = some [.sc (.nilFunc)] := by kernel_rfl
@[simp] theorem g168 : aggT Try.prog 168 = some false := by kernel_rfl
@[simp] theorem s168 : sizeT Try.prog 168 = some 1 := by kernel_rfl
@[simp] theorem z168 : zeroCs Try.prog 168 = some [.sc (.int .u64 0)] := by kernel_rfl
@[simp] theorem u168 : Try.prog.underlying 168 = some (.int .u64) := by kernel_rfl
@[simp] theorem g169 : aggT Try.prog 169 = some false := by kernel_rfl
@[simp] theorem s169 : sizeT Try.prog 169 = some 1 := by kernel_rfl
@[simp] theorem z169 : zeroCs Try.prog 169 = some [.sc (.nilFunc)] := by kernel_rfl
@[simp] theorem g170 : aggT Try.prog 170 = some false := by kernel_rfl
@[simp] theorem s170 : sizeT Try.prog 170 = some 1 := by kernel_rfl
@[simp] theorem z170 : zeroCs Try.prog 170 = some [.sc (.nilFunc)] := by kernel_rfl
@[simp] theorem g171 : aggT Try.prog 171 = some false := by kernel_rfl
@[simp] theorem s171 : sizeT Try.prog 171 = some 1 := by kernel_rfl
@[simp] theorem z171 : zeroCs Try.prog 171 = some [.sc (.nilFunc)] := by kernel_rfl
@[simp] theorem g172 : aggT Try.prog 172 = some false := by kernel_rfl
@[simp] theorem s172 : sizeT Try.prog 172 = some 1 := by kernel_rfl
@[simp] theorem z172 : zeroCs Try.prog 172 = some [.sc (.pointer none)] := by kernel_rfl
@[simp] theorem u172 : Try.prog.underlying 172 = some (.pointer 3) := by kernel_rfl
@[simp] theorem g173 : aggT Try.prog 173 = some false := by kernel_rfl
@[simp] theorem s173 : sizeT Try.prog 173 = some 1 := by kernel_rfl
@[simp] theorem z173 : zeroCs Try.prog 173 = some [.sc (.nilFunc)] := by kernel_rfl
@[simp] theorem g174 : aggT Try.prog 174 = some false := by kernel_rfl
@[simp] theorem s174 : sizeT Try.prog 174 = some 1 := by kernel_rfl
@[simp] theorem z174 : zeroCs Try.prog 174 = some [.sc (.pointer none)] := by kernel_rfl
@[simp] theorem u174 : Try.prog.underlying 174 = some (.pointer 168) := by kernel_rfl
@[simp] theorem g175 : aggT Try.prog 175 = some false := by kernel_rfl
@[simp] theorem s175 : sizeT Try.prog 175 = some 1 := by kernel_rfl
@[simp] theorem z175 : zeroCs Try.prog 175 = some [.sc (.nilFunc)] := by kernel_rfl
@[simp] theorem g176 : aggT Try.prog 176 = some false := by kernel_rfl
@[simp] theorem s176 : sizeT Try.prog 176 = some 1 := by kernel_rfl
@[simp] theorem z176 : zeroCs Try.prog 176 = some [.sc (.nilFunc)] := by kernel_rfl
@[simp] theorem g177 : aggT Try.prog 177 = some true := by kernel_rfl
@[simp] theorem s177 : sizeT Try.prog 177 = some 4 := by kernel_rfl
@[simp] theorem z177 : zeroCs Try.prog 177 = some [.sc (.pointer none), .sc (.pointer none), .sc (.pointer none), .sc (.string ⟨#[]⟩)] := by kernel_rfl
@[simp] theorem f177_0 : fieldT Try.prog 177 0 = some 0 := by kernel_rfl
@[simp] theorem f177_1 : fieldT Try.prog 177 1 = some 1 := by kernel_rfl
@[simp] theorem f177_2 : fieldT Try.prog 177 2 = some 2 := by kernel_rfl
@[simp] theorem f177_3 : fieldT Try.prog 177 3 = some 3 := by kernel_rfl
@[simp] theorem p177 : placeOf Try.prog 177 = some (fun i => ([(0, 1), (1, 1), (2, 1), (3, 1)] : List (Nat × Nat))[i]?) := by kernel_rfl
@[simp] theorem g178 : aggT Try.prog 178 = some true := by kernel_rfl
@[simp] theorem s178 : sizeT Try.prog 178 = some 4 := by kernel_rfl
@[simp] theorem z178 : zeroCs Try.prog 178 = some [.sc (.pointer none), .sc (.pointer none), .sc (.pointer none), .sc (.string ⟨#[]⟩)] := by kernel_rfl
@[simp] theorem f178_0 : fieldT Try.prog 178 0 = some 0 := by kernel_rfl
@[simp] theorem f178_1 : fieldT Try.prog 178 1 = some 1 := by kernel_rfl
@[simp] theorem f178_2 : fieldT Try.prog 178 2 = some 2 := by kernel_rfl
@[simp] theorem f178_3 : fieldT Try.prog 178 3 = some 3 := by kernel_rfl
@[simp] theorem p178 : placeOf Try.prog 178 = some (fun i => ([(0, 1), (1, 1), (2, 1), (3, 1)] : List (Nat × Nat))[i]?) := by kernel_rfl
@[simp] theorem g179 : aggT Try.prog 179 = some true := by kernel_rfl
@[simp] theorem s179 : sizeT Try.prog 179 = some 0 := by kernel_rfl
@[simp] theorem z179 : zeroCs Try.prog 179 = some [] := by kernel_rfl
@[simp] theorem p179 : placeOf Try.prog 179 = some (fun i => some (i * 1, 1)) := by kernel_rfl
@[simp] theorem u179 : Try.prog.underlying 179 = some (.array 0 16) := by kernel_rfl
@[simp] theorem g180 : aggT Try.prog 180 = some true := by kernel_rfl
@[simp] theorem s180 : sizeT Try.prog 180 = some 0 := by kernel_rfl
@[simp] theorem z180 : zeroCs Try.prog 180 = some [] := by kernel_rfl
@[simp] theorem p180 : placeOf Try.prog 180 = some (fun i => ([(0, 0)] : List (Nat × Nat))[i]?) := by kernel_rfl
@[simp] theorem g181 : aggT Try.prog 181 = some true := by kernel_rfl
@[simp] theorem s181 : sizeT Try.prog 181 = some 0 := by kernel_rfl
@[simp] theorem z181 : zeroCs Try.prog 181 = some [] := by kernel_rfl
@[simp] theorem p181 : placeOf Try.prog 181 = some (fun i => ([(0, 0)] : List (Nat × Nat))[i]?) := by kernel_rfl
@[simp] theorem g182 : aggT Try.prog 182 = some false := by kernel_rfl
@[simp] theorem s182 : sizeT Try.prog 182 = some 1 := by kernel_rfl
@[simp] theorem z182 : zeroCs Try.prog 182 = some [.sc (.int .u8 0)] := by kernel_rfl
@[simp] theorem u182 : Try.prog.underlying 182 = some (.int .u8) := by kernel_rfl
@[simp] theorem g183 : aggT Try.prog 183 = some false := by kernel_rfl
@[simp] theorem s183 : sizeT Try.prog 183 = some 1 := by kernel_rfl
@[simp] theorem z183 : zeroCs Try.prog 183 = some [.sc (.int .u8 0)] := by kernel_rfl
@[simp] theorem u183 : Try.prog.underlying 183 = some (.int .u8) := by kernel_rfl
@[simp] theorem g184 : aggT Try.prog 184 = some false := by kernel_rfl
@[simp] theorem s184 : sizeT Try.prog 184 = some 1 := by kernel_rfl
@[simp] theorem z184 : zeroCs Try.prog 184 = some [.sc (.nilFunc)] := by kernel_rfl
@[simp] theorem g185 : aggT Try.prog 185 = some false := by kernel_rfl
@[simp] theorem s185 : sizeT Try.prog 185 = some 1 := by kernel_rfl
@[simp] theorem z185 : zeroCs Try.prog 185 = some [.sc (.pointer none)] := by kernel_rfl
@[simp] theorem u185 : Try.prog.underlying 185 = some (.pointer 5) := by kernel_rfl
@[simp] theorem g186 : aggT Try.prog 186 = some false := by kernel_rfl
@[simp] theorem s186 : sizeT Try.prog 186 = some 1 := by kernel_rfl
@[simp] theorem z186 : zeroCs Try.prog 186 = some [.sc (.int .i32 0)] := by kernel_rfl
@[simp] theorem u186 : Try.prog.underlying 186 = some (.int .i32) := by kernel_rfl
@[simp] theorem g187 : aggT Try.prog 187 = some false := by kernel_rfl
@[simp] theorem s187 : sizeT Try.prog 187 = some 1 := by kernel_rfl
@[simp] theorem z187 : zeroCs Try.prog 187 = some [.sc (.int .i32 0)] := by kernel_rfl
@[simp] theorem u187 : Try.prog.underlying 187 = some (.int .i32) := by kernel_rfl
@[simp] theorem g188 : aggT Try.prog 188 = some true := by kernel_rfl
@[simp] theorem s188 : sizeT Try.prog 188 = some 11 := by kernel_rfl
@[simp] theorem z188 : zeroCs Try.prog 188 = some [.sc (.int .u64 0), .sc (.int .u64 0), .sc (.int .u32 0), .sc (.int .u8 0), .sc (.int .u8 0), .sc (.int .u8 0), .sc (.int .u8 0), .sc (.nilFunc), .sc (.pointer none), .sc (.int .i32 0), .sc (.int .i32 0)] := by kernel_rfl
@[simp] theorem f188_0 : fieldT Try.prog 188 0 = some 0 := by kernel_rfl
@[simp] theorem f188_1 : fieldT Try.prog 188 1 = some 1 := by kernel_rfl
@[simp] theorem f188_2 : fieldT Try.prog 188 2 = some 2 := by kernel_rfl
@[simp] theorem f188_3 : fieldT Try.prog 188 3 = some 3 := by kernel_rfl
@[simp] theorem f188_4 : fieldT Try.prog 188 4 = some 4 := by kernel_rfl
@[simp] theorem f188_5 : fieldT Try.prog 188 5 = some 5 := by kernel_rfl
@[simp] theorem f188_6 : fieldT Try.prog 188 6 = some 6 := by kernel_rfl
@[simp] theorem f188_7 : fieldT Try.prog 188 7 = some 7 := by kernel_rfl
@[simp] theorem f188_8 : fieldT Try.prog 188 8 = some 8 := by kernel_rfl
@[simp] theorem f188_9 : fieldT Try.prog 188 9 = some 9 := by kernel_rfl
@[simp] theorem f188_10 : fieldT Try.prog 188 10 = some 10 := by kernel_rfl
@[simp] theorem p188 : placeOf Try.prog 188 = some (fun i => ([(0, 1), (1, 1), (2, 1), (3, 1), (4, 1), (5, 1), (6, 1), (7, 1), (8, 1), (9, 1), (10, 1)] : List (Nat × Nat))[i]?) := by kernel_rfl
@[simp] theorem g189 : aggT Try.prog 189 = some true := by kernel_rfl
@[simp] theorem s189 : sizeT Try.prog 189 = some 11 := by kernel_rfl
@[simp] theorem z189 : zeroCs Try.prog 189 = some [.sc (.int .u64 0), .sc (.int .u64 0), .sc (.int .u32 0), .sc (.int .u8 0), .sc (.int .u8 0), .sc (.int .u8 0), .sc (.int .u8 0), .sc (.nilFunc), .sc (.pointer none), .sc (.int .i32 0), .sc (.int .i32 0)] := by kernel_rfl
@[simp] theorem f189_0 : fieldT Try.prog 189 0 = some 0 := by kernel_rfl
@[simp] theorem f189_1 : fieldT Try.prog 189 1 = some 1 := by kernel_rfl
@[simp] theorem f189_2 : fieldT Try.prog 189 2 = some 2 := by kernel_rfl
@[simp] theorem f189_3 : fieldT Try.prog 189 3 = some 3 := by kernel_rfl
@[simp] theorem f189_4 : fieldT Try.prog 189 4 = some 4 := by kernel_rfl
@[simp] theorem f189_5 : fieldT Try.prog 189 5 = some 5 := by kernel_rfl
@[simp] theorem f189_6 : fieldT Try.prog 189 6 = some 6 := by kernel_rfl
@[simp] theorem f189_7 : fieldT Try.prog 189 7 = some 7 := by kernel_rfl
@[simp] theorem f189_8 : fieldT Try.prog 189 8 = some 8 := by kernel_rfl
@[simp] theorem f189_9 : fieldT Try.prog 189 9 = some 9 := by kernel_rfl
@[simp] theorem f189_10 : fieldT Try.prog 189 10 = some 10 := by kernel_rfl
@[simp] theorem p189 : placeOf Try.prog 189 = some (fun i => ([(0, 1), (1, 1), (2, 1), (3, 1), (4, 1), (5, 1), (6, 1), (7, 1), (8, 1), (9, 1), (10, 1)] : List (Nat × Nat))[i]?) := by kernel_rfl
@[simp] theorem g190 : aggT Try.prog 190 = some false := by kernel_rfl
@[simp] theorem s190 : sizeT Try.prog 190 = some 1 := by kernel_rfl
@[simp] theorem z190 : zeroCs Try.prog 190 = some [.sc (.nilFunc)] := by kernel_rfl
@[simp] theorem g191 : aggT Try.prog 191 = some true := by kernel_rfl
@[simp] theorem s191 : sizeT Try.prog 191 = some 2 := by kernel_rfl
@[simp] theorem z191 : zeroCs Try.prog 191 = some [.sc (.string ⟨#[]⟩), .sc (.int .u8 0)] := by kernel_rfl
@[simp] theorem f191_0 : fieldT Try.prog 191 0 = some 0 := by kernel_rfl
@[simp] theorem f191_1 : fieldT Try.prog 191 1 = some 1 := by kernel_rfl
@[simp] theorem p191 : placeOf Try.prog 191 = some (fun i => ([(0, 1), (1, 1)] : List (Nat × Nat))[i]?) := by kernel_rfl
@[simp] theorem g192 : aggT Try.prog 192 = some true := by kernel_rfl
@[simp] theorem s192 : sizeT Try.prog 192 = some 2 := by kernel_rfl
@[simp] theorem z192 : zeroCs Try.prog 192 = some [.sc (.string ⟨#[]⟩), .sc (.int .u8 0)] := by kernel_rfl
@[simp] theorem f192_0 : fieldT Try.prog 192 0 = some 0 := by kernel_rfl
@[simp] theorem f192_1 : fieldT Try.prog 192 1 = some 1 := by kernel_rfl
@[simp] theorem p192 : placeOf Try.prog 192 = some (fun i => ([(0, 1), (1, 1)] : List (Nat × Nat))[i]?) := by kernel_rfl
end Ty
theorem mixed : Try.prog.follows .mixedOrders = true := by kernel_rfl
end Go.Proofs.Ytmjnffjacgjfmaa
