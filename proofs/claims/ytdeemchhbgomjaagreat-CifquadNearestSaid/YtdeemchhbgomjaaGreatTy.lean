/- The types of the program: sizes, fields, zero cells, elements. Printed by wip/gen/types.py; each fact is closed. -/
import Derived.Test.YtdeemchhbgomjaaGreatRows
import Derived.Test.YtdeemchhbgomjaaGreatAo
namespace Go.Proofs.YtdeemchhbgomjaaGreat
open Go.RowKit AM
namespace Ty
@[simp] theorem g1 : aggT Tryz.prog 1 = some false := by kernel_rfl
@[simp] theorem s1 : sizeT Tryz.prog 1 = some 1 := by kernel_rfl
@[simp] theorem z1 : zeroCs Tryz.prog 1 = some [.sc (.nilFunc)] := by kernel_rfl
@[simp] theorem g2 : aggT Tryz.prog 2 = some false := by kernel_rfl
@[simp] theorem s2 : sizeT Tryz.prog 2 = some 1 := by kernel_rfl
@[simp] theorem z2 : zeroCs Tryz.prog 2 = some [.sc (.int .i64 0)] := by kernel_rfl
@[simp] theorem u2 : Tryz.prog.underlying 2 = some (.int .i64) := by kernel_rfl
@[simp] theorem g3 : aggT Tryz.prog 3 = some false := by kernel_rfl
@[simp] theorem s3 : sizeT Tryz.prog 3 = some 1 := by kernel_rfl
@[simp] theorem z3 : zeroCs Tryz.prog 3 = some [.sc (.int .i64 0)] := by kernel_rfl
@[simp] theorem u3 : Tryz.prog.underlying 3 = some (.int .i64) := by kernel_rfl
@[simp] theorem g4 : aggT Tryz.prog 4 = some false := by kernel_rfl
@[simp] theorem s4 : sizeT Tryz.prog 4 = some 1 := by kernel_rfl
@[simp] theorem z4 : zeroCs Tryz.prog 4 = some [.sc (.bool false)] := by kernel_rfl
@[simp] theorem u4 : Tryz.prog.underlying 4 = some .bool := by kernel_rfl
@[simp] theorem g5 : aggT Tryz.prog 5 = some false := by kernel_rfl
@[simp] theorem s5 : sizeT Tryz.prog 5 = some 1 := by kernel_rfl
@[simp] theorem z5 : zeroCs Tryz.prog 5 = some [.sc (.int .u8 0)] := by kernel_rfl
@[simp] theorem u5 : Tryz.prog.underlying 5 = some (.int .u8) := by kernel_rfl
@[simp] theorem g6 : aggT Tryz.prog 6 = some false := by kernel_rfl
@[simp] theorem s6 : sizeT Tryz.prog 6 = some 1 := by kernel_rfl
@[simp] theorem z6 : zeroCs Tryz.prog 6 = some [.sc (.int .u8 0)] := by kernel_rfl
@[simp] theorem u6 : Tryz.prog.underlying 6 = some (.int .u8) := by kernel_rfl
@[simp] theorem g7 : aggT Tryz.prog 7 = some true := by kernel_rfl
@[simp] theorem s7 : sizeT Tryz.prog 7 = some 4 := by kernel_rfl
@[simp] theorem z7 : zeroCs Tryz.prog 7 = some [.sc (.int .i64 0), .sc (.int .i64 0), .sc (.bool false), .sc (.int .u8 0)] := by kernel_rfl
@[simp] theorem f7_0 : fieldT Tryz.prog 7 0 = some 0 := by kernel_rfl
@[simp] theorem f7_1 : fieldT Tryz.prog 7 1 = some 1 := by kernel_rfl
@[simp] theorem f7_2 : fieldT Tryz.prog 7 2 = some 2 := by kernel_rfl
@[simp] theorem f7_3 : fieldT Tryz.prog 7 3 = some 3 := by kernel_rfl
@[simp] theorem p7 : placeOf Tryz.prog 7 = some (fun i => ([(0, 1), (1, 1), (2, 1), (3, 1)] : List (Nat × Nat))[i]?) := by kernel_rfl
@[simp] theorem g8 : aggT Tryz.prog 8 = some true := by kernel_rfl
@[simp] theorem s8 : sizeT Tryz.prog 8 = some 4 := by kernel_rfl
@[simp] theorem z8 : zeroCs Tryz.prog 8 = some [.sc (.int .i64 0), .sc (.int .i64 0), .sc (.bool false), .sc (.int .u8 0)] := by kernel_rfl
@[simp] theorem f8_0 : fieldT Tryz.prog 8 0 = some 0 := by kernel_rfl
@[simp] theorem f8_1 : fieldT Tryz.prog 8 1 = some 1 := by kernel_rfl
@[simp] theorem f8_2 : fieldT Tryz.prog 8 2 = some 2 := by kernel_rfl
@[simp] theorem f8_3 : fieldT Tryz.prog 8 3 = some 3 := by kernel_rfl
@[simp] theorem p8 : placeOf Tryz.prog 8 = some (fun i => ([(0, 1), (1, 1), (2, 1), (3, 1)] : List (Nat × Nat))[i]?) := by kernel_rfl
@[simp] theorem g9 : aggT Tryz.prog 9 = some false := by kernel_rfl
@[simp] theorem s9 : sizeT Tryz.prog 9 = some 1 := by kernel_rfl
@[simp] theorem z9 : zeroCs Tryz.prog 9 = some [.sc (.string ⟨#[]⟩)] := by kernel_rfl
@[simp] theorem u9 : Tryz.prog.underlying 9 = some .string := by kernel_rfl
@[simp] theorem g10 : aggT Tryz.prog 10 = some false := by kernel_rfl
@[simp] theorem s10 : sizeT Tryz.prog 10 = some 1 := by kernel_rfl
@[simp] theorem z10 : zeroCs Tryz.prog 10 = some [.sc (.string ⟨#[]⟩)] := by kernel_rfl
@[simp] theorem u10 : Tryz.prog.underlying 10 = some .string := by kernel_rfl
@[simp] theorem g11 : aggT Tryz.prog 11 = some false := by kernel_rfl
@[simp] theorem s11 : sizeT Tryz.prog 11 = some 1 := by kernel_rfl
@[simp] theorem z11 : zeroCs Tryz.prog 11 = some [.sc (.string ⟨#[]⟩)] := by kernel_rfl
@[simp] theorem u11 : Tryz.prog.underlying 11 = some .string := by kernel_rfl
@[simp] theorem g12 : aggT Tryz.prog 12 = some false := by kernel_rfl
@[simp] theorem s12 : sizeT Tryz.prog 12 = some 1 := by kernel_rfl
@[simp] theorem z12 : zeroCs Tryz.prog 12 = some [.sc (.int .u64 0)] := by kernel_rfl
@[simp] theorem u12 : Tryz.prog.underlying 12 = some (.int .u64) := by kernel_rfl
@[simp] theorem g13 : aggT Tryz.prog 13 = some true := by kernel_rfl
@[simp] theorem s13 : sizeT Tryz.prog 13 = some 2 := by kernel_rfl
@[simp] theorem z13 : zeroCs Tryz.prog 13 = some [.sc (.string ⟨#[]⟩), .sc (.int .u64 0)] := by kernel_rfl
@[simp] theorem f13_0 : fieldT Tryz.prog 13 0 = some 0 := by kernel_rfl
@[simp] theorem f13_1 : fieldT Tryz.prog 13 1 = some 1 := by kernel_rfl
@[simp] theorem p13 : placeOf Tryz.prog 13 = some (fun i => ([(0, 1), (1, 1)] : List (Nat × Nat))[i]?) := by kernel_rfl
@[simp] theorem g14 : aggT Tryz.prog 14 = some true := by kernel_rfl
@[simp] theorem s14 : sizeT Tryz.prog 14 = some 2 := by kernel_rfl
@[simp] theorem z14 : zeroCs Tryz.prog 14 = some [.sc (.string ⟨#[]⟩), .sc (.int .u64 0)] := by kernel_rfl
@[simp] theorem f14_0 : fieldT Tryz.prog 14 0 = some 0 := by kernel_rfl
@[simp] theorem f14_1 : fieldT Tryz.prog 14 1 = some 1 := by kernel_rfl
@[simp] theorem p14 : placeOf Tryz.prog 14 = some (fun i => ([(0, 1), (1, 1)] : List (Nat × Nat))[i]?) := by kernel_rfl
@[simp] theorem g15 : aggT Tryz.prog 15 = some false := by kernel_rfl
@[simp] theorem s15 : sizeT Tryz.prog 15 = some 1 := by kernel_rfl
@[simp] theorem z15 : zeroCs Tryz.prog 15 = some [.sc (.pointer none)] := by kernel_rfl
@[simp] theorem u15 : Tryz.prog.underlying 15 = some (.pointer 163) := by kernel_rfl
@[simp] theorem g16 : aggT Tryz.prog 16 = some false := by kernel_rfl
@[simp] theorem s16 : sizeT Tryz.prog 16 = some 1 := by kernel_rfl
@[simp] theorem z16 : zeroCs Tryz.prog 16 = some [.sc (.pointer none)] := by kernel_rfl
@[simp] theorem u16 : Tryz.prog.underlying 16 = some (.pointer 166) := by kernel_rfl
@[simp] theorem g17 : aggT Tryz.prog 17 = some false := by kernel_rfl
@[simp] theorem s17 : sizeT Tryz.prog 17 = some 1 := by kernel_rfl
@[simp] theorem z17 : zeroCs Tryz.prog 17 = some [.sc (.pointer none)] := by kernel_rfl
@[simp] theorem u17 : Tryz.prog.underlying 17 = some (.pointer 174) := by kernel_rfl
@[simp] theorem g18 : aggT Tryz.prog 18 = some true := by kernel_rfl
@[simp] theorem s18 : sizeT Tryz.prog 18 = some 1 := by kernel_rfl
@[simp] theorem z18 : zeroCs Tryz.prog 18 = some [.sc (.pointer none)] := by kernel_rfl
@[simp] theorem f18_0 : fieldT Tryz.prog 18 0 = some 0 := by kernel_rfl
@[simp] theorem p18 : placeOf Tryz.prog 18 = some (fun i => ([(0, 1)] : List (Nat × Nat))[i]?) := by kernel_rfl
@[simp] theorem g19 : aggT Tryz.prog 19 = some true := by kernel_rfl
@[simp] theorem s19 : sizeT Tryz.prog 19 = some 1 := by kernel_rfl
@[simp] theorem z19 : zeroCs Tryz.prog 19 = some [.sc (.pointer none)] := by kernel_rfl
@[simp] theorem f19_0 : fieldT Tryz.prog 19 0 = some 0 := by kernel_rfl
@[simp] theorem p19 : placeOf Tryz.prog 19 = some (fun i => ([(0, 1)] : List (Nat × Nat))[i]?) := by kernel_rfl
@[simp] theorem g21 : aggT Tryz.prog 21 = some false := by kernel_rfl
@[simp] theorem s21 : sizeT Tryz.prog 21 = some 1 := by kernel_rfl
@[simp] theorem z21 : zeroCs Tryz.prog 21 = some [.sc (.int .i32 0)] := by kernel_rfl
@[simp] theorem u21 : Tryz.prog.underlying 21 = some (.int .i32) := by kernel_rfl
@[simp] theorem g22 : aggT Tryz.prog 22 = some false := by kernel_rfl
@[simp] theorem s22 : sizeT Tryz.prog 22 = some 1 := by kernel_rfl
@[simp] theorem z22 : zeroCs Tryz.prog 22 = some [.nil] := by kernel_rfl
@[simp] theorem e22 : elT Tryz.prog 22 = some (32, 6, 48) := by kernel_rfl
@[simp] theorem u22 : Tryz.prog.underlying 22 = some (.slice 32) := by kernel_rfl
@[simp] theorem g23 : aggT Tryz.prog 23 = some true := by kernel_rfl
@[simp] theorem s23 : sizeT Tryz.prog 23 = some 2 := by kernel_rfl
@[simp] theorem z23 : zeroCs Tryz.prog 23 = some [.sc (.int .i64 0), .sc (.int .i64 0)] := by kernel_rfl
@[simp] theorem f23_0 : fieldT Tryz.prog 23 0 = some 0 := by kernel_rfl
@[simp] theorem f23_1 : fieldT Tryz.prog 23 1 = some 1 := by kernel_rfl
@[simp] theorem p23 : placeOf Tryz.prog 23 = some (fun i => ([(0, 1), (1, 1)] : List (Nat × Nat))[i]?) := by kernel_rfl
@[simp] theorem g24 : aggT Tryz.prog 24 = some true := by kernel_rfl
@[simp] theorem s24 : sizeT Tryz.prog 24 = some 2 := by kernel_rfl
@[simp] theorem z24 : zeroCs Tryz.prog 24 = some [.sc (.int .i64 0), .sc (.int .i64 0)] := by kernel_rfl
@[simp] theorem f24_0 : fieldT Tryz.prog 24 0 = some 0 := by kernel_rfl
@[simp] theorem f24_1 : fieldT Tryz.prog 24 1 = some 1 := by kernel_rfl
@[simp] theorem p24 : placeOf Tryz.prog 24 = some (fun i => ([(0, 1), (1, 1)] : List (Nat × Nat))[i]?) := by kernel_rfl
@[simp] theorem g25 : aggT Tryz.prog 25 = some false := by kernel_rfl
@[simp] theorem s25 : sizeT Tryz.prog 25 = some 1 := by kernel_rfl
@[simp] theorem z25 : zeroCs Tryz.prog 25 = some [.sc (.pointer none)] := by kernel_rfl
@[simp] theorem u25 : Tryz.prog.underlying 25 = some (.pointer 66) := by kernel_rfl
@[simp] theorem g27 : aggT Tryz.prog 27 = some false := by kernel_rfl
@[simp] theorem s27 : sizeT Tryz.prog 27 = some 1 := by kernel_rfl
@[simp] theorem z27 : zeroCs Tryz.prog 27 = some [.sc (.nilFunc)] := by kernel_rfl
@[simp] theorem g28 : aggT Tryz.prog 28 = some false := by kernel_rfl
@[simp] theorem s28 : sizeT Tryz.prog 28 = some 1 := by kernel_rfl
@[simp] theorem z28 : zeroCs Tryz.prog 28 = some [.sc (.nilFunc)] := by kernel_rfl
@[simp] theorem g29 : aggT Tryz.prog 29 = some true := by kernel_rfl
@[simp] theorem s29 : sizeT Tryz.prog 29 = some 4 := by kernel_rfl
@[simp] theorem z29 : zeroCs Tryz.prog 29 = some [.sc (.int .i64 0), .sc (.int .i64 0), .sc (.int .i64 0), .sc (.int .i64 0)] := by kernel_rfl
@[simp] theorem f29_0 : fieldT Tryz.prog 29 0 = some 0 := by kernel_rfl
@[simp] theorem f29_1 : fieldT Tryz.prog 29 1 = some 1 := by kernel_rfl
@[simp] theorem f29_2 : fieldT Tryz.prog 29 2 = some 2 := by kernel_rfl
@[simp] theorem f29_3 : fieldT Tryz.prog 29 3 = some 3 := by kernel_rfl
@[simp] theorem p29 : placeOf Tryz.prog 29 = some (fun i => ([(0, 1), (1, 1), (2, 1), (3, 1)] : List (Nat × Nat))[i]?) := by kernel_rfl
@[simp] theorem g30 : aggT Tryz.prog 30 = some true := by kernel_rfl
@[simp] theorem s30 : sizeT Tryz.prog 30 = some 4 := by kernel_rfl
@[simp] theorem z30 : zeroCs Tryz.prog 30 = some [.sc (.int .i64 0), .sc (.int .i64 0), .sc (.int .i64 0), .sc (.int .i64 0)] := by kernel_rfl
@[simp] theorem f30_0 : fieldT Tryz.prog 30 0 = some 0 := by kernel_rfl
@[simp] theorem f30_1 : fieldT Tryz.prog 30 1 = some 1 := by kernel_rfl
@[simp] theorem f30_2 : fieldT Tryz.prog 30 2 = some 2 := by kernel_rfl
@[simp] theorem f30_3 : fieldT Tryz.prog 30 3 = some 3 := by kernel_rfl
@[simp] theorem p30 : placeOf Tryz.prog 30 = some (fun i => ([(0, 1), (1, 1), (2, 1), (3, 1)] : List (Nat × Nat))[i]?) := by kernel_rfl
@[simp] theorem g31 : aggT Tryz.prog 31 = some true := by kernel_rfl
@[simp] theorem s31 : sizeT Tryz.prog 31 = some 6 := by kernel_rfl
@[simp] theorem z31 : zeroCs Tryz.prog 31 = some [.sc (.int .i64 0), .sc (.int .i64 0), .sc (.int .i64 0), .sc (.int .i64 0), .sc (.int .i64 0), .sc (.int .i64 0)] := by kernel_rfl
@[simp] theorem f31_0 : fieldT Tryz.prog 31 0 = some 0 := by kernel_rfl
@[simp] theorem f31_1 : fieldT Tryz.prog 31 1 = some 1 := by kernel_rfl
@[simp] theorem f31_2 : fieldT Tryz.prog 31 2 = some 5 := by kernel_rfl
@[simp] theorem p31 : placeOf Tryz.prog 31 = some (fun i => ([(0, 1), (1, 4), (5, 1)] : List (Nat × Nat))[i]?) := by kernel_rfl
@[simp] theorem g32 : aggT Tryz.prog 32 = some true := by kernel_rfl
@[simp] theorem s32 : sizeT Tryz.prog 32 = some 6 := by kernel_rfl
@[simp] theorem z32 : zeroCs Tryz.prog 32 = some [.sc (.int .i64 0), .sc (.int .i64 0), .sc (.int .i64 0), .sc (.int .i64 0), .sc (.int .i64 0), .sc (.int .i64 0)] := by kernel_rfl
@[simp] theorem f32_0 : fieldT Tryz.prog 32 0 = some 0 := by kernel_rfl
@[simp] theorem f32_1 : fieldT Tryz.prog 32 1 = some 1 := by kernel_rfl
@[simp] theorem f32_2 : fieldT Tryz.prog 32 2 = some 5 := by kernel_rfl
@[simp] theorem p32 : placeOf Tryz.prog 32 = some (fun i => ([(0, 1), (1, 4), (5, 1)] : List (Nat × Nat))[i]?) := by kernel_rfl
@[simp] theorem g33 : aggT Tryz.prog 33 = some false := by kernel_rfl
@[simp] theorem s33 : sizeT Tryz.prog 33 = some 1 := by kernel_rfl
@[simp] theorem z33 : zeroCs Tryz.prog 33 = some [.sc (.nilFunc)] := by kernel_rfl
@[simp] theorem g34 : aggT Tryz.prog 34 = some false := by kernel_rfl
@[simp] theorem s34 : sizeT Tryz.prog 34 = some 1 := by kernel_rfl
@[simp] theorem z34 : zeroCs Tryz.prog 34 = some [.sc (.nilFunc)] := by kernel_rfl
@[simp] theorem g35 : aggT Tryz.prog 35 = some false := by kernel_rfl
@[simp] theorem s35 : sizeT Tryz.prog 35 = some 1 := by kernel_rfl
@[simp] theorem z35 : zeroCs Tryz.prog 35 = some [.sc (.nilFunc)] := by kernel_rfl
@[simp] theorem g36 : aggT Tryz.prog 36 = some false := by kernel_rfl
@[simp] theorem s36 : sizeT Tryz.prog 36 = some 1 := by kernel_rfl
@[simp] theorem z36 : zeroCs Tryz.prog 36 = some [.sc (.nilFunc)] := by kernel_rfl
@[simp] theorem g37 : aggT Tryz.prog 37 = some false := by kernel_rfl
@[simp] theorem s37 : sizeT Tryz.prog 37 = some 1 := by kernel_rfl
@[simp] theorem z37 : zeroCs Tryz.prog 37 = some [.sc (.nilFunc)] := by kernel_rfl
@[simp] theorem g38 : aggT Tryz.prog 38 = some false := by kernel_rfl
@[simp] theorem s38 : sizeT Tryz.prog 38 = some 1 := by kernel_rfl
@[simp] theorem z38 : zeroCs Tryz.prog 38 = some [.sc (.nilFunc)] := by kernel_rfl
@[simp] theorem g39 : aggT Tryz.prog 39 = some false := by kernel_rfl
@[simp] theorem s39 : sizeT Tryz.prog 39 = some 1 := by kernel_rfl
@[simp] theorem z39 : zeroCs Tryz.prog 39 = some [.sc (.nilFunc)] := by kernel_rfl
@[simp] theorem g41 : aggT Tryz.prog 41 = some false := by kernel_rfl
@[simp] theorem s41 : sizeT Tryz.prog 41 = some 1 := by kernel_rfl
@[simp] theorem z41 : zeroCs Tryz.prog 41 = some [.sc (.nilFunc)] := by kernel_rfl
@[simp] theorem g42 : aggT Tryz.prog 42 = some false := by kernel_rfl
@[simp] theorem s42 : sizeT Tryz.prog 42 = some 1 := by kernel_rfl
@[simp] theorem z42 : zeroCs Tryz.prog 42 = some [.sc (.int .i64 0)] := by kernel_rfl
@[simp] theorem u42 : Tryz.prog.underlying 42 = some (.int .i64) := by kernel_rfl
@[simp] theorem g43 : aggT Tryz.prog 43 = some false := by kernel_rfl
@[simp] theorem s43 : sizeT Tryz.prog 43 = some 1 := by kernel_rfl
@[simp] theorem z43 : zeroCs Tryz.prog 43 = some [.sc (.nilFunc)] := by kernel_rfl
@[simp] theorem g44 : aggT Tryz.prog 44 = some false := by kernel_rfl
@[simp] theorem s44 : sizeT Tryz.prog 44 = some 1 := by kernel_rfl
@[simp] theorem z44 : zeroCs Tryz.prog 44 = some [.sc (.nilFunc)] := by kernel_rfl
@[simp] theorem g45 : aggT Tryz.prog 45 = some false := by kernel_rfl
@[simp] theorem s45 : sizeT Tryz.prog 45 = some 1 := by kernel_rfl
@[simp] theorem z45 : zeroCs Tryz.prog 45 = some [.sc (.nilFunc)] := by kernel_rfl
@[simp] theorem g46 : aggT Tryz.prog 46 = some false := by kernel_rfl
@[simp] theorem s46 : sizeT Tryz.prog 46 = some 1 := by kernel_rfl
@[simp] theorem z46 : zeroCs Tryz.prog 46 = some [.sc (.nilFunc)] := by kernel_rfl
@[simp] theorem g47 : aggT Tryz.prog 47 = some true := by kernel_rfl
@[simp] theorem s47 : sizeT Tryz.prog 47 = some 3 := by kernel_rfl
@[simp] theorem z47 : zeroCs Tryz.prog 47 = some [.sc (.int .i64 0), .sc (.int .i64 0), .sc (.int .i64 0)] := by kernel_rfl
@[simp] theorem f47_0 : fieldT Tryz.prog 47 0 = some 0 := by kernel_rfl
@[simp] theorem f47_1 : fieldT Tryz.prog 47 1 = some 1 := by kernel_rfl
@[simp] theorem f47_2 : fieldT Tryz.prog 47 2 = some 2 := by kernel_rfl
@[simp] theorem p47 : placeOf Tryz.prog 47 = some (fun i => ([(0, 1), (1, 1), (2, 1)] : List (Nat × Nat))[i]?) := by kernel_rfl
@[simp] theorem g48 : aggT Tryz.prog 48 = some true := by kernel_rfl
@[simp] theorem s48 : sizeT Tryz.prog 48 = some 3 := by kernel_rfl
@[simp] theorem z48 : zeroCs Tryz.prog 48 = some [.sc (.int .i64 0), .sc (.int .i64 0), .sc (.int .i64 0)] := by kernel_rfl
@[simp] theorem f48_0 : fieldT Tryz.prog 48 0 = some 0 := by kernel_rfl
@[simp] theorem f48_1 : fieldT Tryz.prog 48 1 = some 1 := by kernel_rfl
@[simp] theorem f48_2 : fieldT Tryz.prog 48 2 = some 2 := by kernel_rfl
@[simp] theorem p48 : placeOf Tryz.prog 48 = some (fun i => ([(0, 1), (1, 1), (2, 1)] : List (Nat × Nat))[i]?) := by kernel_rfl
@[simp] theorem g49 : aggT Tryz.prog 49 = some false := by kernel_rfl
@[simp] theorem s49 : sizeT Tryz.prog 49 = some 1 := by kernel_rfl
@[simp] theorem z49 : zeroCs Tryz.prog 49 = some [.sc (.nilFunc)] := by kernel_rfl
@[simp] theorem g50 : aggT Tryz.prog 50 = some false := by kernel_rfl
@[simp] theorem s50 : sizeT Tryz.prog 50 = some 1 := by kernel_rfl
@[simp] theorem z50 : zeroCs Tryz.prog 50 = some [.sc (.nilFunc)] := by kernel_rfl
@[simp] theorem g51 : aggT Tryz.prog 51 = some false := by kernel_rfl
@[simp] theorem s51 : sizeT Tryz.prog 51 = some 1 := by kernel_rfl
@[simp] theorem z51 : zeroCs Tryz.prog 51 = some [.sc (.nilFunc)] := by kernel_rfl
@[simp] theorem g52 : aggT Tryz.prog 52 = some false := by kernel_rfl
@[simp] theorem s52 : sizeT Tryz.prog 52 = some 1 := by kernel_rfl
@[simp] theorem z52 : zeroCs Tryz.prog 52 = some [.sc (.nilFunc)] := by kernel_rfl
@[simp] theorem g53 : aggT Tryz.prog 53 = some false := by kernel_rfl
@[simp] theorem s53 : sizeT Tryz.prog 53 = some 1 := by kernel_rfl
@[simp] theorem z53 : zeroCs Tryz.prog 53 = some [.sc (.nilFunc)] := by kernel_rfl
@[simp] theorem g54 : aggT Tryz.prog 54 = some false := by kernel_rfl
@[simp] theorem s54 : sizeT Tryz.prog 54 = some 1 := by kernel_rfl
@[simp] theorem z54 : zeroCs Tryz.prog 54 = some [.sc (.nilFunc)] := by kernel_rfl
@[simp] theorem g55 : aggT Tryz.prog 55 = some false := by kernel_rfl
@[simp] theorem s55 : sizeT Tryz.prog 55 = some 1 := by kernel_rfl
@[simp] theorem z55 : zeroCs Tryz.prog 55 = some [.sc (.nilFunc)] := by kernel_rfl
@[simp] theorem g56 : aggT Tryz.prog 56 = some false := by kernel_rfl
@[simp] theorem s56 : sizeT Tryz.prog 56 = some 1 := by kernel_rfl
@[simp] theorem z56 : zeroCs Tryz.prog 56 = some [.sc (.pointer none)] := by kernel_rfl
@[simp] theorem u56 : Tryz.prog.underlying 56 = some (.pointer 61) := by kernel_rfl
@[simp] theorem g57 : aggT Tryz.prog 57 = some false := by kernel_rfl
@[simp] theorem s57 : sizeT Tryz.prog 57 = some 1 := by kernel_rfl
@[simp] theorem z57 : zeroCs Tryz.prog 57 = some [.sc (.pointer none)] := by kernel_rfl
@[simp] theorem u57 : Tryz.prog.underlying 57 = some (.pointer 92) := by kernel_rfl
@[simp] theorem g58 : aggT Tryz.prog 58 = some false := by kernel_rfl
@[simp] theorem s58 : sizeT Tryz.prog 58 = some 1 := by kernel_rfl
@[simp] theorem z58 : zeroCs Tryz.prog 58 = some [.sc (.nilFunc)] := by kernel_rfl
@[simp] theorem g59 : aggT Tryz.prog 59 = some false := by kernel_rfl
@[simp] theorem s59 : sizeT Tryz.prog 59 = some 1 := by kernel_rfl
@[simp] theorem z59 : zeroCs Tryz.prog 59 = some [.nil] := by kernel_rfl
@[simp] theorem e59 : elT Tryz.prog 59 = some (63, 1, 8) := by kernel_rfl
@[simp] theorem u59 : Tryz.prog.underlying 59 = some (.slice 63) := by kernel_rfl
@[simp] theorem g60 : aggT Tryz.prog 60 = some true := by kernel_rfl
@[simp] theorem s60 : sizeT Tryz.prog 60 = some 7 := by kernel_rfl
@[simp] theorem z60 : zeroCs Tryz.prog 60 = some [.sc (.pointer none), .sc (.int .i64 0), .sc (.int .i64 0), .sc (.int .i64 0), .sc (.nilFunc), .nil, .sc (.pointer none)] := by kernel_rfl
@[simp] theorem f60_0 : fieldT Tryz.prog 60 0 = some 0 := by kernel_rfl
@[simp] theorem f60_1 : fieldT Tryz.prog 60 1 = some 1 := by kernel_rfl
@[simp] theorem f60_2 : fieldT Tryz.prog 60 2 = some 3 := by kernel_rfl
@[simp] theorem f60_3 : fieldT Tryz.prog 60 3 = some 4 := by kernel_rfl
@[simp] theorem f60_4 : fieldT Tryz.prog 60 4 = some 5 := by kernel_rfl
@[simp] theorem f60_5 : fieldT Tryz.prog 60 5 = some 6 := by kernel_rfl
@[simp] theorem p60 : placeOf Tryz.prog 60 = some (fun i => ([(0, 1), (1, 2), (3, 1), (4, 1), (5, 1), (6, 1)] : List (Nat × Nat))[i]?) := by kernel_rfl
@[simp] theorem g61 : aggT Tryz.prog 61 = some true := by kernel_rfl
@[simp] theorem s61 : sizeT Tryz.prog 61 = some 7 := by kernel_rfl
@[simp] theorem z61 : zeroCs Tryz.prog 61 = some [.sc (.pointer none), .sc (.int .i64 0), .sc (.int .i64 0), .sc (.int .i64 0), .sc (.nilFunc), .nil, .sc (.pointer none)] := by kernel_rfl
@[simp] theorem f61_0 : fieldT Tryz.prog 61 0 = some 0 := by kernel_rfl
@[simp] theorem f61_1 : fieldT Tryz.prog 61 1 = some 1 := by kernel_rfl
@[simp] theorem f61_2 : fieldT Tryz.prog 61 2 = some 3 := by kernel_rfl
@[simp] theorem f61_3 : fieldT Tryz.prog 61 3 = some 4 := by kernel_rfl
@[simp] theorem f61_4 : fieldT Tryz.prog 61 4 = some 5 := by kernel_rfl
@[simp] theorem f61_5 : fieldT Tryz.prog 61 5 = some 6 := by kernel_rfl
@[simp] theorem p61 : placeOf Tryz.prog 61 = some (fun i => ([(0, 1), (1, 2), (3, 1), (4, 1), (5, 1), (6, 1)] : List (Nat × Nat))[i]?) := by kernel_rfl
@[simp] theorem g62 : aggT Tryz.prog 62 = some false := by kernel_rfl
@[simp] theorem s62 : sizeT Tryz.prog 62 = some 1 := by kernel_rfl
@[simp] theorem z62 : zeroCs Tryz.prog 62 = some [.sc (.nilFunc)] := by kernel_rfl
@[simp] theorem g63 : aggT Tryz.prog 63 = some false := by kernel_rfl
@[simp] theorem s63 : sizeT Tryz.prog 63 = some 1 := by kernel_rfl
@[simp] theorem z63 : zeroCs Tryz.prog 63 = some [.sc (.pointer none)] := by kernel_rfl
@[simp] theorem u63 : Tryz.prog.underlying 63 = some (.pointer 82) := by kernel_rfl
@[simp] theorem g64 : aggT Tryz.prog 64 = some false := by kernel_rfl
@[simp] theorem s64 : sizeT Tryz.prog 64 = some 1 := by kernel_rfl
@[simp] theorem z64 : zeroCs Tryz.prog 64 = some [.sc (.map none)] := by kernel_rfl
@[simp] theorem u64 : Tryz.prog.underlying 64 = some (.map 3 32) := by kernel_rfl
@[simp] theorem g65 : aggT Tryz.prog 65 = some true := by kernel_rfl
@[simp] theorem s65 : sizeT Tryz.prog 65 = some 2 := by kernel_rfl
@[simp] theorem z65 : zeroCs Tryz.prog 65 = some [.sc (.pointer none), .sc (.map none)] := by kernel_rfl
@[simp] theorem f65_0 : fieldT Tryz.prog 65 0 = some 0 := by kernel_rfl
@[simp] theorem f65_1 : fieldT Tryz.prog 65 1 = some 1 := by kernel_rfl
@[simp] theorem p65 : placeOf Tryz.prog 65 = some (fun i => ([(0, 1), (1, 1)] : List (Nat × Nat))[i]?) := by kernel_rfl
@[simp] theorem g66 : aggT Tryz.prog 66 = some true := by kernel_rfl
@[simp] theorem s66 : sizeT Tryz.prog 66 = some 2 := by kernel_rfl
@[simp] theorem z66 : zeroCs Tryz.prog 66 = some [.sc (.pointer none), .sc (.map none)] := by kernel_rfl
@[simp] theorem f66_0 : fieldT Tryz.prog 66 0 = some 0 := by kernel_rfl
@[simp] theorem f66_1 : fieldT Tryz.prog 66 1 = some 1 := by kernel_rfl
@[simp] theorem p66 : placeOf Tryz.prog 66 = some (fun i => ([(0, 1), (1, 1)] : List (Nat × Nat))[i]?) := by kernel_rfl
@[simp] theorem g67 : aggT Tryz.prog 67 = some false := by kernel_rfl
@[simp] theorem s67 : sizeT Tryz.prog 67 = some 1 := by kernel_rfl
@[simp] theorem z67 : zeroCs Tryz.prog 67 = some [.sc (.int .u64 0)] := by kernel_rfl
@[simp] theorem u67 : Tryz.prog.underlying 67 = some (.int .u64) := by kernel_rfl
@[simp] theorem g68 : aggT Tryz.prog 68 = some true := by kernel_rfl
@[simp] theorem s68 : sizeT Tryz.prog 68 = some 3 := by kernel_rfl
@[simp] theorem z68 : zeroCs Tryz.prog 68 = some [.sc (.int .u64 0), .sc (.int .u64 0), .sc (.int .i64 0)] := by kernel_rfl
@[simp] theorem f68_0 : fieldT Tryz.prog 68 0 = some 0 := by kernel_rfl
@[simp] theorem f68_1 : fieldT Tryz.prog 68 1 = some 1 := by kernel_rfl
@[simp] theorem f68_2 : fieldT Tryz.prog 68 2 = some 2 := by kernel_rfl
@[simp] theorem p68 : placeOf Tryz.prog 68 = some (fun i => ([(0, 1), (1, 1), (2, 1)] : List (Nat × Nat))[i]?) := by kernel_rfl
@[simp] theorem g69 : aggT Tryz.prog 69 = some true := by kernel_rfl
@[simp] theorem s69 : sizeT Tryz.prog 69 = some 3 := by kernel_rfl
@[simp] theorem z69 : zeroCs Tryz.prog 69 = some [.sc (.int .u64 0), .sc (.int .u64 0), .sc (.int .i64 0)] := by kernel_rfl
@[simp] theorem f69_0 : fieldT Tryz.prog 69 0 = some 0 := by kernel_rfl
@[simp] theorem f69_1 : fieldT Tryz.prog 69 1 = some 1 := by kernel_rfl
@[simp] theorem f69_2 : fieldT Tryz.prog 69 2 = some 2 := by kernel_rfl
@[simp] theorem p69 : placeOf Tryz.prog 69 = some (fun i => ([(0, 1), (1, 1), (2, 1)] : List (Nat × Nat))[i]?) := by kernel_rfl
@[simp] theorem g71 : aggT Tryz.prog 71 = some false := by kernel_rfl
@[simp] theorem s71 : sizeT Tryz.prog 71 = some 1 := by kernel_rfl
@[simp] theorem z71 : zeroCs Tryz.prog 71 = some [.sc (.nilFunc)] := by kernel_rfl
@[simp] theorem g72 : aggT Tryz.prog 72 = some false := by kernel_rfl
@[simp] theorem s72 : sizeT Tryz.prog 72 = some 1 := by kernel_rfl
@[simp] theorem z72 : zeroCs Tryz.prog 72 = some [.sc (.nilFunc)] := by kernel_rfl
@[simp] theorem g73 : aggT Tryz.prog 73 = some false := by kernel_rfl
@[simp] theorem s73 : sizeT Tryz.prog 73 = some 1 := by kernel_rfl
@[simp] theorem z73 : zeroCs Tryz.prog 73 = some [.sc (.nilFunc)] := by kernel_rfl
@[simp] theorem g74 : aggT Tryz.prog 74 = some false := by kernel_rfl
@[simp] theorem s74 : sizeT Tryz.prog 74 = some 1 := by kernel_rfl
@[simp] theorem z74 : zeroCs Tryz.prog 74 = some [.sc (.nilFunc)] := by kernel_rfl
@[simp] theorem g76 : aggT Tryz.prog 76 = some false := by kernel_rfl
@[simp] theorem s76 : sizeT Tryz.prog 76 = some 1 := by kernel_rfl
@[simp] theorem z76 : zeroCs Tryz.prog 76 = some [.sc (.nilFunc)] := by kernel_rfl
@[simp] theorem g77 : aggT Tryz.prog 77 = some false := by kernel_rfl
@[simp] theorem s77 : sizeT Tryz.prog 77 = some 1 := by kernel_rfl
@[simp] theorem z77 : zeroCs Tryz.prog 77 = some [.sc (.nilFunc)] := by kernel_rfl
@[simp] theorem g78 : aggT Tryz.prog 78 = some false := by kernel_rfl
@[simp] theorem s78 : sizeT Tryz.prog 78 = some 1 := by kernel_rfl
@[simp] theorem z78 : zeroCs Tryz.prog 78 = some [.sc (.nilFunc)] := by kernel_rfl
@[simp] theorem g79 : aggT Tryz.prog 79 = some false := by kernel_rfl
@[simp] theorem s79 : sizeT Tryz.prog 79 = some 1 := by kernel_rfl
@[simp] theorem z79 : zeroCs Tryz.prog 79 = some [.sc (.nilFunc)] := by kernel_rfl
@[simp] theorem g80 : aggT Tryz.prog 80 = some true := by kernel_rfl
@[simp] theorem s80 : sizeT Tryz.prog 80 = some 4 := by kernel_rfl
@[simp] theorem z80 : zeroCs Tryz.prog 80 = some [.sc (.pointer none), .sc (.pointer none), .sc (.pointer none), .sc (.pointer none)] := by kernel_rfl
@[simp] theorem p80 : placeOf Tryz.prog 80 = some (fun i => some (i * 1, 1)) := by kernel_rfl
@[simp] theorem u80 : Tryz.prog.underlying 80 = some (.array 4 63) := by kernel_rfl
@[simp] theorem g81 : aggT Tryz.prog 81 = some true := by kernel_rfl
@[simp] theorem s81 : sizeT Tryz.prog 81 = some 9 := by kernel_rfl
@[simp] theorem z81 : zeroCs Tryz.prog 81 = some [.sc (.int .i64 0), .sc (.int .i64 0), .sc (.int .i64 0), .sc (.pointer none), .sc (.pointer none), .sc (.pointer none), .sc (.pointer none), .sc (.int .i64 0), .sc (.map none)] := by kernel_rfl
@[simp] theorem f81_0 : fieldT Tryz.prog 81 0 = some 0 := by kernel_rfl
@[simp] theorem f81_1 : fieldT Tryz.prog 81 1 = some 3 := by kernel_rfl
@[simp] theorem f81_2 : fieldT Tryz.prog 81 2 = some 7 := by kernel_rfl
@[simp] theorem f81_3 : fieldT Tryz.prog 81 3 = some 8 := by kernel_rfl
@[simp] theorem p81 : placeOf Tryz.prog 81 = some (fun i => ([(0, 3), (3, 4), (7, 1), (8, 1)] : List (Nat × Nat))[i]?) := by kernel_rfl
@[simp] theorem g82 : aggT Tryz.prog 82 = some true := by kernel_rfl
@[simp] theorem s82 : sizeT Tryz.prog 82 = some 9 := by kernel_rfl
@[simp] theorem z82 : zeroCs Tryz.prog 82 = some [.sc (.int .i64 0), .sc (.int .i64 0), .sc (.int .i64 0), .sc (.pointer none), .sc (.pointer none), .sc (.pointer none), .sc (.pointer none), .sc (.int .i64 0), .sc (.map none)] := by kernel_rfl
@[simp] theorem f82_0 : fieldT Tryz.prog 82 0 = some 0 := by kernel_rfl
@[simp] theorem f82_1 : fieldT Tryz.prog 82 1 = some 3 := by kernel_rfl
@[simp] theorem f82_2 : fieldT Tryz.prog 82 2 = some 7 := by kernel_rfl
@[simp] theorem f82_3 : fieldT Tryz.prog 82 3 = some 8 := by kernel_rfl
@[simp] theorem p82 : placeOf Tryz.prog 82 = some (fun i => ([(0, 3), (3, 4), (7, 1), (8, 1)] : List (Nat × Nat))[i]?) := by kernel_rfl
@[simp] theorem g83 : aggT Tryz.prog 83 = some false := by kernel_rfl
@[simp] theorem s83 : sizeT Tryz.prog 83 = some 1 := by kernel_rfl
@[simp] theorem z83 : zeroCs Tryz.prog 83 = some [.sc (.nilFunc)] := by kernel_rfl
@[simp] theorem g84 : aggT Tryz.prog 84 = some false := by kernel_rfl
@[simp] theorem s84 : sizeT Tryz.prog 84 = some 1 := by kernel_rfl
@[simp] theorem z84 : zeroCs Tryz.prog 84 = some [.sc (.nilFunc)] := by kernel_rfl
@[simp] theorem g85 : aggT Tryz.prog 85 = some false := by kernel_rfl
@[simp] theorem s85 : sizeT Tryz.prog 85 = some 1 := by kernel_rfl
@[simp] theorem z85 : zeroCs Tryz.prog 85 = some [.sc (.nilFunc)] := by kernel_rfl
@[simp] theorem g86 : aggT Tryz.prog 86 = some false := by kernel_rfl
@[simp] theorem s86 : sizeT Tryz.prog 86 = some 1 := by kernel_rfl
@[simp] theorem z86 : zeroCs Tryz.prog 86 = some [.sc (.nilFunc)] := by kernel_rfl
@[simp] theorem g87 : aggT Tryz.prog 87 = some false := by kernel_rfl
@[simp] theorem s87 : sizeT Tryz.prog 87 = some 1 := by kernel_rfl
@[simp] theorem z87 : zeroCs Tryz.prog 87 = some [.sc (.nilFunc)] := by kernel_rfl
@[simp] theorem g88 : aggT Tryz.prog 88 = some false := by kernel_rfl
@[simp] theorem s88 : sizeT Tryz.prog 88 = some 1 := by kernel_rfl
@[simp] theorem z88 : zeroCs Tryz.prog 88 = some [.nil] := by kernel_rfl
@[simp] theorem e88 : elT Tryz.prog 88 = some (69, 3, 24) := by kernel_rfl
@[simp] theorem u88 : Tryz.prog.underlying 88 = some (.slice 69) := by kernel_rfl
@[simp] theorem g89 : aggT Tryz.prog 89 = some true := by kernel_rfl
@[simp] theorem s89 : sizeT Tryz.prog 89 = some 1 := by kernel_rfl
@[simp] theorem z89 : zeroCs Tryz.prog 89 = some [.nil] := by kernel_rfl
@[simp] theorem f89_0 : fieldT Tryz.prog 89 0 = some 0 := by kernel_rfl
@[simp] theorem p89 : placeOf Tryz.prog 89 = some (fun i => ([(0, 1)] : List (Nat × Nat))[i]?) := by kernel_rfl
@[simp] theorem g90 : aggT Tryz.prog 90 = some true := by kernel_rfl
@[simp] theorem s90 : sizeT Tryz.prog 90 = some 1 := by kernel_rfl
@[simp] theorem z90 : zeroCs Tryz.prog 90 = some [.nil] := by kernel_rfl
@[simp] theorem f90_0 : fieldT Tryz.prog 90 0 = some 0 := by kernel_rfl
@[simp] theorem p90 : placeOf Tryz.prog 90 = some (fun i => ([(0, 1)] : List (Nat × Nat))[i]?) := by kernel_rfl
@[simp] theorem g91 : aggT Tryz.prog 91 = some true := by kernel_rfl
@[simp] theorem s91 : sizeT Tryz.prog 91 = some 1 := by kernel_rfl
@[simp] theorem z91 : zeroCs Tryz.prog 91 = some [.nil] := by kernel_rfl
@[simp] theorem f91_0 : fieldT Tryz.prog 91 0 = some 0 := by kernel_rfl
@[simp] theorem p91 : placeOf Tryz.prog 91 = some (fun i => ([(0, 1)] : List (Nat × Nat))[i]?) := by kernel_rfl
@[simp] theorem g92 : aggT Tryz.prog 92 = some true := by kernel_rfl
@[simp] theorem s92 : sizeT Tryz.prog 92 = some 1 := by kernel_rfl
@[simp] theorem z92 : zeroCs Tryz.prog 92 = some [.nil] := by kernel_rfl
@[simp] theorem f92_0 : fieldT Tryz.prog 92 0 = some 0 := by kernel_rfl
@[simp] theorem p92 : placeOf Tryz.prog 92 = some (fun i => ([(0, 1)] : List (Nat × Nat))[i]?) := by kernel_rfl
@[simp] theorem g94 : aggT Tryz.prog 94 = some false := by kernel_rfl
@[simp] theorem s94 : sizeT Tryz.prog 94 = some 1 := by kernel_rfl
@[simp] theorem z94 : zeroCs Tryz.prog 94 = some [.sc (.nilFunc)] := by kernel_rfl
@[simp] theorem g95 : aggT Tryz.prog 95 = some false := by kernel_rfl
@[simp] theorem s95 : sizeT Tryz.prog 95 = some 1 := by kernel_rfl
@[simp] theorem z95 : zeroCs Tryz.prog 95 = some [.sc (.nilFunc)] := by kernel_rfl
@[simp] theorem g96 : aggT Tryz.prog 96 = some false := by kernel_rfl
@[simp] theorem s96 : sizeT Tryz.prog 96 = some 1 := by kernel_rfl
@[simp] theorem z96 : zeroCs Tryz.prog 96 = some [.sc (.nilFunc)] := by kernel_rfl
@[simp] theorem g97 : aggT Tryz.prog 97 = some false := by kernel_rfl
@[simp] theorem s97 : sizeT Tryz.prog 97 = some 1 := by kernel_rfl
@[simp] theorem z97 : zeroCs Tryz.prog 97 = some [.sc (.nilFunc)] := by kernel_rfl
@[simp] theorem g98 : aggT Tryz.prog 98 = some false := by kernel_rfl
@[simp] theorem s98 : sizeT Tryz.prog 98 = some 1 := by kernel_rfl
@[simp] theorem z98 : zeroCs Tryz.prog 98 = some [.sc (.pointer none)] := by kernel_rfl
@[simp] theorem u98 : Tryz.prog.underlying 98 = some (.pointer 90) := by kernel_rfl
@[simp] theorem g99 : aggT Tryz.prog 99 = some false := by kernel_rfl
@[simp] theorem s99 : sizeT Tryz.prog 99 = some 1 := by kernel_rfl
@[simp] theorem z99 : zeroCs Tryz.prog 99 = some [.sc (.nilFunc)] := by kernel_rfl
@[simp] theorem g100 : aggT Tryz.prog 100 = some false := by kernel_rfl
@[simp] theorem s100 : sizeT Tryz.prog 100 = some 1 := by kernel_rfl
@[simp] theorem z100 : zeroCs Tryz.prog 100 = some [.sc (.nilFunc)] := by kernel_rfl
@[simp] theorem g101 : aggT Tryz.prog 101 = some false := by kernel_rfl
@[simp] theorem s101 : sizeT Tryz.prog 101 = some 1 := by kernel_rfl
@[simp] theorem z101 : zeroCs Tryz.prog 101 = some [.sc (.nilFunc)] := by kernel_rfl
@[simp] theorem g102 : aggT Tryz.prog 102 = some false := by kernel_rfl
@[simp] theorem s102 : sizeT Tryz.prog 102 = some 1 := by kernel_rfl
@[simp] theorem z102 : zeroCs Tryz.prog 102 = some [.sc (.nilFunc)] := by kernel_rfl
@[simp] theorem g103 : aggT Tryz.prog 103 = some false := by kernel_rfl
@[simp] theorem s103 : sizeT Tryz.prog 103 = some 1 := by kernel_rfl
@[simp] theorem z103 : zeroCs Tryz.prog 103 = some [.sc (.nilFunc)] := by kernel_rfl
@[simp] theorem g104 : aggT Tryz.prog 104 = some false := by kernel_rfl
@[simp] theorem s104 : sizeT Tryz.prog 104 = some 1 := by kernel_rfl
@[simp] theorem z104 : zeroCs Tryz.prog 104 = some [.sc (.nilFunc)] := by kernel_rfl
@[simp] theorem g105 : aggT Tryz.prog 105 = some false := by kernel_rfl
@[simp] theorem s105 : sizeT Tryz.prog 105 = some 1 := by kernel_rfl
@[simp] theorem z105 : zeroCs Tryz.prog 105 = some [.sc (.nilFunc)] := by kernel_rfl
@[simp] theorem g106 : aggT Tryz.prog 106 = some false := by kernel_rfl
@[simp] theorem s106 : sizeT Tryz.prog 106 = some 1 := by kernel_rfl
@[simp] theorem z106 : zeroCs Tryz.prog 106 = some [.sc (.nilFunc)] := by kernel_rfl
@[simp] theorem g107 : aggT Tryz.prog 107 = some false := by kernel_rfl
@[simp] theorem s107 : sizeT Tryz.prog 107 = some 1 := by kernel_rfl
@[simp] theorem z107 : zeroCs Tryz.prog 107 = some [.sc (.nilFunc)] := by kernel_rfl
@[simp] theorem g108 : aggT Tryz.prog 108 = some true := by kernel_rfl
@[simp] theorem s108 : sizeT Tryz.prog 108 = some 4 := by kernel_rfl
@[simp] theorem z108 : zeroCs Tryz.prog 108 = some [.sc (.int .i64 0), .sc (.int .i64 0), .sc (.int .i64 0), .sc (.int .i64 0)] := by kernel_rfl
@[simp] theorem f108_0 : fieldT Tryz.prog 108 0 = some 0 := by kernel_rfl
@[simp] theorem f108_1 : fieldT Tryz.prog 108 1 = some 1 := by kernel_rfl
@[simp] theorem f108_2 : fieldT Tryz.prog 108 2 = some 2 := by kernel_rfl
@[simp] theorem f108_3 : fieldT Tryz.prog 108 3 = some 3 := by kernel_rfl
@[simp] theorem p108 : placeOf Tryz.prog 108 = some (fun i => ([(0, 1), (1, 1), (2, 1), (3, 1)] : List (Nat × Nat))[i]?) := by kernel_rfl
@[simp] theorem g109 : aggT Tryz.prog 109 = some false := by kernel_rfl
@[simp] theorem s109 : sizeT Tryz.prog 109 = some 1 := by kernel_rfl
@[simp] theorem z109 : zeroCs Tryz.prog 109 = some [.sc (.int .i64 0)] := by kernel_rfl
@[simp] theorem u109 : Tryz.prog.underlying 109 = some (.int .i64) := by kernel_rfl
@[simp] theorem g111 : aggT Tryz.prog 111 = some false := by kernel_rfl
@[simp] theorem s111 : sizeT Tryz.prog 111 = some 1 := by kernel_rfl
@[simp] theorem z111 : zeroCs Tryz.prog 111 = some [.sc (.nilFunc)] := by kernel_rfl
@[simp] theorem g112 : aggT Tryz.prog 112 = some false := by kernel_rfl
@[simp] theorem s112 : sizeT Tryz.prog 112 = some 1 := by kernel_rfl
@[simp] theorem z112 : zeroCs Tryz.prog 112 = some [.sc (.nilFunc)] := by kernel_rfl
@[simp] theorem g113 : aggT Tryz.prog 113 = some false := by kernel_rfl
@[simp] theorem s113 : sizeT Tryz.prog 113 = some 1 := by kernel_rfl
@[simp] theorem z113 : zeroCs Tryz.prog 113 = some [.sc (.nilFunc)] := by kernel_rfl
@[simp] theorem g116 : aggT Tryz.prog 116 = some false := by kernel_rfl
@[simp] theorem s116 : sizeT Tryz.prog 116 = some 1 := by kernel_rfl
@[simp] theorem z116 : zeroCs Tryz.prog 116 = some [.sc (.nilFunc)] := by kernel_rfl
@[simp] theorem g117 : aggT Tryz.prog 117 = some false := by kernel_rfl
@[simp] theorem s117 : sizeT Tryz.prog 117 = some 1 := by kernel_rfl
@[simp] theorem z117 : zeroCs Tryz.prog 117 = some [.sc (.nilFunc)] := by kernel_rfl
@[simp] theorem g118 : aggT Tryz.prog 118 = some false := by kernel_rfl
@[simp] theorem s118 : sizeT Tryz.prog 118 = some 1 := by kernel_rfl
@[simp] theorem z118 : zeroCs Tryz.prog 118 = some [.sc (.nilFunc)] := by kernel_rfl
@[simp] theorem g119 : aggT Tryz.prog 119 = some false := by kernel_rfl
@[simp] theorem s119 : sizeT Tryz.prog 119 = some 1 := by kernel_rfl
@[simp] theorem z119 : zeroCs Tryz.prog 119 = some [.sc (.nilFunc)] := by kernel_rfl
@[simp] theorem g121 : aggT Tryz.prog 121 = some false := by kernel_rfl
@[simp] theorem s121 : sizeT Tryz.prog 121 = some 1 := by kernel_rfl
@[simp] theorem z121 : zeroCs Tryz.prog 121 = some [.sc (.int .u64 0)] := by kernel_rfl
@[simp] theorem u121 : Tryz.prog.underlying 121 = some (.int .u64) := by kernel_rfl
@[simp] theorem g122 : aggT Tryz.prog 122 = some true := by kernel_rfl
@[simp] theorem s122 : sizeT Tryz.prog 122 = some 3 := by kernel_rfl
@[simp] theorem z122 : zeroCs Tryz.prog 122 = some [.sc (.pointer none), .sc (.pointer none), .sc (.int .u64 0)] := by kernel_rfl
@[simp] theorem f122_0 : fieldT Tryz.prog 122 0 = some 0 := by kernel_rfl
@[simp] theorem f122_1 : fieldT Tryz.prog 122 1 = some 1 := by kernel_rfl
@[simp] theorem f122_2 : fieldT Tryz.prog 122 2 = some 2 := by kernel_rfl
@[simp] theorem p122 : placeOf Tryz.prog 122 = some (fun i => ([(0, 1), (1, 1), (2, 1)] : List (Nat × Nat))[i]?) := by kernel_rfl
@[simp] theorem g123 : aggT Tryz.prog 123 = some true := by kernel_rfl
@[simp] theorem s123 : sizeT Tryz.prog 123 = some 3 := by kernel_rfl
@[simp] theorem z123 : zeroCs Tryz.prog 123 = some [.sc (.pointer none), .sc (.pointer none), .sc (.int .u64 0)] := by kernel_rfl
@[simp] theorem f123_0 : fieldT Tryz.prog 123 0 = some 0 := by kernel_rfl
@[simp] theorem f123_1 : fieldT Tryz.prog 123 1 = some 1 := by kernel_rfl
@[simp] theorem f123_2 : fieldT Tryz.prog 123 2 = some 2 := by kernel_rfl
@[simp] theorem p123 : placeOf Tryz.prog 123 = some (fun i => ([(0, 1), (1, 1), (2, 1)] : List (Nat × Nat))[i]?) := by kernel_rfl
@[simp] theorem g124 : aggT Tryz.prog 124 = some false := by kernel_rfl
@[simp] theorem s124 : sizeT Tryz.prog 124 = some 1 := by kernel_rfl
@[simp] theorem z124 : zeroCs Tryz.prog 124 = some [.sc (.nilFunc)] := by kernel_rfl
@[simp] theorem g125 : aggT Tryz.prog 125 = some false := by kernel_rfl
@[simp] theorem s125 : sizeT Tryz.prog 125 = some 1 := by kernel_rfl
@[simp] theorem z125 : zeroCs Tryz.prog 125 = some [.sc (.nilFunc)] := by kernel_rfl
@[simp] theorem g126 : aggT Tryz.prog 126 = some false := by kernel_rfl
@[simp] theorem s126 : sizeT Tryz.prog 126 = some 1 := by kernel_rfl
@[simp] theorem z126 : zeroCs Tryz.prog 126 = some [.sc (.nilFunc)] := by kernel_rfl
@[simp] theorem g127 : aggT Tryz.prog 127 = some false := by kernel_rfl
@[simp] theorem s127 : sizeT Tryz.prog 127 = some 1 := by kernel_rfl
@[simp] theorem z127 : zeroCs Tryz.prog 127 = some [.sc (.int .u64 0)] := by kernel_rfl
@[simp] theorem u127 : Tryz.prog.underlying 127 = some (.int .u64) := by kernel_rfl
@[simp] theorem g128 : aggT Tryz.prog 128 = some false := by kernel_rfl
@[simp] theorem s128 : sizeT Tryz.prog 128 = some 1 := by kernel_rfl
@[simp] theorem z128 : zeroCs Tryz.prog 128 = some [.sc (.nilFunc)] := by kernel_rfl
@[simp] theorem g129 : aggT Tryz.prog 129 = some true := by kernel_rfl
@[simp] theorem s129 : sizeT Tryz.prog 129 = some 2 := by kernel_rfl
@[simp] theorem z129 : zeroCs Tryz.prog 129 = some [.sc (.nilFunc), .sc (.nilFunc)] := by kernel_rfl
@[simp] theorem f129_0 : fieldT Tryz.prog 129 0 = some 0 := by kernel_rfl
@[simp] theorem f129_1 : fieldT Tryz.prog 129 1 = some 1 := by kernel_rfl
@[simp] theorem p129 : placeOf Tryz.prog 129 = some (fun i => ([(0, 1), (1, 1)] : List (Nat × Nat))[i]?) := by kernel_rfl
@[simp] theorem g130 : aggT Tryz.prog 130 = some true := by kernel_rfl
@[simp] theorem s130 : sizeT Tryz.prog 130 = some 2 := by kernel_rfl
@[simp] theorem z130 : zeroCs Tryz.prog 130 = some [.sc (.nilFunc), .sc (.nilFunc)] := by kernel_rfl
@[simp] theorem f130_0 : fieldT Tryz.prog 130 0 = some 0 := by kernel_rfl
@[simp] theorem f130_1 : fieldT Tryz.prog 130 1 = some 1 := by kernel_rfl
@[simp] theorem p130 : placeOf Tryz.prog 130 = some (fun i => ([(0, 1), (1, 1)] : List (Nat × Nat))[i]?) := by kernel_rfl
@[simp] theorem g131 : aggT Tryz.prog 131 = some false := by kernel_rfl
@[simp] theorem s131 : sizeT Tryz.prog 131 = some 1 := by kernel_rfl
@[simp] theorem z131 : zeroCs Tryz.prog 131 = some [.sc (.nilFunc)] := by kernel_rfl
@[simp] theorem g132 : aggT Tryz.prog 132 = some false := by kernel_rfl
@[simp] theorem s132 : sizeT Tryz.prog 132 = some 1 := by kernel_rfl
@[simp] theorem z132 : zeroCs Tryz.prog 132 = some [.sc (.nilFunc)] := by kernel_rfl
@[simp] theorem g133 : aggT Tryz.prog 133 = some false := by kernel_rfl
@[simp] theorem s133 : sizeT Tryz.prog 133 = some 1 := by kernel_rfl
@[simp] theorem z133 : zeroCs Tryz.prog 133 = some [.sc (.nilFunc)] := by kernel_rfl
@[simp] theorem g134 : aggT Tryz.prog 134 = some false := by kernel_rfl
@[simp] theorem s134 : sizeT Tryz.prog 134 = some 1 := by kernel_rfl
@[simp] theorem z134 : zeroCs Tryz.prog 134 = some [.sc (.nilFunc)] := by kernel_rfl
@[simp] theorem g135 : aggT Tryz.prog 135 = some false := by kernel_rfl
@[simp] theorem s135 : sizeT Tryz.prog 135 = some 1 := by kernel_rfl
@[simp] theorem z135 : zeroCs Tryz.prog 135 = some [.sc (.nilFunc)] := by kernel_rfl
@[simp] theorem g136 : aggT Tryz.prog 136 = some false := by kernel_rfl
@[simp] theorem s136 : sizeT Tryz.prog 136 = some 1 := by kernel_rfl
@[simp] theorem z136 : zeroCs Tryz.prog 136 = some [.sc (.nilFunc)] := by kernel_rfl
@[simp] theorem g137 : aggT Tryz.prog 137 = some true := by kernel_rfl
@[simp] theorem s137 : sizeT Tryz.prog 137 = some 1 := by kernel_rfl
@[simp] theorem z137 : zeroCs Tryz.prog 137 = some [.sc (.pointer none)] := by kernel_rfl
@[simp] theorem f137_0 : fieldT Tryz.prog 137 0 = some 0 := by kernel_rfl
@[simp] theorem p137 : placeOf Tryz.prog 137 = some (fun i => ([(0, 1)] : List (Nat × Nat))[i]?) := by kernel_rfl
@[simp] theorem g138 : aggT Tryz.prog 138 = some true := by kernel_rfl
@[simp] theorem s138 : sizeT Tryz.prog 138 = some 1 := by kernel_rfl
@[simp] theorem z138 : zeroCs Tryz.prog 138 = some [.sc (.pointer none)] := by kernel_rfl
@[simp] theorem f138_0 : fieldT Tryz.prog 138 0 = some 0 := by kernel_rfl
@[simp] theorem p138 : placeOf Tryz.prog 138 = some (fun i => ([(0, 1)] : List (Nat × Nat))[i]?) := by kernel_rfl
@[simp] theorem g139 : aggT Tryz.prog 139 = some false := by kernel_rfl
@[simp] theorem s139 : sizeT Tryz.prog 139 = some 1 := by kernel_rfl
@[simp] theorem z139 : zeroCs Tryz.prog 139 = some [.sc (.pointer none)] := by kernel_rfl
@[simp] theorem u139 : Tryz.prog.underlying 139 = some (.pointer 177) := by kernel_rfl
@[simp] theorem g140 : aggT Tryz.prog 140 = some false := by kernel_rfl
@[simp] theorem s140 : sizeT Tryz.prog 140 = some 1 := by kernel_rfl
@[simp] theorem z140 : zeroCs Tryz.prog 140 = some [.sc (.nilFunc)] := by kernel_rfl
@[simp] theorem g141 : aggT Tryz.prog 141 = some false := by kernel_rfl
@[simp] theorem s141 : sizeT Tryz.prog 141 = some 1 := by kernel_rfl
@[simp] theorem z141 : zeroCs Tryz.prog 141 = some [.sc (.int .u32 0)] := by kernel_rfl
@[simp] theorem u141 : Tryz.prog.underlying 141 = some (.int .u32) := by kernel_rfl
@[simp] theorem g142 : aggT Tryz.prog 142 = some false := by kernel_rfl
@[simp] theorem s142 : sizeT Tryz.prog 142 = some 1 := by kernel_rfl
@[simp] theorem z142 : zeroCs Tryz.prog 142 = some [.sc (.nilFunc)] := by kernel_rfl
@[simp] theorem g143 : aggT Tryz.prog 143 = some false := by kernel_rfl
@[simp] theorem s143 : sizeT Tryz.prog 143 = some 1 := by kernel_rfl
@[simp] theorem z143 : zeroCs Tryz.prog 143 = some [.sc (.nilFunc)] := by kernel_rfl
@[simp] theorem g144 : aggT Tryz.prog 144 = some false := by kernel_rfl
@[simp] theorem s144 : sizeT Tryz.prog 144 = some 1 := by kernel_rfl
@[simp] theorem z144 : zeroCs Tryz.prog 144 = some [.sc (.int .i64 0)] := by kernel_rfl
@[simp] theorem u144 : Tryz.prog.underlying 144 = some (.int .i64) := by kernel_rfl
@[simp] theorem g146 : aggT Tryz.prog 146 = some false := by kernel_rfl
@[simp] theorem s146 : sizeT Tryz.prog 146 = some 1 := by kernel_rfl
@[simp] theorem z146 : zeroCs Tryz.prog 146 = some [.sc (.nilFunc)] := by kernel_rfl
@[simp] theorem g147 : aggT Tryz.prog 147 = some false := by kernel_rfl
@[simp] theorem s147 : sizeT Tryz.prog 147 = some 1 := by kernel_rfl
@[simp] theorem z147 : zeroCs Tryz.prog 147 = some [.sc (.nilFunc)] := by kernel_rfl
@[simp] theorem g148 : aggT Tryz.prog 148 = some false := by kernel_rfl
@[simp] theorem s148 : sizeT Tryz.prog 148 = some 1 := by kernel_rfl
@[simp] theorem z148 : zeroCs Tryz.prog 148 = some [.sc (.nilFunc)] := by kernel_rfl
@[simp] theorem g150 : aggT Tryz.prog 150 = some false := by kernel_rfl
@[simp] theorem s150 : sizeT Tryz.prog 150 = some 1 := by kernel_rfl
@[simp] theorem z150 : zeroCs Tryz.prog 150 = some [.sc (.nilFunc)] := by kernel_rfl
@[simp] theorem g151 : aggT Tryz.prog 151 = some false := by kernel_rfl
@[simp] theorem s151 : sizeT Tryz.prog 151 = some 1 := by kernel_rfl
@[simp] theorem z151 : zeroCs Tryz.prog 151 = some [.sc (.nilFunc)] := by kernel_rfl
@[simp] theorem g152 : aggT Tryz.prog 152 = some false := by kernel_rfl
@[simp] theorem s152 : sizeT Tryz.prog 152 = some 1 := by kernel_rfl
@[simp] theorem z152 : zeroCs Tryz.prog 152 = some [.sc (.nilFunc)] := by kernel_rfl
@[simp] theorem g153 : aggT Tryz.prog 153 = some false := by kernel_rfl
@[simp] theorem s153 : sizeT Tryz.prog 153 = some 1 := by kernel_rfl
@[simp] theorem z153 : zeroCs Tryz.prog 153 = some [.sc (.int .u64 0)] := by kernel_rfl
@[simp] theorem u153 : Tryz.prog.underlying 153 = some (.int .u64) := by kernel_rfl
@[simp] theorem g154 : aggT Tryz.prog 154 = some false := by kernel_rfl
@[simp] theorem s154 : sizeT Tryz.prog 154 = some 1 := by kernel_rfl
@[simp] theorem z154 : zeroCs Tryz.prog 154 = some [.sc (.nilFunc)] := by kernel_rfl
@[simp] theorem g155 : aggT Tryz.prog 155 = some false := by kernel_rfl
@[simp] theorem s155 : sizeT Tryz.prog 155 = some 1 := by kernel_rfl
@[simp] theorem z155 : zeroCs Tryz.prog 155 = some [.sc (.nilFunc)] := by kernel_rfl
@[simp] theorem g156 : aggT Tryz.prog 156 = some false := by kernel_rfl
@[simp] theorem s156 : sizeT Tryz.prog 156 = some 1 := by kernel_rfl
@[simp] theorem z156 : zeroCs Tryz.prog 156 = some [.sc (.nilFunc)] := by kernel_rfl
@[simp] theorem g157 : aggT Tryz.prog 157 = some false := by kernel_rfl
@[simp] theorem s157 : sizeT Tryz.prog 157 = some 1 := by kernel_rfl
@[simp] theorem z157 : zeroCs Tryz.prog 157 = some [.sc (.pointer none)] := by kernel_rfl
@[simp] theorem u157 : Tryz.prog.underlying 157 = some (.pointer 3) := by kernel_rfl
@[simp] theorem g158 : aggT Tryz.prog 158 = some false := by kernel_rfl
@[simp] theorem s158 : sizeT Tryz.prog 158 = some 1 := by kernel_rfl
@[simp] theorem z158 : zeroCs Tryz.prog 158 = some [.sc (.nilFunc)] := by kernel_rfl
@[simp] theorem g159 : aggT Tryz.prog 159 = some false := by kernel_rfl
@[simp] theorem s159 : sizeT Tryz.prog 159 = some 1 := by kernel_rfl
@[simp] theorem z159 : zeroCs Tryz.prog 159 = some [.sc (.pointer none)] := by kernel_rfl
@[simp] theorem u159 : Tryz.prog.underlying 159 = some (.pointer 153) := by kernel_rfl
@[simp] theorem g160 : aggT Tryz.prog 160 = some false := by kernel_rfl
@[simp] theorem s160 : sizeT Tryz.prog 160 = some 1 := by kernel_rfl
@[simp] theorem z160 : zeroCs Tryz.prog 160 = some [.sc (.nilFunc)] := by kernel_rfl
@[simp] theorem g161 : aggT Tryz.prog 161 = some false := by kernel_rfl
@[simp] theorem s161 : sizeT Tryz.prog 161 = some 1 := by kernel_rfl
@[simp] theorem z161 : zeroCs Tryz.prog 161 = some [.sc (.nilFunc)] := by kernel_rfl
@[simp] theorem g162 : aggT Tryz.prog 162 = some true := by kernel_rfl
@[simp] theorem s162 : sizeT Tryz.prog 162 = some 4 := by kernel_rfl
@[simp] theorem z162 : zeroCs Tryz.prog 162 = some [.sc (.pointer none), .sc (.pointer none), .sc (.pointer none), .sc (.string ⟨#[]⟩)] := by kernel_rfl
@[simp] theorem f162_0 : fieldT Tryz.prog 162 0 = some 0 := by kernel_rfl
@[simp] theorem f162_1 : fieldT Tryz.prog 162 1 = some 1 := by kernel_rfl
@[simp] theorem f162_2 : fieldT Tryz.prog 162 2 = some 2 := by kernel_rfl
@[simp] theorem f162_3 : fieldT Tryz.prog 162 3 = some 3 := by kernel_rfl
@[simp] theorem p162 : placeOf Tryz.prog 162 = some (fun i => ([(0, 1), (1, 1), (2, 1), (3, 1)] : List (Nat × Nat))[i]?) := by kernel_rfl
@[simp] theorem g163 : aggT Tryz.prog 163 = some true := by kernel_rfl
@[simp] theorem s163 : sizeT Tryz.prog 163 = some 4 := by kernel_rfl
@[simp] theorem z163 : zeroCs Tryz.prog 163 = some [.sc (.pointer none), .sc (.pointer none), .sc (.pointer none), .sc (.string ⟨#[]⟩)] := by kernel_rfl
@[simp] theorem f163_0 : fieldT Tryz.prog 163 0 = some 0 := by kernel_rfl
@[simp] theorem f163_1 : fieldT Tryz.prog 163 1 = some 1 := by kernel_rfl
@[simp] theorem f163_2 : fieldT Tryz.prog 163 2 = some 2 := by kernel_rfl
@[simp] theorem f163_3 : fieldT Tryz.prog 163 3 = some 3 := by kernel_rfl
@[simp] theorem p163 : placeOf Tryz.prog 163 = some (fun i => ([(0, 1), (1, 1), (2, 1), (3, 1)] : List (Nat × Nat))[i]?) := by kernel_rfl
@[simp] theorem g164 : aggT Tryz.prog 164 = some true := by kernel_rfl
@[simp] theorem s164 : sizeT Tryz.prog 164 = some 0 := by kernel_rfl
@[simp] theorem z164 : zeroCs Tryz.prog 164 = some [] := by kernel_rfl
@[simp] theorem p164 : placeOf Tryz.prog 164 = some (fun i => some (i * 1, 1)) := by kernel_rfl
@[simp] theorem u164 : Tryz.prog.underlying 164 = some (.array 0 16) := by kernel_rfl
@[simp] theorem g165 : aggT Tryz.prog 165 = some true := by kernel_rfl
@[simp] theorem s165 : sizeT Tryz.prog 165 = some 0 := by kernel_rfl
@[simp] theorem z165 : zeroCs Tryz.prog 165 = some [] := by kernel_rfl
@[simp] theorem p165 : placeOf Tryz.prog 165 = some (fun i => ([(0, 0)] : List (Nat × Nat))[i]?) := by kernel_rfl
@[simp] theorem g166 : aggT Tryz.prog 166 = some true := by kernel_rfl
@[simp] theorem s166 : sizeT Tryz.prog 166 = some 0 := by kernel_rfl
@[simp] theorem z166 : zeroCs Tryz.prog 166 = some [] := by kernel_rfl
@[simp] theorem p166 : placeOf Tryz.prog 166 = some (fun i => ([(0, 0)] : List (Nat × Nat))[i]?) := by kernel_rfl
@[simp] theorem g167 : aggT Tryz.prog 167 = some false := by kernel_rfl
@[simp] theorem s167 : sizeT Tryz.prog 167 = some 1 := by kernel_rfl
@[simp] theorem z167 : zeroCs Tryz.prog 167 = some [.sc (.int .u8 0)] := by kernel_rfl
@[simp] theorem u167 : Tryz.prog.underlying 167 = some (.int .u8) := by kernel_rfl
@[simp] theorem g168 : aggT Tryz.prog 168 = some false := by kernel_rfl
@[simp] theorem s168 : sizeT Tryz.prog 168 = some 1 := by kernel_rfl
@[simp] theorem z168 : zeroCs Tryz.prog 168 = some [.sc (.int .u8 0)] := by kernel_rfl
@[simp] theorem u168 : Tryz.prog.underlying 168 = some (.int .u8) := by kernel_rfl
@[simp] theorem g169 : aggT Tryz.prog 169 = some false := by kernel_rfl
@[simp] theorem s169 : sizeT Tryz.prog 169 = some 1 := by kernel_rfl
@[simp] theorem z169 : zeroCs Tryz.prog 169 = some [.sc (.nilFunc)] := by kernel_rfl
@[simp] theorem g170 : aggT Tryz.prog 170 = some false := by kernel_rfl
@[simp] theorem s170 : sizeT Tryz.prog 170 = some 1 := by kernel_rfl
@[simp] theorem z170 : zeroCs Tryz.prog 170 = some [.sc (.pointer none)] := by kernel_rfl
@[simp] theorem u170 : Tryz.prog.underlying 170 = some (.pointer 5) := by kernel_rfl
@[simp] theorem g171 : aggT Tryz.prog 171 = some false := by kernel_rfl
@[simp] theorem s171 : sizeT Tryz.prog 171 = some 1 := by kernel_rfl
@[simp] theorem z171 : zeroCs Tryz.prog 171 = some [.sc (.int .i32 0)] := by kernel_rfl
@[simp] theorem u171 : Tryz.prog.underlying 171 = some (.int .i32) := by kernel_rfl
@[simp] theorem g172 : aggT Tryz.prog 172 = some false := by kernel_rfl
@[simp] theorem s172 : sizeT Tryz.prog 172 = some 1 := by kernel_rfl
@[simp] theorem z172 : zeroCs Tryz.prog 172 = some [.sc (.int .i32 0)] := by kernel_rfl
@[simp] theorem u172 : Tryz.prog.underlying 172 = some (.int .i32) := by kernel_rfl
@[simp] theorem g173 : aggT Tryz.prog 173 = some true := by kernel_rfl
@[simp] theorem s173 : sizeT Tryz.prog 173 = some 11 := by kernel_rfl
@[simp] theorem z173 : zeroCs Tryz.prog 173 = some [.sc (.int .u64 0), .sc (.int .u64 0), .sc (.int .u32 0), .sc (.int .u8 0), .sc (.int .u8 0), .sc (.int .u8 0), .sc (.int .u8 0), .sc (.nilFunc), .sc (.pointer none), .sc (.int .i32 0), .sc (.int .i32 0)] := by kernel_rfl
@[simp] theorem f173_0 : fieldT Tryz.prog 173 0 = some 0 := by kernel_rfl
@[simp] theorem f173_1 : fieldT Tryz.prog 173 1 = some 1 := by kernel_rfl
@[simp] theorem f173_2 : fieldT Tryz.prog 173 2 = some 2 := by kernel_rfl
@[simp] theorem f173_3 : fieldT Tryz.prog 173 3 = some 3 := by kernel_rfl
@[simp] theorem f173_4 : fieldT Tryz.prog 173 4 = some 4 := by kernel_rfl
@[simp] theorem f173_5 : fieldT Tryz.prog 173 5 = some 5 := by kernel_rfl
@[simp] theorem f173_6 : fieldT Tryz.prog 173 6 = some 6 := by kernel_rfl
@[simp] theorem f173_7 : fieldT Tryz.prog 173 7 = some 7 := by kernel_rfl
@[simp] theorem f173_8 : fieldT Tryz.prog 173 8 = some 8 := by kernel_rfl
@[simp] theorem f173_9 : fieldT Tryz.prog 173 9 = some 9 := by kernel_rfl
@[simp] theorem f173_10 : fieldT Tryz.prog 173 10 = some 10 := by kernel_rfl
@[simp] theorem p173 : placeOf Tryz.prog 173 = some (fun i => ([(0, 1), (1, 1), (2, 1), (3, 1), (4, 1), (5, 1), (6, 1), (7, 1), (8, 1), (9, 1), (10, 1)] : List (Nat × Nat))[i]?) := by kernel_rfl
@[simp] theorem g174 : aggT Tryz.prog 174 = some true := by kernel_rfl
@[simp] theorem s174 : sizeT Tryz.prog 174 = some 11 := by kernel_rfl
@[simp] theorem z174 : zeroCs Tryz.prog 174 = some [.sc (.int .u64 0), .sc (.int .u64 0), .sc (.int .u32 0), .sc (.int .u8 0), .sc (.int .u8 0), .sc (.int .u8 0), .sc (.int .u8 0), .sc (.nilFunc), .sc (.pointer none), .sc (.int .i32 0), .sc (.int .i32 0)] := by kernel_rfl
@[simp] theorem f174_0 : fieldT Tryz.prog 174 0 = some 0 := by kernel_rfl
@[simp] theorem f174_1 : fieldT Tryz.prog 174 1 = some 1 := by kernel_rfl
@[simp] theorem f174_2 : fieldT Tryz.prog 174 2 = some 2 := by kernel_rfl
@[simp] theorem f174_3 : fieldT Tryz.prog 174 3 = some 3 := by kernel_rfl
@[simp] theorem f174_4 : fieldT Tryz.prog 174 4 = some 4 := by kernel_rfl
@[simp] theorem f174_5 : fieldT Tryz.prog 174 5 = some 5 := by kernel_rfl
@[simp] theorem f174_6 : fieldT Tryz.prog 174 6 = some 6 := by kernel_rfl
@[simp] theorem f174_7 : fieldT Tryz.prog 174 7 = some 7 := by kernel_rfl
@[simp] theorem f174_8 : fieldT Tryz.prog 174 8 = some 8 := by kernel_rfl
@[simp] theorem f174_9 : fieldT Tryz.prog 174 9 = some 9 := by kernel_rfl
@[simp] theorem f174_10 : fieldT Tryz.prog 174 10 = some 10 := by kernel_rfl
@[simp] theorem p174 : placeOf Tryz.prog 174 = some (fun i => ([(0, 1), (1, 1), (2, 1), (3, 1), (4, 1), (5, 1), (6, 1), (7, 1), (8, 1), (9, 1), (10, 1)] : List (Nat × Nat))[i]?) := by kernel_rfl
@[simp] theorem g175 : aggT Tryz.prog 175 = some false := by kernel_rfl
@[simp] theorem s175 : sizeT Tryz.prog 175 = some 1 := by kernel_rfl
@[simp] theorem z175 : zeroCs Tryz.prog 175 = some [.sc (.nilFunc)] := by kernel_rfl
@[simp] theorem g176 : aggT Tryz.prog 176 = some true := by kernel_rfl
@[simp] theorem s176 : sizeT Tryz.prog 176 = some 2 := by kernel_rfl
@[simp] theorem z176 : zeroCs Tryz.prog 176 = some [.sc (.string ⟨#[]⟩), .sc (.int .u8 0)] := by kernel_rfl
@[simp] theorem f176_0 : fieldT Tryz.prog 176 0 = some 0 := by kernel_rfl
@[simp] theorem f176_1 : fieldT Tryz.prog 176 1 = some 1 := by kernel_rfl
@[simp] theorem p176 : placeOf Tryz.prog 176 = some (fun i => ([(0, 1), (1, 1)] : List (Nat × Nat))[i]?) := by kernel_rfl
@[simp] theorem g177 : aggT Tryz.prog 177 = some true := by kernel_rfl
@[simp] theorem s177 : sizeT Tryz.prog 177 = some 2 := by kernel_rfl
@[simp] theorem z177 : zeroCs Tryz.prog 177 = some [.sc (.string ⟨#[]⟩), .sc (.int .u8 0)] := by kernel_rfl
@[simp] theorem f177_0 : fieldT Tryz.prog 177 0 = some 0 := by kernel_rfl
@[simp] theorem f177_1 : fieldT Tryz.prog 177 1 = some 1 := by kernel_rfl
@[simp] theorem p177 : placeOf Tryz.prog 177 = some (fun i => ([(0, 1), (1, 1)] : List (Nat × Nat))[i]?) := by kernel_rfl
end Ty
theorem mixed : Tryz.prog.follows .mixedOrders = true := by kernel_rfl
end Go.Proofs.YtdeemchhbgomjaaGreat
