/- Closed facts on the types of the program. -/
import Derived.Test.YtfgcnehjdaiipaaMB
import Derived.KernelRfl
import Derived.Test.YtfgcnehjdaiipaaProg
/- The closed facts on the types of the program. Written by gen_types.py. -/
namespace Go.Lm
open Go.Proofs

@[simp] theorem ty1 : tyQ Try.prog 1 = .func := by kernel_rfl
@[simp] theorem sz1 : sizeQ Try.prog 1 = some 1 := by kernel_rfl
@[simp] theorem zr1 : zeroQ Try.prog 1 = some (.nilFunc) := by kernel_rfl
@[simp] theorem ty2 : tyQ Try.prog 2 = .int .i64 := by kernel_rfl
@[simp] theorem sz2 : sizeQ Try.prog 2 = some 1 := by kernel_rfl
@[simp] theorem zr2 : zeroQ Try.prog 2 = some (.int .i64 0) := by kernel_rfl
@[simp] theorem by2 : (Try.prog.info? 2).map (·.bytes) = some 8 := by kernel_rfl
@[simp] theorem ty3 : tyQ Try.prog 3 = .int .i64 := by kernel_rfl
@[simp] theorem sz3 : sizeQ Try.prog 3 = some 1 := by kernel_rfl
@[simp] theorem zr3 : zeroQ Try.prog 3 = some (.int .i64 0) := by kernel_rfl
@[simp] theorem by3 : (Try.prog.info? 3).map (·.bytes) = some 8 := by kernel_rfl
@[simp] theorem ty4 : tyQ Try.prog 4 = .bool := by kernel_rfl
@[simp] theorem sz4 : sizeQ Try.prog 4 = some 1 := by kernel_rfl
@[simp] theorem zr4 : zeroQ Try.prog 4 = some (.bool false) := by kernel_rfl
@[simp] theorem by4 : (Try.prog.info? 4).map (·.bytes) = some 1 := by kernel_rfl
@[simp] theorem ty5 : tyQ Try.prog 5 = .int .u8 := by kernel_rfl
@[simp] theorem sz5 : sizeQ Try.prog 5 = some 1 := by kernel_rfl
@[simp] theorem zr5 : zeroQ Try.prog 5 = some (.int .u8 0) := by kernel_rfl
@[simp] theorem by5 : (Try.prog.info? 5).map (·.bytes) = some 1 := by kernel_rfl
@[simp] theorem ty6 : tyQ Try.prog 6 = .int .u8 := by kernel_rfl
@[simp] theorem sz6 : sizeQ Try.prog 6 = some 1 := by kernel_rfl
@[simp] theorem zr6 : zeroQ Try.prog 6 = some (.int .u8 0) := by kernel_rfl
@[simp] theorem by6 : (Try.prog.info? 6).map (·.bytes) = some 1 := by kernel_rfl
@[simp] theorem ty7 : tyQ Try.prog 7 = .struct [(0, 2, 1), (1, 3, 1), (2, 4, 1), (3, 6, 1)] := by kernel_rfl
@[simp] theorem sz7 : sizeQ Try.prog 7 = some 4 := by kernel_rfl
@[simp] theorem zr7 : zeroQ Try.prog 7 = some (.agg #[.int .i64 0, .int .i64 0, .bool false, .int .u8 0]) := by kernel_rfl
@[simp] theorem by7 : (Try.prog.info? 7).map (·.bytes) = some 24 := by kernel_rfl
@[simp] theorem ty8 : tyQ Try.prog 8 = .struct [(0, 2, 1), (1, 3, 1), (2, 4, 1), (3, 6, 1)] := by kernel_rfl
@[simp] theorem sz8 : sizeQ Try.prog 8 = some 4 := by kernel_rfl
@[simp] theorem zr8 : zeroQ Try.prog 8 = some (.agg #[.int .i64 0, .int .i64 0, .bool false, .int .u8 0]) := by kernel_rfl
@[simp] theorem by8 : (Try.prog.info? 8).map (·.bytes) = some 24 := by kernel_rfl
@[simp] theorem ty9 : tyQ Try.prog 9 = .str := by kernel_rfl
@[simp] theorem sz9 : sizeQ Try.prog 9 = some 1 := by kernel_rfl
@[simp] theorem zr9 : zeroQ Try.prog 9 = some (.string .empty) := by kernel_rfl
@[simp] theorem by9 : (Try.prog.info? 9).map (·.bytes) = some 16 := by kernel_rfl
@[simp] theorem ty10 : tyQ Try.prog 10 = .str := by kernel_rfl
@[simp] theorem sz10 : sizeQ Try.prog 10 = some 1 := by kernel_rfl
@[simp] theorem zr10 : zeroQ Try.prog 10 = some (.string .empty) := by kernel_rfl
@[simp] theorem by10 : (Try.prog.info? 10).map (·.bytes) = some 16 := by kernel_rfl
@[simp] theorem ty11 : tyQ Try.prog 11 = .str := by kernel_rfl
@[simp] theorem sz11 : sizeQ Try.prog 11 = some 1 := by kernel_rfl
@[simp] theorem zr11 : zeroQ Try.prog 11 = some (.string .empty) := by kernel_rfl
@[simp] theorem by11 : (Try.prog.info? 11).map (·.bytes) = some 16 := by kernel_rfl
@[simp] theorem ty12 : tyQ Try.prog 12 = .int .u64 := by kernel_rfl
@[simp] theorem sz12 : sizeQ Try.prog 12 = some 1 := by kernel_rfl
@[simp] theorem zr12 : zeroQ Try.prog 12 = some (.int .u64 0) := by kernel_rfl
@[simp] theorem by12 : (Try.prog.info? 12).map (·.bytes) = some 8 := by kernel_rfl
@[simp] theorem ty13 : tyQ Try.prog 13 = .struct [(0, 9, 1), (1, 12, 1)] := by kernel_rfl
@[simp] theorem sz13 : sizeQ Try.prog 13 = some 2 := by kernel_rfl
@[simp] theorem zr13 : zeroQ Try.prog 13 = some (.agg #[.string .empty, .int .u64 0]) := by kernel_rfl
@[simp] theorem by13 : (Try.prog.info? 13).map (·.bytes) = some 24 := by kernel_rfl
@[simp] theorem ty14 : tyQ Try.prog 14 = .struct [(0, 9, 1), (1, 12, 1)] := by kernel_rfl
@[simp] theorem sz14 : sizeQ Try.prog 14 = some 2 := by kernel_rfl
@[simp] theorem zr14 : zeroQ Try.prog 14 = some (.agg #[.string .empty, .int .u64 0]) := by kernel_rfl
@[simp] theorem by14 : (Try.prog.info? 14).map (·.bytes) = some 24 := by kernel_rfl
@[simp] theorem ty15 : tyQ Try.prog 15 = .ptr 261 := by kernel_rfl
@[simp] theorem sz15 : sizeQ Try.prog 15 = some 1 := by kernel_rfl
@[simp] theorem zr15 : zeroQ Try.prog 15 = some (.pointer none) := by kernel_rfl
@[simp] theorem by15 : (Try.prog.info? 15).map (·.bytes) = some 8 := by kernel_rfl
@[simp] theorem ty16 : tyQ Try.prog 16 = .ptr 264 := by kernel_rfl
@[simp] theorem sz16 : sizeQ Try.prog 16 = some 1 := by kernel_rfl
@[simp] theorem zr16 : zeroQ Try.prog 16 = some (.pointer none) := by kernel_rfl
@[simp] theorem by16 : (Try.prog.info? 16).map (·.bytes) = some 8 := by kernel_rfl
@[simp] theorem ty17 : tyQ Try.prog 17 = .ptr 272 := by kernel_rfl
@[simp] theorem sz17 : sizeQ Try.prog 17 = some 1 := by kernel_rfl
@[simp] theorem zr17 : zeroQ Try.prog 17 = some (.pointer none) := by kernel_rfl
@[simp] theorem by17 : (Try.prog.info? 17).map (·.bytes) = some 8 := by kernel_rfl
@[simp] theorem ty18 : tyQ Try.prog 18 = .struct [(0, 17, 1)] := by kernel_rfl
@[simp] theorem sz18 : sizeQ Try.prog 18 = some 1 := by kernel_rfl
@[simp] theorem zr18 : zeroQ Try.prog 18 = some (.agg #[.pointer none]) := by kernel_rfl
@[simp] theorem by18 : (Try.prog.info? 18).map (·.bytes) = some 8 := by kernel_rfl
@[simp] theorem ty19 : tyQ Try.prog 19 = .struct [(0, 17, 1)] := by kernel_rfl
@[simp] theorem sz19 : sizeQ Try.prog 19 = some 1 := by kernel_rfl
@[simp] theorem zr19 : zeroQ Try.prog 19 = some (.agg #[.pointer none]) := by kernel_rfl
@[simp] theorem by19 : (Try.prog.info? 19).map (·.bytes) = some 8 := by kernel_rfl
@[simp] theorem ty21 : tyQ Try.prog 21 = .int .i32 := by kernel_rfl
@[simp] theorem sz21 : sizeQ Try.prog 21 = some 1 := by kernel_rfl
@[simp] theorem zr21 : zeroQ Try.prog 21 = some (.int .i32 0) := by kernel_rfl
@[simp] theorem by21 : (Try.prog.info? 21).map (·.bytes) = some 4 := by kernel_rfl
@[simp] theorem ty22 : tyQ Try.prog 22 = .int .u32 := by kernel_rfl
@[simp] theorem sz22 : sizeQ Try.prog 22 = some 1 := by kernel_rfl
@[simp] theorem zr22 : zeroQ Try.prog 22 = some (.int .u32 0) := by kernel_rfl
@[simp] theorem by22 : (Try.prog.info? 22).map (·.bytes) = some 4 := by kernel_rfl
@[simp] theorem ty23 : tyQ Try.prog 23 = .sl 22 1 := by kernel_rfl
@[simp] theorem sz23 : sizeQ Try.prog 23 = some 1 := by kernel_rfl
@[simp] theorem zr23 : zeroQ Try.prog 23 = some (.slice none 0 0) := by kernel_rfl
@[simp] theorem by23 : (Try.prog.info? 23).map (·.bytes) = some 24 := by kernel_rfl
@[simp] theorem ty24 : tyQ Try.prog 24 = .struct [(0, 3, 1), (1, 3, 1), (2, 3, 1), (3, 3, 1), (4, 3, 1), (5, 22, 1)] := by kernel_rfl
@[simp] theorem sz24 : sizeQ Try.prog 24 = some 6 := by kernel_rfl
@[simp] theorem zr24 : zeroQ Try.prog 24 = some (.agg #[.int .i64 0, .int .i64 0, .int .i64 0, .int .i64 0, .int .i64 0, .int .u32 0]) := by kernel_rfl
@[simp] theorem by24 : (Try.prog.info? 24).map (·.bytes) = some 48 := by kernel_rfl
@[simp] theorem eg24 : Try.prog.eqGuardType Try.prog.depth 24 = false := by kernel_rfl
@[simp] theorem ef24 : eqFsQ Try.prog 24 = some [(0, 3), (1, 3), (2, 3), (3, 3), (4, 3), (5, 22)] := by kernel_rfl
@[simp] theorem ty25 : tyQ Try.prog 25 = .struct [(0, 3, 1), (1, 3, 1), (2, 3, 1), (3, 3, 1), (4, 3, 1), (5, 22, 1)] := by kernel_rfl
@[simp] theorem sz25 : sizeQ Try.prog 25 = some 6 := by kernel_rfl
@[simp] theorem zr25 : zeroQ Try.prog 25 = some (.agg #[.int .i64 0, .int .i64 0, .int .i64 0, .int .i64 0, .int .i64 0, .int .u32 0]) := by kernel_rfl
@[simp] theorem by25 : (Try.prog.info? 25).map (·.bytes) = some 48 := by kernel_rfl
@[simp] theorem eg25 : Try.prog.eqGuardType Try.prog.depth 25 = false := by kernel_rfl
@[simp] theorem ef25 : eqFsQ Try.prog 25 = some [(0, 3), (1, 3), (2, 3), (3, 3), (4, 3), (5, 22)] := by kernel_rfl
@[simp] theorem ty26 : tyQ Try.prog 26 = .func := by kernel_rfl
@[simp] theorem sz26 : sizeQ Try.prog 26 = some 1 := by kernel_rfl
@[simp] theorem zr26 : zeroQ Try.prog 26 = some (.nilFunc) := by kernel_rfl
@[simp] theorem ty27 : tyQ Try.prog 27 = .int .u64 := by kernel_rfl
@[simp] theorem sz27 : sizeQ Try.prog 27 = some 1 := by kernel_rfl
@[simp] theorem zr27 : zeroQ Try.prog 27 = some (.int .u64 0) := by kernel_rfl
@[simp] theorem by27 : (Try.prog.info? 27).map (·.bytes) = some 8 := by kernel_rfl
@[simp] theorem ty28 : tyQ Try.prog 28 = .func := by kernel_rfl
@[simp] theorem sz28 : sizeQ Try.prog 28 = some 1 := by kernel_rfl
@[simp] theorem zr28 : zeroQ Try.prog 28 = some (.nilFunc) := by kernel_rfl
@[simp] theorem ty29 : tyQ Try.prog 29 = .func := by kernel_rfl
@[simp] theorem sz29 : sizeQ Try.prog 29 = some 1 := by kernel_rfl
@[simp] theorem zr29 : zeroQ Try.prog 29 = some (.nilFunc) := by kernel_rfl
@[simp] theorem ty30 : tyQ Try.prog 30 = .func := by kernel_rfl
@[simp] theorem sz30 : sizeQ Try.prog 30 = some 1 := by kernel_rfl
@[simp] theorem zr30 : zeroQ Try.prog 30 = some (.nilFunc) := by kernel_rfl
@[simp] theorem ty31 : tyQ Try.prog 31 = .arr 7 3 1 := by kernel_rfl
@[simp] theorem sz31 : sizeQ Try.prog 31 = some 7 := by kernel_rfl
@[simp] theorem zr31 : zeroQ Try.prog 31 = some (.agg #[.int .i64 0, .int .i64 0, .int .i64 0, .int .i64 0, .int .i64 0, .int .i64 0, .int .i64 0]) := by kernel_rfl
@[simp] theorem eg31 : Try.prog.eqGuardType Try.prog.depth 31 = false := by kernel_rfl
@[simp] theorem ty32 : tyQ Try.prog 32 = .func := by kernel_rfl
@[simp] theorem sz32 : sizeQ Try.prog 32 = some 1 := by kernel_rfl
@[simp] theorem zr32 : zeroQ Try.prog 32 = some (.nilFunc) := by kernel_rfl
@[simp] theorem ty33 : tyQ Try.prog 33 = .func := by kernel_rfl
@[simp] theorem sz33 : sizeQ Try.prog 33 = some 1 := by kernel_rfl
@[simp] theorem zr33 : zeroQ Try.prog 33 = some (.nilFunc) := by kernel_rfl
@[simp] theorem ty34 : tyQ Try.prog 34 = .func := by kernel_rfl
@[simp] theorem sz34 : sizeQ Try.prog 34 = some 1 := by kernel_rfl
@[simp] theorem zr34 : zeroQ Try.prog 34 = some (.nilFunc) := by kernel_rfl
@[simp] theorem ty35 : tyQ Try.prog 35 = .func := by kernel_rfl
@[simp] theorem sz35 : sizeQ Try.prog 35 = some 1 := by kernel_rfl
@[simp] theorem zr35 : zeroQ Try.prog 35 = some (.nilFunc) := by kernel_rfl
@[simp] theorem ty36 : tyQ Try.prog 36 = .int .i64 := by kernel_rfl
@[simp] theorem sz36 : sizeQ Try.prog 36 = some 1 := by kernel_rfl
@[simp] theorem zr36 : zeroQ Try.prog 36 = some (.int .i64 0) := by kernel_rfl
@[simp] theorem by36 : (Try.prog.info? 36).map (·.bytes) = some 8 := by kernel_rfl
@[simp] theorem ty38 : tyQ Try.prog 38 = .func := by kernel_rfl
@[simp] theorem sz38 : sizeQ Try.prog 38 = some 1 := by kernel_rfl
@[simp] theorem zr38 : zeroQ Try.prog 38 = some (.nilFunc) := by kernel_rfl
@[simp] theorem ty40 : tyQ Try.prog 40 = .func := by kernel_rfl
@[simp] theorem sz40 : sizeQ Try.prog 40 = some 1 := by kernel_rfl
@[simp] theorem zr40 : zeroQ Try.prog 40 = some (.nilFunc) := by kernel_rfl
@[simp] theorem ty41 : tyQ Try.prog 41 = .func := by kernel_rfl
@[simp] theorem sz41 : sizeQ Try.prog 41 = some 1 := by kernel_rfl
@[simp] theorem zr41 : zeroQ Try.prog 41 = some (.nilFunc) := by kernel_rfl
@[simp] theorem ty42 : tyQ Try.prog 42 = .func := by kernel_rfl
@[simp] theorem sz42 : sizeQ Try.prog 42 = some 1 := by kernel_rfl
@[simp] theorem zr42 : zeroQ Try.prog 42 = some (.nilFunc) := by kernel_rfl
@[simp] theorem ty43 : tyQ Try.prog 43 = .sl 46 5 := by kernel_rfl
@[simp] theorem sz43 : sizeQ Try.prog 43 = some 1 := by kernel_rfl
@[simp] theorem zr43 : zeroQ Try.prog 43 = some (.slice none 0 0) := by kernel_rfl
@[simp] theorem by43 : (Try.prog.info? 43).map (·.bytes) = some 24 := by kernel_rfl
@[simp] theorem ty44 : tyQ Try.prog 44 = .func := by kernel_rfl
@[simp] theorem sz44 : sizeQ Try.prog 44 = some 1 := by kernel_rfl
@[simp] theorem zr44 : zeroQ Try.prog 44 = some (.nilFunc) := by kernel_rfl
@[simp] theorem ty45 : tyQ Try.prog 45 = .struct [(0, 3, 1), (1, 5, 1), (2, 3, 1), (3, 3, 1), (4, 9, 1)] := by kernel_rfl
@[simp] theorem sz45 : sizeQ Try.prog 45 = some 5 := by kernel_rfl
@[simp] theorem zr45 : zeroQ Try.prog 45 = some (.agg #[.int .i64 0, .int .u8 0, .int .i64 0, .int .i64 0, .string .empty]) := by kernel_rfl
@[simp] theorem by45 : (Try.prog.info? 45).map (·.bytes) = some 48 := by kernel_rfl
@[simp] theorem eg45 : Try.prog.eqGuardType Try.prog.depth 45 = false := by kernel_rfl
@[simp] theorem ef45 : eqFsQ Try.prog 45 = some [(0, 3), (1, 5), (2, 3), (3, 3), (4, 9)] := by kernel_rfl
@[simp] theorem ty46 : tyQ Try.prog 46 = .struct [(0, 3, 1), (1, 5, 1), (2, 3, 1), (3, 3, 1), (4, 9, 1)] := by kernel_rfl
@[simp] theorem sz46 : sizeQ Try.prog 46 = some 5 := by kernel_rfl
@[simp] theorem zr46 : zeroQ Try.prog 46 = some (.agg #[.int .i64 0, .int .u8 0, .int .i64 0, .int .i64 0, .string .empty]) := by kernel_rfl
@[simp] theorem by46 : (Try.prog.info? 46).map (·.bytes) = some 48 := by kernel_rfl
@[simp] theorem eg46 : Try.prog.eqGuardType Try.prog.depth 46 = false := by kernel_rfl
@[simp] theorem ef46 : eqFsQ Try.prog 46 = some [(0, 3), (1, 5), (2, 3), (3, 3), (4, 9)] := by kernel_rfl
@[simp] theorem ty47 : tyQ Try.prog 47 = .sl 3 1 := by kernel_rfl
@[simp] theorem sz47 : sizeQ Try.prog 47 = some 1 := by kernel_rfl
@[simp] theorem zr47 : zeroQ Try.prog 47 = some (.slice none 0 0) := by kernel_rfl
@[simp] theorem by47 : (Try.prog.info? 47).map (·.bytes) = some 24 := by kernel_rfl
@[simp] theorem ty48 : tyQ Try.prog 48 = .arr 8 22 1 := by kernel_rfl
@[simp] theorem sz48 : sizeQ Try.prog 48 = some 8 := by kernel_rfl
@[simp] theorem zr48 : zeroQ Try.prog 48 = some (.agg #[.int .u32 0, .int .u32 0, .int .u32 0, .int .u32 0, .int .u32 0, .int .u32 0, .int .u32 0, .int .u32 0]) := by kernel_rfl
@[simp] theorem eg48 : Try.prog.eqGuardType Try.prog.depth 48 = false := by kernel_rfl
@[simp] theorem ty49 : tyQ Try.prog 49 = .func := by kernel_rfl
@[simp] theorem sz49 : sizeQ Try.prog 49 = some 1 := by kernel_rfl
@[simp] theorem zr49 : zeroQ Try.prog 49 = some (.nilFunc) := by kernel_rfl
@[simp] theorem ty50 : tyQ Try.prog 50 = .func := by kernel_rfl
@[simp] theorem sz50 : sizeQ Try.prog 50 = some 1 := by kernel_rfl
@[simp] theorem zr50 : zeroQ Try.prog 50 = some (.nilFunc) := by kernel_rfl
@[simp] theorem ty51 : tyQ Try.prog 51 = .func := by kernel_rfl
@[simp] theorem sz51 : sizeQ Try.prog 51 = some 1 := by kernel_rfl
@[simp] theorem zr51 : zeroQ Try.prog 51 = some (.nilFunc) := by kernel_rfl
@[simp] theorem ty52 : tyQ Try.prog 52 = .sl 65 4 := by kernel_rfl
@[simp] theorem sz52 : sizeQ Try.prog 52 = some 1 := by kernel_rfl
@[simp] theorem zr52 : zeroQ Try.prog 52 = some (.slice none 0 0) := by kernel_rfl
@[simp] theorem by52 : (Try.prog.info? 52).map (·.bytes) = some 24 := by kernel_rfl
@[simp] theorem ty53 : tyQ Try.prog 53 = .func := by kernel_rfl
@[simp] theorem sz53 : sizeQ Try.prog 53 = some 1 := by kernel_rfl
@[simp] theorem zr53 : zeroQ Try.prog 53 = some (.nilFunc) := by kernel_rfl
@[simp] theorem ty54 : tyQ Try.prog 54 = .func := by kernel_rfl
@[simp] theorem sz54 : sizeQ Try.prog 54 = some 1 := by kernel_rfl
@[simp] theorem zr54 : zeroQ Try.prog 54 = some (.nilFunc) := by kernel_rfl
@[simp] theorem ty55 : tyQ Try.prog 55 = .ptr 197 := by kernel_rfl
@[simp] theorem sz55 : sizeQ Try.prog 55 = some 1 := by kernel_rfl
@[simp] theorem zr55 : zeroQ Try.prog 55 = some (.pointer none) := by kernel_rfl
@[simp] theorem by55 : (Try.prog.info? 55).map (·.bytes) = some 8 := by kernel_rfl
@[simp] theorem ty56 : tyQ Try.prog 56 = .func := by kernel_rfl
@[simp] theorem sz56 : sizeQ Try.prog 56 = some 1 := by kernel_rfl
@[simp] theorem zr56 : zeroQ Try.prog 56 = some (.nilFunc) := by kernel_rfl
@[simp] theorem ty57 : tyQ Try.prog 57 = .ptr 207 := by kernel_rfl
@[simp] theorem sz57 : sizeQ Try.prog 57 = some 1 := by kernel_rfl
@[simp] theorem zr57 : zeroQ Try.prog 57 = some (.pointer none) := by kernel_rfl
@[simp] theorem by57 : (Try.prog.info? 57).map (·.bytes) = some 8 := by kernel_rfl
@[simp] theorem ty58 : tyQ Try.prog 58 = .func := by kernel_rfl
@[simp] theorem sz58 : sizeQ Try.prog 58 = some 1 := by kernel_rfl
@[simp] theorem zr58 : zeroQ Try.prog 58 = some (.nilFunc) := by kernel_rfl
@[simp] theorem ty59 : tyQ Try.prog 59 = .func := by kernel_rfl
@[simp] theorem sz59 : sizeQ Try.prog 59 = some 1 := by kernel_rfl
@[simp] theorem zr59 : zeroQ Try.prog 59 = some (.nilFunc) := by kernel_rfl
@[simp] theorem ty60 : tyQ Try.prog 60 = .func := by kernel_rfl
@[simp] theorem sz60 : sizeQ Try.prog 60 = some 1 := by kernel_rfl
@[simp] theorem zr60 : zeroQ Try.prog 60 = some (.nilFunc) := by kernel_rfl
@[simp] theorem ty61 : tyQ Try.prog 61 = .func := by kernel_rfl
@[simp] theorem sz61 : sizeQ Try.prog 61 = some 1 := by kernel_rfl
@[simp] theorem zr61 : zeroQ Try.prog 61 = some (.nilFunc) := by kernel_rfl
@[simp] theorem ty62 : tyQ Try.prog 62 = .func := by kernel_rfl
@[simp] theorem sz62 : sizeQ Try.prog 62 = some 1 := by kernel_rfl
@[simp] theorem zr62 : zeroQ Try.prog 62 = some (.nilFunc) := by kernel_rfl
@[simp] theorem ty63 : tyQ Try.prog 63 = .sl 5 1 := by kernel_rfl
@[simp] theorem sz63 : sizeQ Try.prog 63 = some 1 := by kernel_rfl
@[simp] theorem zr63 : zeroQ Try.prog 63 = some (.slice none 0 0) := by kernel_rfl
@[simp] theorem by63 : (Try.prog.info? 63).map (·.bytes) = some 24 := by kernel_rfl
@[simp] theorem ty64 : tyQ Try.prog 64 = .struct [(0, 22, 1), (1, 63, 1), (2, 3, 1), (3, 4, 1)] := by kernel_rfl
@[simp] theorem sz64 : sizeQ Try.prog 64 = some 4 := by kernel_rfl
@[simp] theorem zr64 : zeroQ Try.prog 64 = some (.agg #[.int .u32 0, .slice none 0 0, .int .i64 0, .bool false]) := by kernel_rfl
@[simp] theorem by64 : (Try.prog.info? 64).map (·.bytes) = some 48 := by kernel_rfl
@[simp] theorem ty65 : tyQ Try.prog 65 = .struct [(0, 22, 1), (1, 63, 1), (2, 3, 1), (3, 4, 1)] := by kernel_rfl
@[simp] theorem sz65 : sizeQ Try.prog 65 = some 4 := by kernel_rfl
@[simp] theorem zr65 : zeroQ Try.prog 65 = some (.agg #[.int .u32 0, .slice none 0 0, .int .i64 0, .bool false]) := by kernel_rfl
@[simp] theorem by65 : (Try.prog.info? 65).map (·.bytes) = some 48 := by kernel_rfl
@[simp] theorem ty66 : tyQ Try.prog 66 = .func := by kernel_rfl
@[simp] theorem sz66 : sizeQ Try.prog 66 = some 1 := by kernel_rfl
@[simp] theorem zr66 : zeroQ Try.prog 66 = some (.nilFunc) := by kernel_rfl
@[simp] theorem ty67 : tyQ Try.prog 67 = .func := by kernel_rfl
@[simp] theorem sz67 : sizeQ Try.prog 67 = some 1 := by kernel_rfl
@[simp] theorem zr67 : zeroQ Try.prog 67 = some (.nilFunc) := by kernel_rfl
@[simp] theorem ty68 : tyQ Try.prog 68 = .sl 90 6 := by kernel_rfl
@[simp] theorem sz68 : sizeQ Try.prog 68 = some 1 := by kernel_rfl
@[simp] theorem zr68 : zeroQ Try.prog 68 = some (.slice none 0 0) := by kernel_rfl
@[simp] theorem by68 : (Try.prog.info? 68).map (·.bytes) = some 24 := by kernel_rfl
@[simp] theorem ty69 : tyQ Try.prog 69 = .struct [(0, 22, 1), (1, 23, 1), (2, 68, 1)] := by kernel_rfl
@[simp] theorem sz69 : sizeQ Try.prog 69 = some 3 := by kernel_rfl
@[simp] theorem zr69 : zeroQ Try.prog 69 = some (.agg #[.int .u32 0, .slice none 0 0, .slice none 0 0]) := by kernel_rfl
@[simp] theorem by69 : (Try.prog.info? 69).map (·.bytes) = some 56 := by kernel_rfl
@[simp] theorem ty70 : tyQ Try.prog 70 = .struct [(0, 22, 1), (1, 23, 1), (2, 68, 1)] := by kernel_rfl
@[simp] theorem sz70 : sizeQ Try.prog 70 = some 3 := by kernel_rfl
@[simp] theorem zr70 : zeroQ Try.prog 70 = some (.agg #[.int .u32 0, .slice none 0 0, .slice none 0 0]) := by kernel_rfl
@[simp] theorem by70 : (Try.prog.info? 70).map (·.bytes) = some 56 := by kernel_rfl
@[simp] theorem ty71 : tyQ Try.prog 71 = .sl 78 3 := by kernel_rfl
@[simp] theorem sz71 : sizeQ Try.prog 71 = some 1 := by kernel_rfl
@[simp] theorem zr71 : zeroQ Try.prog 71 = some (.slice none 0 0) := by kernel_rfl
@[simp] theorem by71 : (Try.prog.info? 71).map (·.bytes) = some 24 := by kernel_rfl
@[simp] theorem ty72 : tyQ Try.prog 72 = .sl 77 3 := by kernel_rfl
@[simp] theorem sz72 : sizeQ Try.prog 72 = some 1 := by kernel_rfl
@[simp] theorem zr72 : zeroQ Try.prog 72 = some (.slice none 0 0) := by kernel_rfl
@[simp] theorem by72 : (Try.prog.info? 72).map (·.bytes) = some 24 := by kernel_rfl
@[simp] theorem ty73 : tyQ Try.prog 73 = .func := by kernel_rfl
@[simp] theorem sz73 : sizeQ Try.prog 73 = some 1 := by kernel_rfl
@[simp] theorem zr73 : zeroQ Try.prog 73 = some (.nilFunc) := by kernel_rfl
@[simp] theorem ty74 : tyQ Try.prog 74 = .func := by kernel_rfl
@[simp] theorem sz74 : sizeQ Try.prog 74 = some 1 := by kernel_rfl
@[simp] theorem zr74 : zeroQ Try.prog 74 = some (.nilFunc) := by kernel_rfl
@[simp] theorem ty75 : tyQ Try.prog 75 = .func := by kernel_rfl
@[simp] theorem sz75 : sizeQ Try.prog 75 = some 1 := by kernel_rfl
@[simp] theorem zr75 : zeroQ Try.prog 75 = some (.nilFunc) := by kernel_rfl
@[simp] theorem ty76 : tyQ Try.prog 76 = .struct [(0, 3, 1), (1, 3, 1), (2, 3, 1)] := by kernel_rfl
@[simp] theorem sz76 : sizeQ Try.prog 76 = some 3 := by kernel_rfl
@[simp] theorem zr76 : zeroQ Try.prog 76 = some (.agg #[.int .i64 0, .int .i64 0, .int .i64 0]) := by kernel_rfl
@[simp] theorem by76 : (Try.prog.info? 76).map (·.bytes) = some 24 := by kernel_rfl
@[simp] theorem eg76 : Try.prog.eqGuardType Try.prog.depth 76 = false := by kernel_rfl
@[simp] theorem ef76 : eqFsQ Try.prog 76 = some [(0, 3), (1, 3), (2, 3)] := by kernel_rfl
@[simp] theorem ty77 : tyQ Try.prog 77 = .struct [(0, 3, 1), (1, 3, 1), (2, 3, 1)] := by kernel_rfl
@[simp] theorem sz77 : sizeQ Try.prog 77 = some 3 := by kernel_rfl
@[simp] theorem zr77 : zeroQ Try.prog 77 = some (.agg #[.int .i64 0, .int .i64 0, .int .i64 0]) := by kernel_rfl
@[simp] theorem by77 : (Try.prog.info? 77).map (·.bytes) = some 24 := by kernel_rfl
@[simp] theorem eg77 : Try.prog.eqGuardType Try.prog.depth 77 = false := by kernel_rfl
@[simp] theorem ef77 : eqFsQ Try.prog 77 = some [(0, 3), (1, 3), (2, 3)] := by kernel_rfl
@[simp] theorem ty78 : tyQ Try.prog 78 = .struct [(0, 3, 1), (1, 3, 1), (2, 3, 1)] := by kernel_rfl
@[simp] theorem sz78 : sizeQ Try.prog 78 = some 3 := by kernel_rfl
@[simp] theorem zr78 : zeroQ Try.prog 78 = some (.agg #[.int .i64 0, .int .i64 0, .int .i64 0]) := by kernel_rfl
@[simp] theorem by78 : (Try.prog.info? 78).map (·.bytes) = some 24 := by kernel_rfl
@[simp] theorem eg78 : Try.prog.eqGuardType Try.prog.depth 78 = false := by kernel_rfl
@[simp] theorem ef78 : eqFsQ Try.prog 78 = some [(0, 3), (1, 3), (2, 3)] := by kernel_rfl
@[simp] theorem ty79 : tyQ Try.prog 79 = .func := by kernel_rfl
@[simp] theorem sz79 : sizeQ Try.prog 79 = some 1 := by kernel_rfl
@[simp] theorem zr79 : zeroQ Try.prog 79 = some (.nilFunc) := by kernel_rfl
@[simp] theorem ty80 : tyQ Try.prog 80 = .func := by kernel_rfl
@[simp] theorem sz80 : sizeQ Try.prog 80 = some 1 := by kernel_rfl
@[simp] theorem zr80 : zeroQ Try.prog 80 = some (.nilFunc) := by kernel_rfl
@[simp] theorem ty81 : tyQ Try.prog 81 = .func := by kernel_rfl
@[simp] theorem sz81 : sizeQ Try.prog 81 = some 1 := by kernel_rfl
@[simp] theorem zr81 : zeroQ Try.prog 81 = some (.nilFunc) := by kernel_rfl
@[simp] theorem ty82 : tyQ Try.prog 82 = .func := by kernel_rfl
@[simp] theorem sz82 : sizeQ Try.prog 82 = some 1 := by kernel_rfl
@[simp] theorem zr82 : zeroQ Try.prog 82 = some (.nilFunc) := by kernel_rfl
@[simp] theorem ty83 : tyQ Try.prog 83 = .func := by kernel_rfl
@[simp] theorem sz83 : sizeQ Try.prog 83 = some 1 := by kernel_rfl
@[simp] theorem zr83 : zeroQ Try.prog 83 = some (.nilFunc) := by kernel_rfl
@[simp] theorem ty84 : tyQ Try.prog 84 = .func := by kernel_rfl
@[simp] theorem sz84 : sizeQ Try.prog 84 = some 1 := by kernel_rfl
@[simp] theorem zr84 : zeroQ Try.prog 84 = some (.nilFunc) := by kernel_rfl
@[simp] theorem ty86 : tyQ Try.prog 86 = .func := by kernel_rfl
@[simp] theorem sz86 : sizeQ Try.prog 86 = some 1 := by kernel_rfl
@[simp] theorem zr86 : zeroQ Try.prog 86 = some (.nilFunc) := by kernel_rfl
@[simp] theorem ty87 : tyQ Try.prog 87 = .func := by kernel_rfl
@[simp] theorem sz87 : sizeQ Try.prog 87 = some 1 := by kernel_rfl
@[simp] theorem zr87 : zeroQ Try.prog 87 = some (.nilFunc) := by kernel_rfl
@[simp] theorem ty88 : tyQ Try.prog 88 = .func := by kernel_rfl
@[simp] theorem sz88 : sizeQ Try.prog 88 = some 1 := by kernel_rfl
@[simp] theorem zr88 : zeroQ Try.prog 88 = some (.nilFunc) := by kernel_rfl
@[simp] theorem ty89 : tyQ Try.prog 89 = .struct [(0, 3, 1), (1, 3, 1), (2, 3, 1), (3, 3, 1), (4, 22, 1), (5, 3, 1)] := by kernel_rfl
@[simp] theorem sz89 : sizeQ Try.prog 89 = some 6 := by kernel_rfl
@[simp] theorem zr89 : zeroQ Try.prog 89 = some (.agg #[.int .i64 0, .int .i64 0, .int .i64 0, .int .i64 0, .int .u32 0, .int .i64 0]) := by kernel_rfl
@[simp] theorem by89 : (Try.prog.info? 89).map (·.bytes) = some 48 := by kernel_rfl
@[simp] theorem eg89 : Try.prog.eqGuardType Try.prog.depth 89 = false := by kernel_rfl
@[simp] theorem ef89 : eqFsQ Try.prog 89 = some [(0, 3), (1, 3), (2, 3), (3, 3), (4, 22), (5, 3)] := by kernel_rfl
@[simp] theorem ty90 : tyQ Try.prog 90 = .struct [(0, 3, 1), (1, 3, 1), (2, 3, 1), (3, 3, 1), (4, 22, 1), (5, 3, 1)] := by kernel_rfl
@[simp] theorem sz90 : sizeQ Try.prog 90 = some 6 := by kernel_rfl
@[simp] theorem zr90 : zeroQ Try.prog 90 = some (.agg #[.int .i64 0, .int .i64 0, .int .i64 0, .int .i64 0, .int .u32 0, .int .i64 0]) := by kernel_rfl
@[simp] theorem by90 : (Try.prog.info? 90).map (·.bytes) = some 48 := by kernel_rfl
@[simp] theorem eg90 : Try.prog.eqGuardType Try.prog.depth 90 = false := by kernel_rfl
@[simp] theorem ef90 : eqFsQ Try.prog 90 = some [(0, 3), (1, 3), (2, 3), (3, 3), (4, 22), (5, 3)] := by kernel_rfl
@[simp] theorem ty91 : tyQ Try.prog 91 = .func := by kernel_rfl
@[simp] theorem sz91 : sizeQ Try.prog 91 = some 1 := by kernel_rfl
@[simp] theorem zr91 : zeroQ Try.prog 91 = some (.nilFunc) := by kernel_rfl
@[simp] theorem ty93 : tyQ Try.prog 93 = .func := by kernel_rfl
@[simp] theorem sz93 : sizeQ Try.prog 93 = some 1 := by kernel_rfl
@[simp] theorem zr93 : zeroQ Try.prog 93 = some (.nilFunc) := by kernel_rfl
@[simp] theorem ty94 : tyQ Try.prog 94 = .func := by kernel_rfl
@[simp] theorem sz94 : sizeQ Try.prog 94 = some 1 := by kernel_rfl
@[simp] theorem zr94 : zeroQ Try.prog 94 = some (.nilFunc) := by kernel_rfl
@[simp] theorem ty95 : tyQ Try.prog 95 = .sl 167 6 := by kernel_rfl
@[simp] theorem sz95 : sizeQ Try.prog 95 = some 1 := by kernel_rfl
@[simp] theorem zr95 : zeroQ Try.prog 95 = some (.slice none 0 0) := by kernel_rfl
@[simp] theorem by95 : (Try.prog.info? 95).map (·.bytes) = some 24 := by kernel_rfl
@[simp] theorem ty97 : tyQ Try.prog 97 = .func := by kernel_rfl
@[simp] theorem sz97 : sizeQ Try.prog 97 = some 1 := by kernel_rfl
@[simp] theorem zr97 : zeroQ Try.prog 97 = some (.nilFunc) := by kernel_rfl
@[simp] theorem ty98 : tyQ Try.prog 98 = .sl 178 6 := by kernel_rfl
@[simp] theorem sz98 : sizeQ Try.prog 98 = some 1 := by kernel_rfl
@[simp] theorem zr98 : zeroQ Try.prog 98 = some (.slice none 0 0) := by kernel_rfl
@[simp] theorem by98 : (Try.prog.info? 98).map (·.bytes) = some 24 := by kernel_rfl
@[simp] theorem ty100 : tyQ Try.prog 100 = .func := by kernel_rfl
@[simp] theorem sz100 : sizeQ Try.prog 100 = some 1 := by kernel_rfl
@[simp] theorem zr100 : zeroQ Try.prog 100 = some (.nilFunc) := by kernel_rfl
@[simp] theorem ty101 : tyQ Try.prog 101 = .func := by kernel_rfl
@[simp] theorem sz101 : sizeQ Try.prog 101 = some 1 := by kernel_rfl
@[simp] theorem zr101 : zeroQ Try.prog 101 = some (.nilFunc) := by kernel_rfl
@[simp] theorem ty102 : tyQ Try.prog 102 = .func := by kernel_rfl
@[simp] theorem sz102 : sizeQ Try.prog 102 = some 1 := by kernel_rfl
@[simp] theorem zr102 : zeroQ Try.prog 102 = some (.nilFunc) := by kernel_rfl
@[simp] theorem ty103 : tyQ Try.prog 103 = .func := by kernel_rfl
@[simp] theorem sz103 : sizeQ Try.prog 103 = some 1 := by kernel_rfl
@[simp] theorem zr103 : zeroQ Try.prog 103 = some (.nilFunc) := by kernel_rfl
@[simp] theorem ty104 : tyQ Try.prog 104 = .struct [(0, 3, 1), (1, 3, 1), (2, 9, 1), (3, 22, 1)] := by kernel_rfl
@[simp] theorem sz104 : sizeQ Try.prog 104 = some 4 := by kernel_rfl
@[simp] theorem zr104 : zeroQ Try.prog 104 = some (.agg #[.int .i64 0, .int .i64 0, .string .empty, .int .u32 0]) := by kernel_rfl
@[simp] theorem by104 : (Try.prog.info? 104).map (·.bytes) = some 40 := by kernel_rfl
@[simp] theorem eg104 : Try.prog.eqGuardType Try.prog.depth 104 = false := by kernel_rfl
@[simp] theorem ef104 : eqFsQ Try.prog 104 = some [(0, 3), (1, 3), (2, 9), (3, 22)] := by kernel_rfl
@[simp] theorem ty105 : tyQ Try.prog 105 = .struct [(0, 3, 1), (1, 3, 1), (2, 9, 1), (3, 22, 1)] := by kernel_rfl
@[simp] theorem sz105 : sizeQ Try.prog 105 = some 4 := by kernel_rfl
@[simp] theorem zr105 : zeroQ Try.prog 105 = some (.agg #[.int .i64 0, .int .i64 0, .string .empty, .int .u32 0]) := by kernel_rfl
@[simp] theorem by105 : (Try.prog.info? 105).map (·.bytes) = some 40 := by kernel_rfl
@[simp] theorem eg105 : Try.prog.eqGuardType Try.prog.depth 105 = false := by kernel_rfl
@[simp] theorem ef105 : eqFsQ Try.prog 105 = some [(0, 3), (1, 3), (2, 9), (3, 22)] := by kernel_rfl
@[simp] theorem ty107 : tyQ Try.prog 107 = .func := by kernel_rfl
@[simp] theorem sz107 : sizeQ Try.prog 107 = some 1 := by kernel_rfl
@[simp] theorem zr107 : zeroQ Try.prog 107 = some (.nilFunc) := by kernel_rfl
@[simp] theorem ty108 : tyQ Try.prog 108 = .func := by kernel_rfl
@[simp] theorem sz108 : sizeQ Try.prog 108 = some 1 := by kernel_rfl
@[simp] theorem zr108 : zeroQ Try.prog 108 = some (.nilFunc) := by kernel_rfl
@[simp] theorem ty109 : tyQ Try.prog 109 = .func := by kernel_rfl
@[simp] theorem sz109 : sizeQ Try.prog 109 = some 1 := by kernel_rfl
@[simp] theorem zr109 : zeroQ Try.prog 109 = some (.nilFunc) := by kernel_rfl
@[simp] theorem ty110 : tyQ Try.prog 110 = .ptr 3 := by kernel_rfl
@[simp] theorem sz110 : sizeQ Try.prog 110 = some 1 := by kernel_rfl
@[simp] theorem zr110 : zeroQ Try.prog 110 = some (.pointer none) := by kernel_rfl
@[simp] theorem by110 : (Try.prog.info? 110).map (·.bytes) = some 8 := by kernel_rfl
@[simp] theorem ty111 : tyQ Try.prog 111 = .func := by kernel_rfl
@[simp] theorem sz111 : sizeQ Try.prog 111 = some 1 := by kernel_rfl
@[simp] theorem zr111 : zeroQ Try.prog 111 = some (.nilFunc) := by kernel_rfl
@[simp] theorem ty112 : tyQ Try.prog 112 = .arr 70 105 4 := by kernel_rfl
@[simp] theorem sz112 : sizeQ Try.prog 112 = some 280 := by kernel_rfl
@[simp] theorem zr112 : zeroQ Try.prog 112 = some (.agg (zrep 70 [.int .i64 0, .int .i64 0, .string .empty, .int .u32 0])) := by kernel_rfl
@[simp] theorem eg112 : Try.prog.eqGuardType Try.prog.depth 112 = false := by kernel_rfl
@[simp] theorem ty113 : tyQ Try.prog 113 = .func := by kernel_rfl
@[simp] theorem sz113 : sizeQ Try.prog 113 = some 1 := by kernel_rfl
@[simp] theorem zr113 : zeroQ Try.prog 113 = some (.nilFunc) := by kernel_rfl
@[simp] theorem ty114 : tyQ Try.prog 114 = .func := by kernel_rfl
@[simp] theorem sz114 : sizeQ Try.prog 114 = some 1 := by kernel_rfl
@[simp] theorem zr114 : zeroQ Try.prog 114 = some (.nilFunc) := by kernel_rfl
@[simp] theorem ty115 : tyQ Try.prog 115 = .arr 2 22 1 := by kernel_rfl
@[simp] theorem sz115 : sizeQ Try.prog 115 = some 2 := by kernel_rfl
@[simp] theorem zr115 : zeroQ Try.prog 115 = some (.agg #[.int .u32 0, .int .u32 0]) := by kernel_rfl
@[simp] theorem eg115 : Try.prog.eqGuardType Try.prog.depth 115 = false := by kernel_rfl
@[simp] theorem ty116 : tyQ Try.prog 116 = .func := by kernel_rfl
@[simp] theorem sz116 : sizeQ Try.prog 116 = some 1 := by kernel_rfl
@[simp] theorem zr116 : zeroQ Try.prog 116 = some (.nilFunc) := by kernel_rfl
@[simp] theorem ty117 : tyQ Try.prog 117 = .arr 69 46 5 := by kernel_rfl
@[simp] theorem sz117 : sizeQ Try.prog 117 = some 345 := by kernel_rfl
@[simp] theorem zr117 : zeroQ Try.prog 117 = some (.agg (zrep 69 [.int .i64 0, .int .u8 0, .int .i64 0, .int .i64 0, .string .empty])) := by kernel_rfl
@[simp] theorem eg117 : Try.prog.eqGuardType Try.prog.depth 117 = false := by kernel_rfl
@[simp] theorem ty118 : tyQ Try.prog 118 = .func := by kernel_rfl
@[simp] theorem sz118 : sizeQ Try.prog 118 = some 1 := by kernel_rfl
@[simp] theorem zr118 : zeroQ Try.prog 118 = some (.nilFunc) := by kernel_rfl
@[simp] theorem ty119 : tyQ Try.prog 119 = .func := by kernel_rfl
@[simp] theorem sz119 : sizeQ Try.prog 119 = some 1 := by kernel_rfl
@[simp] theorem zr119 : zeroQ Try.prog 119 = some (.nilFunc) := by kernel_rfl
@[simp] theorem ty120 : tyQ Try.prog 120 = .func := by kernel_rfl
@[simp] theorem sz120 : sizeQ Try.prog 120 = some 1 := by kernel_rfl
@[simp] theorem zr120 : zeroQ Try.prog 120 = some (.nilFunc) := by kernel_rfl
@[simp] theorem ty121 : tyQ Try.prog 121 = .func := by kernel_rfl
@[simp] theorem sz121 : sizeQ Try.prog 121 = some 1 := by kernel_rfl
@[simp] theorem zr121 : zeroQ Try.prog 121 = some (.nilFunc) := by kernel_rfl
@[simp] theorem ty122 : tyQ Try.prog 122 = .func := by kernel_rfl
@[simp] theorem sz122 : sizeQ Try.prog 122 = some 1 := by kernel_rfl
@[simp] theorem zr122 : zeroQ Try.prog 122 = some (.nilFunc) := by kernel_rfl
@[simp] theorem ty123 : tyQ Try.prog 123 = .struct [(0, 3, 1), (1, 22, 1)] := by kernel_rfl
@[simp] theorem sz123 : sizeQ Try.prog 123 = some 2 := by kernel_rfl
@[simp] theorem zr123 : zeroQ Try.prog 123 = some (.agg #[.int .i64 0, .int .u32 0]) := by kernel_rfl
@[simp] theorem by123 : (Try.prog.info? 123).map (·.bytes) = some 16 := by kernel_rfl
@[simp] theorem eg123 : Try.prog.eqGuardType Try.prog.depth 123 = false := by kernel_rfl
@[simp] theorem ef123 : eqFsQ Try.prog 123 = some [(0, 3), (1, 22)] := by kernel_rfl
@[simp] theorem ty124 : tyQ Try.prog 124 = .struct [(0, 3, 1), (1, 22, 1)] := by kernel_rfl
@[simp] theorem sz124 : sizeQ Try.prog 124 = some 2 := by kernel_rfl
@[simp] theorem zr124 : zeroQ Try.prog 124 = some (.agg #[.int .i64 0, .int .u32 0]) := by kernel_rfl
@[simp] theorem by124 : (Try.prog.info? 124).map (·.bytes) = some 16 := by kernel_rfl
@[simp] theorem eg124 : Try.prog.eqGuardType Try.prog.depth 124 = false := by kernel_rfl
@[simp] theorem ef124 : eqFsQ Try.prog 124 = some [(0, 3), (1, 22)] := by kernel_rfl
@[simp] theorem ty125 : tyQ Try.prog 125 = .arr 32 124 2 := by kernel_rfl
@[simp] theorem sz125 : sizeQ Try.prog 125 = some 64 := by kernel_rfl
@[simp] theorem zr125 : zeroQ Try.prog 125 = some (.agg (zrep 32 [.int .i64 0, .int .u32 0])) := by kernel_rfl
@[simp] theorem eg125 : Try.prog.eqGuardType Try.prog.depth 125 = false := by kernel_rfl
@[simp] theorem ty126 : tyQ Try.prog 126 = .func := by kernel_rfl
@[simp] theorem sz126 : sizeQ Try.prog 126 = some 1 := by kernel_rfl
@[simp] theorem zr126 : zeroQ Try.prog 126 = some (.nilFunc) := by kernel_rfl
@[simp] theorem ty127 : tyQ Try.prog 127 = .func := by kernel_rfl
@[simp] theorem sz127 : sizeQ Try.prog 127 = some 1 := by kernel_rfl
@[simp] theorem zr127 : zeroQ Try.prog 127 = some (.nilFunc) := by kernel_rfl
@[simp] theorem ty128 : tyQ Try.prog 128 = .struct [(0, 3, 1), (1, 22, 1)] := by kernel_rfl
@[simp] theorem sz128 : sizeQ Try.prog 128 = some 2 := by kernel_rfl
@[simp] theorem zr128 : zeroQ Try.prog 128 = some (.agg #[.int .i64 0, .int .u32 0]) := by kernel_rfl
@[simp] theorem by128 : (Try.prog.info? 128).map (·.bytes) = some 16 := by kernel_rfl
@[simp] theorem eg128 : Try.prog.eqGuardType Try.prog.depth 128 = false := by kernel_rfl
@[simp] theorem ef128 : eqFsQ Try.prog 128 = some [(0, 3), (1, 22)] := by kernel_rfl
@[simp] theorem ty129 : tyQ Try.prog 129 = .struct [(0, 3, 1), (1, 22, 1)] := by kernel_rfl
@[simp] theorem sz129 : sizeQ Try.prog 129 = some 2 := by kernel_rfl
@[simp] theorem zr129 : zeroQ Try.prog 129 = some (.agg #[.int .i64 0, .int .u32 0]) := by kernel_rfl
@[simp] theorem by129 : (Try.prog.info? 129).map (·.bytes) = some 16 := by kernel_rfl
@[simp] theorem eg129 : Try.prog.eqGuardType Try.prog.depth 129 = false := by kernel_rfl
@[simp] theorem ef129 : eqFsQ Try.prog 129 = some [(0, 3), (1, 22)] := by kernel_rfl
@[simp] theorem ty130 : tyQ Try.prog 130 = .arr 32 129 2 := by kernel_rfl
@[simp] theorem sz130 : sizeQ Try.prog 130 = some 64 := by kernel_rfl
@[simp] theorem zr130 : zeroQ Try.prog 130 = some (.agg (zrep 32 [.int .i64 0, .int .u32 0])) := by kernel_rfl
@[simp] theorem eg130 : Try.prog.eqGuardType Try.prog.depth 130 = false := by kernel_rfl
@[simp] theorem ty131 : tyQ Try.prog 131 = .func := by kernel_rfl
@[simp] theorem sz131 : sizeQ Try.prog 131 = some 1 := by kernel_rfl
@[simp] theorem zr131 : zeroQ Try.prog 131 = some (.nilFunc) := by kernel_rfl
@[simp] theorem ty132 : tyQ Try.prog 132 = .func := by kernel_rfl
@[simp] theorem sz132 : sizeQ Try.prog 132 = some 1 := by kernel_rfl
@[simp] theorem zr132 : zeroQ Try.prog 132 = some (.nilFunc) := by kernel_rfl
@[simp] theorem ty133 : tyQ Try.prog 133 = .func := by kernel_rfl
@[simp] theorem sz133 : sizeQ Try.prog 133 = some 1 := by kernel_rfl
@[simp] theorem zr133 : zeroQ Try.prog 133 = some (.nilFunc) := by kernel_rfl
@[simp] theorem ty134 : tyQ Try.prog 134 = .func := by kernel_rfl
@[simp] theorem sz134 : sizeQ Try.prog 134 = some 1 := by kernel_rfl
@[simp] theorem zr134 : zeroQ Try.prog 134 = some (.nilFunc) := by kernel_rfl
@[simp] theorem ty135 : tyQ Try.prog 135 = .func := by kernel_rfl
@[simp] theorem sz135 : sizeQ Try.prog 135 = some 1 := by kernel_rfl
@[simp] theorem zr135 : zeroQ Try.prog 135 = some (.nilFunc) := by kernel_rfl
@[simp] theorem ty136 : tyQ Try.prog 136 = .func := by kernel_rfl
@[simp] theorem sz136 : sizeQ Try.prog 136 = some 1 := by kernel_rfl
@[simp] theorem zr136 : zeroQ Try.prog 136 = some (.nilFunc) := by kernel_rfl
@[simp] theorem ty137 : tyQ Try.prog 137 = .func := by kernel_rfl
@[simp] theorem sz137 : sizeQ Try.prog 137 = some 1 := by kernel_rfl
@[simp] theorem zr137 : zeroQ Try.prog 137 = some (.nilFunc) := by kernel_rfl
@[simp] theorem ty138 : tyQ Try.prog 138 = .func := by kernel_rfl
@[simp] theorem sz138 : sizeQ Try.prog 138 = some 1 := by kernel_rfl
@[simp] theorem zr138 : zeroQ Try.prog 138 = some (.nilFunc) := by kernel_rfl
@[simp] theorem ty139 : tyQ Try.prog 139 = .func := by kernel_rfl
@[simp] theorem sz139 : sizeQ Try.prog 139 = some 1 := by kernel_rfl
@[simp] theorem zr139 : zeroQ Try.prog 139 = some (.nilFunc) := by kernel_rfl
@[simp] theorem ty140 : tyQ Try.prog 140 = .func := by kernel_rfl
@[simp] theorem sz140 : sizeQ Try.prog 140 = some 1 := by kernel_rfl
@[simp] theorem zr140 : zeroQ Try.prog 140 = some (.nilFunc) := by kernel_rfl
@[simp] theorem ty141 : tyQ Try.prog 141 = .arr 64 3 1 := by kernel_rfl
@[simp] theorem sz141 : sizeQ Try.prog 141 = some 64 := by kernel_rfl
@[simp] theorem zr141 : zeroQ Try.prog 141 = some (.agg (Array.replicate 64 (.int .i64 0))) := by kernel_rfl
@[simp] theorem eg141 : Try.prog.eqGuardType Try.prog.depth 141 = false := by kernel_rfl
@[simp] theorem ty142 : tyQ Try.prog 142 = .func := by kernel_rfl
@[simp] theorem sz142 : sizeQ Try.prog 142 = some 1 := by kernel_rfl
@[simp] theorem zr142 : zeroQ Try.prog 142 = some (.nilFunc) := by kernel_rfl
@[simp] theorem ty143 : tyQ Try.prog 143 = .func := by kernel_rfl
@[simp] theorem sz143 : sizeQ Try.prog 143 = some 1 := by kernel_rfl
@[simp] theorem zr143 : zeroQ Try.prog 143 = some (.nilFunc) := by kernel_rfl
@[simp] theorem ty144 : tyQ Try.prog 144 = .func := by kernel_rfl
@[simp] theorem sz144 : sizeQ Try.prog 144 = some 1 := by kernel_rfl
@[simp] theorem zr144 : zeroQ Try.prog 144 = some (.nilFunc) := by kernel_rfl
@[simp] theorem ty145 : tyQ Try.prog 145 = .func := by kernel_rfl
@[simp] theorem sz145 : sizeQ Try.prog 145 = some 1 := by kernel_rfl
@[simp] theorem zr145 : zeroQ Try.prog 145 = some (.nilFunc) := by kernel_rfl
@[simp] theorem ty146 : tyQ Try.prog 146 = .arr 15 3 1 := by kernel_rfl
@[simp] theorem sz146 : sizeQ Try.prog 146 = some 15 := by kernel_rfl
@[simp] theorem zr146 : zeroQ Try.prog 146 = some (.agg #[.int .i64 0, .int .i64 0, .int .i64 0, .int .i64 0, .int .i64 0, .int .i64 0, .int .i64 0, .int .i64 0, .int .i64 0, .int .i64 0, .int .i64 0, .int .i64 0, .int .i64 0, .int .i64 0, .int .i64 0]) := by kernel_rfl
@[simp] theorem eg146 : Try.prog.eqGuardType Try.prog.depth 146 = false := by kernel_rfl
@[simp] theorem ty147 : tyQ Try.prog 147 = .func := by kernel_rfl
@[simp] theorem sz147 : sizeQ Try.prog 147 = some 1 := by kernel_rfl
@[simp] theorem zr147 : zeroQ Try.prog 147 = some (.nilFunc) := by kernel_rfl
@[simp] theorem ty148 : tyQ Try.prog 148 = .func := by kernel_rfl
@[simp] theorem sz148 : sizeQ Try.prog 148 = some 1 := by kernel_rfl
@[simp] theorem zr148 : zeroQ Try.prog 148 = some (.nilFunc) := by kernel_rfl
@[simp] theorem ty149 : tyQ Try.prog 149 = .ptr 151 := by kernel_rfl
@[simp] theorem sz149 : sizeQ Try.prog 149 = some 1 := by kernel_rfl
@[simp] theorem zr149 : zeroQ Try.prog 149 = some (.pointer none) := by kernel_rfl
@[simp] theorem by149 : (Try.prog.info? 149).map (·.bytes) = some 8 := by kernel_rfl
@[simp] theorem ty150 : tyQ Try.prog 150 = .struct [(0, 68, 1), (1, 3, 1), (2, 3, 1), (3, 3, 1)] := by kernel_rfl
@[simp] theorem sz150 : sizeQ Try.prog 150 = some 4 := by kernel_rfl
@[simp] theorem zr150 : zeroQ Try.prog 150 = some (.agg #[.slice none 0 0, .int .i64 0, .int .i64 0, .int .i64 0]) := by kernel_rfl
@[simp] theorem by150 : (Try.prog.info? 150).map (·.bytes) = some 48 := by kernel_rfl
@[simp] theorem ty151 : tyQ Try.prog 151 = .struct [(0, 68, 1), (1, 3, 1), (2, 3, 1), (3, 3, 1)] := by kernel_rfl
@[simp] theorem sz151 : sizeQ Try.prog 151 = some 4 := by kernel_rfl
@[simp] theorem zr151 : zeroQ Try.prog 151 = some (.agg #[.slice none 0 0, .int .i64 0, .int .i64 0, .int .i64 0]) := by kernel_rfl
@[simp] theorem by151 : (Try.prog.info? 151).map (·.bytes) = some 48 := by kernel_rfl
@[simp] theorem ty152 : tyQ Try.prog 152 = .func := by kernel_rfl
@[simp] theorem sz152 : sizeQ Try.prog 152 = some 1 := by kernel_rfl
@[simp] theorem zr152 : zeroQ Try.prog 152 = some (.nilFunc) := by kernel_rfl
@[simp] theorem ty153 : tyQ Try.prog 153 = .func := by kernel_rfl
@[simp] theorem sz153 : sizeQ Try.prog 153 = some 1 := by kernel_rfl
@[simp] theorem zr153 : zeroQ Try.prog 153 = some (.nilFunc) := by kernel_rfl
@[simp] theorem ty154 : tyQ Try.prog 154 = .func := by kernel_rfl
@[simp] theorem sz154 : sizeQ Try.prog 154 = some 1 := by kernel_rfl
@[simp] theorem zr154 : zeroQ Try.prog 154 = some (.nilFunc) := by kernel_rfl
@[simp] theorem ty155 : tyQ Try.prog 155 = .func := by kernel_rfl
@[simp] theorem sz155 : sizeQ Try.prog 155 = some 1 := by kernel_rfl
@[simp] theorem zr155 : zeroQ Try.prog 155 = some (.nilFunc) := by kernel_rfl
@[simp] theorem ty156 : tyQ Try.prog 156 = .ptr 165 := by kernel_rfl
@[simp] theorem sz156 : sizeQ Try.prog 156 = some 1 := by kernel_rfl
@[simp] theorem zr156 : zeroQ Try.prog 156 = some (.pointer none) := by kernel_rfl
@[simp] theorem by156 : (Try.prog.info? 156).map (·.bytes) = some 8 := by kernel_rfl
@[simp] theorem ty157 : tyQ Try.prog 157 = .struct [] := by kernel_rfl
@[simp] theorem sz157 : sizeQ Try.prog 157 = some 0 := by kernel_rfl
@[simp] theorem zr157 : zeroQ Try.prog 157 = some (.agg #[]) := by kernel_rfl
@[simp] theorem by157 : (Try.prog.info? 157).map (·.bytes) = some 0 := by kernel_rfl
@[simp] theorem eg157 : Try.prog.eqGuardType Try.prog.depth 157 = false := by kernel_rfl
@[simp] theorem ef157 : eqFsQ Try.prog 157 = some [] := by kernel_rfl
@[simp] theorem ty158 : tyQ Try.prog 158 = .struct [] := by kernel_rfl
@[simp] theorem sz158 : sizeQ Try.prog 158 = some 0 := by kernel_rfl
@[simp] theorem zr158 : zeroQ Try.prog 158 = some (.agg #[]) := by kernel_rfl
@[simp] theorem by158 : (Try.prog.info? 158).map (·.bytes) = some 0 := by kernel_rfl
@[simp] theorem eg158 : Try.prog.eqGuardType Try.prog.depth 158 = false := by kernel_rfl
@[simp] theorem ef158 : eqFsQ Try.prog 158 = some [] := by kernel_rfl
@[simp] theorem ty159 : tyQ Try.prog 159 = .struct [] := by kernel_rfl
@[simp] theorem sz159 : sizeQ Try.prog 159 = some 0 := by kernel_rfl
@[simp] theorem zr159 : zeroQ Try.prog 159 = some (.agg #[]) := by kernel_rfl
@[simp] theorem by159 : (Try.prog.info? 159).map (·.bytes) = some 0 := by kernel_rfl
@[simp] theorem eg159 : Try.prog.eqGuardType Try.prog.depth 159 = false := by kernel_rfl
@[simp] theorem ef159 : eqFsQ Try.prog 159 = some [] := by kernel_rfl
@[simp] theorem ty160 : tyQ Try.prog 160 = .struct [(0, 158, 0), (0, 159, 0), (0, 2, 1)] := by kernel_rfl
@[simp] theorem sz160 : sizeQ Try.prog 160 = some 1 := by kernel_rfl
@[simp] theorem zr160 : zeroQ Try.prog 160 = some (.agg #[.int .i64 0]) := by kernel_rfl
@[simp] theorem by160 : (Try.prog.info? 160).map (·.bytes) = some 8 := by kernel_rfl
@[simp] theorem eg160 : Try.prog.eqGuardType Try.prog.depth 160 = false := by kernel_rfl
@[simp] theorem ef160 : eqFsQ Try.prog 160 = some [(0, 2)] := by kernel_rfl
@[simp] theorem ty161 : tyQ Try.prog 161 = .struct [(0, 158, 0), (0, 159, 0), (0, 2, 1)] := by kernel_rfl
@[simp] theorem sz161 : sizeQ Try.prog 161 = some 1 := by kernel_rfl
@[simp] theorem zr161 : zeroQ Try.prog 161 = some (.agg #[.int .i64 0]) := by kernel_rfl
@[simp] theorem by161 : (Try.prog.info? 161).map (·.bytes) = some 8 := by kernel_rfl
@[simp] theorem eg161 : Try.prog.eqGuardType Try.prog.depth 161 = false := by kernel_rfl
@[simp] theorem ef161 : eqFsQ Try.prog 161 = some [(0, 2)] := by kernel_rfl
@[simp] theorem ty162 : tyQ Try.prog 162 = .arr 64 4 1 := by kernel_rfl
@[simp] theorem sz162 : sizeQ Try.prog 162 = some 64 := by kernel_rfl
@[simp] theorem zr162 : zeroQ Try.prog 162 = some (.agg (Array.replicate 64 (.bool false))) := by kernel_rfl
@[simp] theorem eg162 : Try.prog.eqGuardType Try.prog.depth 162 = false := by kernel_rfl
@[simp] theorem ty163 : tyQ Try.prog 163 = .func := by kernel_rfl
@[simp] theorem sz163 : sizeQ Try.prog 163 = some 1 := by kernel_rfl
@[simp] theorem zr163 : zeroQ Try.prog 163 = some (.nilFunc) := by kernel_rfl
@[simp] theorem ty164 : tyQ Try.prog 164 = .struct [(0, 95, 1), (1, 161, 1), (2, 141, 64), (66, 162, 64), (130, 163, 1)] := by kernel_rfl
@[simp] theorem sz164 : sizeQ Try.prog 164 = some 131 := by kernel_rfl
@[simp] theorem zr164 : zeroQ Try.prog 164 = some (.agg (zrep 1 [.slice none 0 0, .int .i64 0, .int .i64 0, .int .i64 0, .int .i64 0, .int .i64 0, .int .i64 0, .int .i64 0, .int .i64 0, .int .i64 0, .int .i64 0, .int .i64 0, .int .i64 0, .int .i64 0, .int .i64 0, .int .i64 0, .int .i64 0, .int .i64 0, .int .i64 0, .int .i64 0, .int .i64 0, .int .i64 0, .int .i64 0, .int .i64 0, .int .i64 0, .int .i64 0, .int .i64 0, .int .i64 0, .int .i64 0, .int .i64 0, .int .i64 0, .int .i64 0, .int .i64 0, .int .i64 0, .int .i64 0, .int .i64 0, .int .i64 0, .int .i64 0, .int .i64 0, .int .i64 0, .int .i64 0, .int .i64 0, .int .i64 0, .int .i64 0, .int .i64 0, .int .i64 0, .int .i64 0, .int .i64 0, .int .i64 0, .int .i64 0, .int .i64 0, .int .i64 0, .int .i64 0, .int .i64 0, .int .i64 0, .int .i64 0, .int .i64 0, .int .i64 0, .int .i64 0, .int .i64 0, .int .i64 0, .int .i64 0, .int .i64 0, .int .i64 0, .int .i64 0, .int .i64 0, .bool false, .bool false, .bool false, .bool false, .bool false, .bool false, .bool false, .bool false, .bool false, .bool false, .bool false, .bool false, .bool false, .bool false, .bool false, .bool false, .bool false, .bool false, .bool false, .bool false, .bool false, .bool false, .bool false, .bool false, .bool false, .bool false, .bool false, .bool false, .bool false, .bool false, .bool false, .bool false, .bool false, .bool false, .bool false, .bool false, .bool false, .bool false, .bool false, .bool false, .bool false, .bool false, .bool false, .bool false, .bool false, .bool false, .bool false, .bool false, .bool false, .bool false, .bool false, .bool false, .bool false, .bool false, .bool false, .bool false, .bool false, .bool false, .bool false, .bool false, .bool false, .bool false, .bool false, .bool false, .nilFunc])) := by kernel_rfl
@[simp] theorem by164 : (Try.prog.info? 164).map (·.bytes) = some 616 := by kernel_rfl
@[simp] theorem ty165 : tyQ Try.prog 165 = .struct [(0, 95, 1), (1, 161, 1), (2, 141, 64), (66, 162, 64), (130, 163, 1)] := by kernel_rfl
@[simp] theorem sz165 : sizeQ Try.prog 165 = some 131 := by kernel_rfl
@[simp] theorem zr165 : zeroQ Try.prog 165 = some (.agg (zrep 1 [.slice none 0 0, .int .i64 0, .int .i64 0, .int .i64 0, .int .i64 0, .int .i64 0, .int .i64 0, .int .i64 0, .int .i64 0, .int .i64 0, .int .i64 0, .int .i64 0, .int .i64 0, .int .i64 0, .int .i64 0, .int .i64 0, .int .i64 0, .int .i64 0, .int .i64 0, .int .i64 0, .int .i64 0, .int .i64 0, .int .i64 0, .int .i64 0, .int .i64 0, .int .i64 0, .int .i64 0, .int .i64 0, .int .i64 0, .int .i64 0, .int .i64 0, .int .i64 0, .int .i64 0, .int .i64 0, .int .i64 0, .int .i64 0, .int .i64 0, .int .i64 0, .int .i64 0, .int .i64 0, .int .i64 0, .int .i64 0, .int .i64 0, .int .i64 0, .int .i64 0, .int .i64 0, .int .i64 0, .int .i64 0, .int .i64 0, .int .i64 0, .int .i64 0, .int .i64 0, .int .i64 0, .int .i64 0, .int .i64 0, .int .i64 0, .int .i64 0, .int .i64 0, .int .i64 0, .int .i64 0, .int .i64 0, .int .i64 0, .int .i64 0, .int .i64 0, .int .i64 0, .int .i64 0, .bool false, .bool false, .bool false, .bool false, .bool false, .bool false, .bool false, .bool false, .bool false, .bool false, .bool false, .bool false, .bool false, .bool false, .bool false, .bool false, .bool false, .bool false, .bool false, .bool false, .bool false, .bool false, .bool false, .bool false, .bool false, .bool false, .bool false, .bool false, .bool false, .bool false, .bool false, .bool false, .bool false, .bool false, .bool false, .bool false, .bool false, .bool false, .bool false, .bool false, .bool false, .bool false, .bool false, .bool false, .bool false, .bool false, .bool false, .bool false, .bool false, .bool false, .bool false, .bool false, .bool false, .bool false, .bool false, .bool false, .bool false, .bool false, .bool false, .bool false, .bool false, .bool false, .bool false, .bool false, .nilFunc])) := by kernel_rfl
@[simp] theorem by165 : (Try.prog.info? 165).map (·.bytes) = some 616 := by kernel_rfl
@[simp] theorem ty166 : tyQ Try.prog 166 = .struct [(0, 3, 1), (1, 3, 1), (2, 3, 1), (3, 3, 1), (4, 3, 1), (5, 22, 1)] := by kernel_rfl
@[simp] theorem sz166 : sizeQ Try.prog 166 = some 6 := by kernel_rfl
@[simp] theorem zr166 : zeroQ Try.prog 166 = some (.agg #[.int .i64 0, .int .i64 0, .int .i64 0, .int .i64 0, .int .i64 0, .int .u32 0]) := by kernel_rfl
@[simp] theorem by166 : (Try.prog.info? 166).map (·.bytes) = some 48 := by kernel_rfl
@[simp] theorem eg166 : Try.prog.eqGuardType Try.prog.depth 166 = false := by kernel_rfl
@[simp] theorem ef166 : eqFsQ Try.prog 166 = some [(0, 3), (1, 3), (2, 3), (3, 3), (4, 3), (5, 22)] := by kernel_rfl
@[simp] theorem ty167 : tyQ Try.prog 167 = .struct [(0, 3, 1), (1, 3, 1), (2, 3, 1), (3, 3, 1), (4, 3, 1), (5, 22, 1)] := by kernel_rfl
@[simp] theorem sz167 : sizeQ Try.prog 167 = some 6 := by kernel_rfl
@[simp] theorem zr167 : zeroQ Try.prog 167 = some (.agg #[.int .i64 0, .int .i64 0, .int .i64 0, .int .i64 0, .int .i64 0, .int .u32 0]) := by kernel_rfl
@[simp] theorem by167 : (Try.prog.info? 167).map (·.bytes) = some 48 := by kernel_rfl
@[simp] theorem eg167 : Try.prog.eqGuardType Try.prog.depth 167 = false := by kernel_rfl
@[simp] theorem ef167 : eqFsQ Try.prog 167 = some [(0, 3), (1, 3), (2, 3), (3, 3), (4, 3), (5, 22)] := by kernel_rfl
@[simp] theorem ty168 : tyQ Try.prog 168 = .func := by kernel_rfl
@[simp] theorem sz168 : sizeQ Try.prog 168 = some 1 := by kernel_rfl
@[simp] theorem zr168 : zeroQ Try.prog 168 = some (.nilFunc) := by kernel_rfl
@[simp] theorem ty169 : tyQ Try.prog 169 = .func := by kernel_rfl
@[simp] theorem sz169 : sizeQ Try.prog 169 = some 1 := by kernel_rfl
@[simp] theorem zr169 : zeroQ Try.prog 169 = some (.nilFunc) := by kernel_rfl
@[simp] theorem ty170 : tyQ Try.prog 170 = .func := by kernel_rfl
@[simp] theorem sz170 : sizeQ Try.prog 170 = some 1 := by kernel_rfl
@[simp] theorem zr170 : zeroQ Try.prog 170 = some (.nilFunc) := by kernel_rfl
@[simp] theorem ty171 : tyQ Try.prog 171 = .func := by kernel_rfl
@[simp] theorem sz171 : sizeQ Try.prog 171 = some 1 := by kernel_rfl
@[simp] theorem zr171 : zeroQ Try.prog 171 = some (.nilFunc) := by kernel_rfl
@[simp] theorem ty173 : tyQ Try.prog 173 = .func := by kernel_rfl
@[simp] theorem sz173 : sizeQ Try.prog 173 = some 1 := by kernel_rfl
@[simp] theorem zr173 : zeroQ Try.prog 173 = some (.nilFunc) := by kernel_rfl
@[simp] theorem ty174 : tyQ Try.prog 174 = .ptr 176 := by kernel_rfl
@[simp] theorem sz174 : sizeQ Try.prog 174 = some 1 := by kernel_rfl
@[simp] theorem zr174 : zeroQ Try.prog 174 = some (.pointer none) := by kernel_rfl
@[simp] theorem by174 : (Try.prog.info? 174).map (·.bytes) = some 8 := by kernel_rfl
@[simp] theorem ty175 : tyQ Try.prog 175 = .struct [(0, 98, 1), (1, 141, 64), (65, 162, 64), (129, 3, 1)] := by kernel_rfl
@[simp] theorem sz175 : sizeQ Try.prog 175 = some 130 := by kernel_rfl
@[simp] theorem zr175 : zeroQ Try.prog 175 = some (.agg (zrep 1 [.slice none 0 0, .int .i64 0, .int .i64 0, .int .i64 0, .int .i64 0, .int .i64 0, .int .i64 0, .int .i64 0, .int .i64 0, .int .i64 0, .int .i64 0, .int .i64 0, .int .i64 0, .int .i64 0, .int .i64 0, .int .i64 0, .int .i64 0, .int .i64 0, .int .i64 0, .int .i64 0, .int .i64 0, .int .i64 0, .int .i64 0, .int .i64 0, .int .i64 0, .int .i64 0, .int .i64 0, .int .i64 0, .int .i64 0, .int .i64 0, .int .i64 0, .int .i64 0, .int .i64 0, .int .i64 0, .int .i64 0, .int .i64 0, .int .i64 0, .int .i64 0, .int .i64 0, .int .i64 0, .int .i64 0, .int .i64 0, .int .i64 0, .int .i64 0, .int .i64 0, .int .i64 0, .int .i64 0, .int .i64 0, .int .i64 0, .int .i64 0, .int .i64 0, .int .i64 0, .int .i64 0, .int .i64 0, .int .i64 0, .int .i64 0, .int .i64 0, .int .i64 0, .int .i64 0, .int .i64 0, .int .i64 0, .int .i64 0, .int .i64 0, .int .i64 0, .int .i64 0, .bool false, .bool false, .bool false, .bool false, .bool false, .bool false, .bool false, .bool false, .bool false, .bool false, .bool false, .bool false, .bool false, .bool false, .bool false, .bool false, .bool false, .bool false, .bool false, .bool false, .bool false, .bool false, .bool false, .bool false, .bool false, .bool false, .bool false, .bool false, .bool false, .bool false, .bool false, .bool false, .bool false, .bool false, .bool false, .bool false, .bool false, .bool false, .bool false, .bool false, .bool false, .bool false, .bool false, .bool false, .bool false, .bool false, .bool false, .bool false, .bool false, .bool false, .bool false, .bool false, .bool false, .bool false, .bool false, .bool false, .bool false, .bool false, .bool false, .bool false, .bool false, .bool false, .bool false, .bool false, .int .i64 0])) := by kernel_rfl
@[simp] theorem by175 : (Try.prog.info? 175).map (·.bytes) = some 608 := by kernel_rfl
@[simp] theorem ty176 : tyQ Try.prog 176 = .struct [(0, 98, 1), (1, 141, 64), (65, 162, 64), (129, 3, 1)] := by kernel_rfl
@[simp] theorem sz176 : sizeQ Try.prog 176 = some 130 := by kernel_rfl
@[simp] theorem zr176 : zeroQ Try.prog 176 = some (.agg (zrep 1 [.slice none 0 0, .int .i64 0, .int .i64 0, .int .i64 0, .int .i64 0, .int .i64 0, .int .i64 0, .int .i64 0, .int .i64 0, .int .i64 0, .int .i64 0, .int .i64 0, .int .i64 0, .int .i64 0, .int .i64 0, .int .i64 0, .int .i64 0, .int .i64 0, .int .i64 0, .int .i64 0, .int .i64 0, .int .i64 0, .int .i64 0, .int .i64 0, .int .i64 0, .int .i64 0, .int .i64 0, .int .i64 0, .int .i64 0, .int .i64 0, .int .i64 0, .int .i64 0, .int .i64 0, .int .i64 0, .int .i64 0, .int .i64 0, .int .i64 0, .int .i64 0, .int .i64 0, .int .i64 0, .int .i64 0, .int .i64 0, .int .i64 0, .int .i64 0, .int .i64 0, .int .i64 0, .int .i64 0, .int .i64 0, .int .i64 0, .int .i64 0, .int .i64 0, .int .i64 0, .int .i64 0, .int .i64 0, .int .i64 0, .int .i64 0, .int .i64 0, .int .i64 0, .int .i64 0, .int .i64 0, .int .i64 0, .int .i64 0, .int .i64 0, .int .i64 0, .int .i64 0, .bool false, .bool false, .bool false, .bool false, .bool false, .bool false, .bool false, .bool false, .bool false, .bool false, .bool false, .bool false, .bool false, .bool false, .bool false, .bool false, .bool false, .bool false, .bool false, .bool false, .bool false, .bool false, .bool false, .bool false, .bool false, .bool false, .bool false, .bool false, .bool false, .bool false, .bool false, .bool false, .bool false, .bool false, .bool false, .bool false, .bool false, .bool false, .bool false, .bool false, .bool false, .bool false, .bool false, .bool false, .bool false, .bool false, .bool false, .bool false, .bool false, .bool false, .bool false, .bool false, .bool false, .bool false, .bool false, .bool false, .bool false, .bool false, .bool false, .bool false, .bool false, .bool false, .bool false, .bool false, .int .i64 0])) := by kernel_rfl
@[simp] theorem by176 : (Try.prog.info? 176).map (·.bytes) = some 608 := by kernel_rfl
@[simp] theorem ty177 : tyQ Try.prog 177 = .func := by kernel_rfl
@[simp] theorem sz177 : sizeQ Try.prog 177 = some 1 := by kernel_rfl
@[simp] theorem zr177 : zeroQ Try.prog 177 = some (.nilFunc) := by kernel_rfl
@[simp] theorem ty178 : tyQ Try.prog 178 = .struct [(0, 3, 1), (1, 3, 1), (2, 3, 1), (3, 3, 1), (4, 3, 1), (5, 22, 1)] := by kernel_rfl
@[simp] theorem sz178 : sizeQ Try.prog 178 = some 6 := by kernel_rfl
@[simp] theorem zr178 : zeroQ Try.prog 178 = some (.agg #[.int .i64 0, .int .i64 0, .int .i64 0, .int .i64 0, .int .i64 0, .int .u32 0]) := by kernel_rfl
@[simp] theorem by178 : (Try.prog.info? 178).map (·.bytes) = some 48 := by kernel_rfl
@[simp] theorem eg178 : Try.prog.eqGuardType Try.prog.depth 178 = false := by kernel_rfl
@[simp] theorem ef178 : eqFsQ Try.prog 178 = some [(0, 3), (1, 3), (2, 3), (3, 3), (4, 3), (5, 22)] := by kernel_rfl
@[simp] theorem ty179 : tyQ Try.prog 179 = .func := by kernel_rfl
@[simp] theorem sz179 : sizeQ Try.prog 179 = some 1 := by kernel_rfl
@[simp] theorem zr179 : zeroQ Try.prog 179 = some (.nilFunc) := by kernel_rfl
@[simp] theorem ty180 : tyQ Try.prog 180 = .func := by kernel_rfl
@[simp] theorem sz180 : sizeQ Try.prog 180 = some 1 := by kernel_rfl
@[simp] theorem zr180 : zeroQ Try.prog 180 = some (.nilFunc) := by kernel_rfl
@[simp] theorem ty181 : tyQ Try.prog 181 = .func := by kernel_rfl
@[simp] theorem sz181 : sizeQ Try.prog 181 = some 1 := by kernel_rfl
@[simp] theorem zr181 : zeroQ Try.prog 181 = some (.nilFunc) := by kernel_rfl
@[simp] theorem ty182 : tyQ Try.prog 182 = .arr 12 4 1 := by kernel_rfl
@[simp] theorem sz182 : sizeQ Try.prog 182 = some 12 := by kernel_rfl
@[simp] theorem zr182 : zeroQ Try.prog 182 = some (.agg #[.bool false, .bool false, .bool false, .bool false, .bool false, .bool false, .bool false, .bool false, .bool false, .bool false, .bool false, .bool false]) := by kernel_rfl
@[simp] theorem eg182 : Try.prog.eqGuardType Try.prog.depth 182 = false := by kernel_rfl
@[simp] theorem ty183 : tyQ Try.prog 183 = .struct [(0, 4, 1), (1, 4, 1), (2, 4, 1), (3, 4, 1)] := by kernel_rfl
@[simp] theorem sz183 : sizeQ Try.prog 183 = some 4 := by kernel_rfl
@[simp] theorem zr183 : zeroQ Try.prog 183 = some (.agg #[.bool false, .bool false, .bool false, .bool false]) := by kernel_rfl
@[simp] theorem by183 : (Try.prog.info? 183).map (·.bytes) = some 4 := by kernel_rfl
@[simp] theorem eg183 : Try.prog.eqGuardType Try.prog.depth 183 = false := by kernel_rfl
@[simp] theorem ef183 : eqFsQ Try.prog 183 = some [(0, 4), (1, 4), (2, 4), (3, 4)] := by kernel_rfl
@[simp] theorem ty184 : tyQ Try.prog 184 = .struct [(0, 4, 1), (1, 4, 1), (2, 4, 1), (3, 4, 1)] := by kernel_rfl
@[simp] theorem sz184 : sizeQ Try.prog 184 = some 4 := by kernel_rfl
@[simp] theorem zr184 : zeroQ Try.prog 184 = some (.agg #[.bool false, .bool false, .bool false, .bool false]) := by kernel_rfl
@[simp] theorem by184 : (Try.prog.info? 184).map (·.bytes) = some 4 := by kernel_rfl
@[simp] theorem eg184 : Try.prog.eqGuardType Try.prog.depth 184 = false := by kernel_rfl
@[simp] theorem ef184 : eqFsQ Try.prog 184 = some [(0, 4), (1, 4), (2, 4), (3, 4)] := by kernel_rfl
@[simp] theorem ty186 : tyQ Try.prog 186 = .func := by kernel_rfl
@[simp] theorem sz186 : sizeQ Try.prog 186 = some 1 := by kernel_rfl
@[simp] theorem zr186 : zeroQ Try.prog 186 = some (.nilFunc) := by kernel_rfl
@[simp] theorem ty187 : tyQ Try.prog 187 = .func := by kernel_rfl
@[simp] theorem sz187 : sizeQ Try.prog 187 = some 1 := by kernel_rfl
@[simp] theorem zr187 : zeroQ Try.prog 187 = some (.nilFunc) := by kernel_rfl
@[simp] theorem ty188 : tyQ Try.prog 188 = .func := by kernel_rfl
@[simp] theorem sz188 : sizeQ Try.prog 188 = some 1 := by kernel_rfl
@[simp] theorem zr188 : zeroQ Try.prog 188 = some (.nilFunc) := by kernel_rfl
@[simp] theorem ty189 : tyQ Try.prog 189 = .sl 105 4 := by kernel_rfl
@[simp] theorem sz189 : sizeQ Try.prog 189 = some 1 := by kernel_rfl
@[simp] theorem zr189 : zeroQ Try.prog 189 = some (.slice none 0 0) := by kernel_rfl
@[simp] theorem by189 : (Try.prog.info? 189).map (·.bytes) = some 24 := by kernel_rfl
@[simp] theorem ty190 : tyQ Try.prog 190 = .int .u64 := by kernel_rfl
@[simp] theorem sz190 : sizeQ Try.prog 190 = some 1 := by kernel_rfl
@[simp] theorem zr190 : zeroQ Try.prog 190 = some (.int .u64 0) := by kernel_rfl
@[simp] theorem by190 : (Try.prog.info? 190).map (·.bytes) = some 8 := by kernel_rfl
@[simp] theorem ty191 : tyQ Try.prog 191 = .func := by kernel_rfl
@[simp] theorem sz191 : sizeQ Try.prog 191 = some 1 := by kernel_rfl
@[simp] theorem zr191 : zeroQ Try.prog 191 = some (.nilFunc) := by kernel_rfl
@[simp] theorem ty192 : tyQ Try.prog 192 = .func := by kernel_rfl
@[simp] theorem sz192 : sizeQ Try.prog 192 = some 1 := by kernel_rfl
@[simp] theorem zr192 : zeroQ Try.prog 192 = some (.nilFunc) := by kernel_rfl
@[simp] theorem ty193 : tyQ Try.prog 193 = .func := by kernel_rfl
@[simp] theorem sz193 : sizeQ Try.prog 193 = some 1 := by kernel_rfl
@[simp] theorem zr193 : zeroQ Try.prog 193 = some (.nilFunc) := by kernel_rfl
@[simp] theorem ty194 : tyQ Try.prog 194 = .map 22 198 := by kernel_rfl
@[simp] theorem sz194 : sizeQ Try.prog 194 = some 1 := by kernel_rfl
@[simp] theorem zr194 : zeroQ Try.prog 194 = some (.map none) := by kernel_rfl
@[simp] theorem ty195 : tyQ Try.prog 195 = .map 22 4 := by kernel_rfl
@[simp] theorem sz195 : sizeQ Try.prog 195 = some 1 := by kernel_rfl
@[simp] theorem zr195 : zeroQ Try.prog 195 = some (.map none) := by kernel_rfl
@[simp] theorem ty196 : tyQ Try.prog 196 = .struct [(0, 3, 1), (1, 161, 1), (2, 194, 1), (3, 195, 1), (4, 23, 1)] := by kernel_rfl
@[simp] theorem sz196 : sizeQ Try.prog 196 = some 5 := by kernel_rfl
@[simp] theorem zr196 : zeroQ Try.prog 196 = some (.agg #[.int .i64 0, .int .i64 0, .map none, .map none, .slice none 0 0]) := by kernel_rfl
@[simp] theorem by196 : (Try.prog.info? 196).map (·.bytes) = some 56 := by kernel_rfl
@[simp] theorem ty197 : tyQ Try.prog 197 = .struct [(0, 3, 1), (1, 161, 1), (2, 194, 1), (3, 195, 1), (4, 23, 1)] := by kernel_rfl
@[simp] theorem sz197 : sizeQ Try.prog 197 = some 5 := by kernel_rfl
@[simp] theorem zr197 : zeroQ Try.prog 197 = some (.agg #[.int .i64 0, .int .i64 0, .map none, .map none, .slice none 0 0]) := by kernel_rfl
@[simp] theorem by197 : (Try.prog.info? 197).map (·.bytes) = some 56 := by kernel_rfl
@[simp] theorem ty198 : tyQ Try.prog 198 = .ptr 237 := by kernel_rfl
@[simp] theorem sz198 : sizeQ Try.prog 198 = some 1 := by kernel_rfl
@[simp] theorem zr198 : zeroQ Try.prog 198 = some (.pointer none) := by kernel_rfl
@[simp] theorem by198 : (Try.prog.info? 198).map (·.bytes) = some 8 := by kernel_rfl
@[simp] theorem ty199 : tyQ Try.prog 199 = .func := by kernel_rfl
@[simp] theorem sz199 : sizeQ Try.prog 199 = some 1 := by kernel_rfl
@[simp] theorem zr199 : zeroQ Try.prog 199 = some (.nilFunc) := by kernel_rfl
@[simp] theorem ty200 : tyQ Try.prog 200 = .func := by kernel_rfl
@[simp] theorem sz200 : sizeQ Try.prog 200 = some 1 := by kernel_rfl
@[simp] theorem zr200 : zeroQ Try.prog 200 = some (.nilFunc) := by kernel_rfl
@[simp] theorem ty201 : tyQ Try.prog 201 = .func := by kernel_rfl
@[simp] theorem sz201 : sizeQ Try.prog 201 = some 1 := by kernel_rfl
@[simp] theorem zr201 : zeroQ Try.prog 201 = some (.nilFunc) := by kernel_rfl
@[simp] theorem ty202 : tyQ Try.prog 202 = .func := by kernel_rfl
@[simp] theorem sz202 : sizeQ Try.prog 202 = some 1 := by kernel_rfl
@[simp] theorem zr202 : zeroQ Try.prog 202 = some (.nilFunc) := by kernel_rfl
@[simp] theorem ty203 : tyQ Try.prog 203 = .func := by kernel_rfl
@[simp] theorem sz203 : sizeQ Try.prog 203 = some 1 := by kernel_rfl
@[simp] theorem zr203 : zeroQ Try.prog 203 = some (.nilFunc) := by kernel_rfl
@[simp] theorem ty204 : tyQ Try.prog 204 = .func := by kernel_rfl
@[simp] theorem sz204 : sizeQ Try.prog 204 = some 1 := by kernel_rfl
@[simp] theorem zr204 : zeroQ Try.prog 204 = some (.nilFunc) := by kernel_rfl
@[simp] theorem ty205 : tyQ Try.prog 205 = .sl 210 259 := by kernel_rfl
@[simp] theorem sz205 : sizeQ Try.prog 205 = some 1 := by kernel_rfl
@[simp] theorem zr205 : zeroQ Try.prog 205 = some (.slice none 0 0) := by kernel_rfl
@[simp] theorem by205 : (Try.prog.info? 205).map (·.bytes) = some 24 := by kernel_rfl
@[simp] theorem ty206 : tyQ Try.prog 206 = .struct [(0, 3, 1), (1, 205, 1), (2, 23, 1)] := by kernel_rfl
@[simp] theorem sz206 : sizeQ Try.prog 206 = some 3 := by kernel_rfl
@[simp] theorem zr206 : zeroQ Try.prog 206 = some (.agg #[.int .i64 0, .slice none 0 0, .slice none 0 0]) := by kernel_rfl
@[simp] theorem by206 : (Try.prog.info? 206).map (·.bytes) = some 56 := by kernel_rfl
@[simp] theorem ty207 : tyQ Try.prog 207 = .struct [(0, 3, 1), (1, 205, 1), (2, 23, 1)] := by kernel_rfl
@[simp] theorem sz207 : sizeQ Try.prog 207 = some 3 := by kernel_rfl
@[simp] theorem zr207 : zeroQ Try.prog 207 = some (.agg #[.int .i64 0, .slice none 0 0, .slice none 0 0]) := by kernel_rfl
@[simp] theorem by207 : (Try.prog.info? 207).map (·.bytes) = some 56 := by kernel_rfl
@[simp] theorem ty208 : tyQ Try.prog 208 = .arr 256 5 1 := by kernel_rfl
@[simp] theorem sz208 : sizeQ Try.prog 208 = some 256 := by kernel_rfl
@[simp] theorem zr208 : zeroQ Try.prog 208 = some (.agg (Array.replicate 256 (.int .u8 0))) := by kernel_rfl
@[simp] theorem eg208 : Try.prog.eqGuardType Try.prog.depth 208 = false := by kernel_rfl
@[simp] theorem ty209 : tyQ Try.prog 209 = .struct [(0, 22, 1), (1, 3, 1), (2, 208, 256), (258, 4, 1)] := by kernel_rfl
@[simp] theorem sz209 : sizeQ Try.prog 209 = some 259 := by kernel_rfl
@[simp] theorem zr209 : zeroQ Try.prog 209 = some (.agg (zrep 1 [.int .u32 0, .int .i64 0, .int .u8 0, .int .u8 0, .int .u8 0, .int .u8 0, .int .u8 0, .int .u8 0, .int .u8 0, .int .u8 0, .int .u8 0, .int .u8 0, .int .u8 0, .int .u8 0, .int .u8 0, .int .u8 0, .int .u8 0, .int .u8 0, .int .u8 0, .int .u8 0, .int .u8 0, .int .u8 0, .int .u8 0, .int .u8 0, .int .u8 0, .int .u8 0, .int .u8 0, .int .u8 0, .int .u8 0, .int .u8 0, .int .u8 0, .int .u8 0, .int .u8 0, .int .u8 0, .int .u8 0, .int .u8 0, .int .u8 0, .int .u8 0, .int .u8 0, .int .u8 0, .int .u8 0, .int .u8 0, .int .u8 0, .int .u8 0, .int .u8 0, .int .u8 0, .int .u8 0, .int .u8 0, .int .u8 0, .int .u8 0, .int .u8 0, .int .u8 0, .int .u8 0, .int .u8 0, .int .u8 0, .int .u8 0, .int .u8 0, .int .u8 0, .int .u8 0, .int .u8 0, .int .u8 0, .int .u8 0, .int .u8 0, .int .u8 0, .int .u8 0, .int .u8 0, .int .u8 0, .int .u8 0, .int .u8 0, .int .u8 0, .int .u8 0, .int .u8 0, .int .u8 0, .int .u8 0, .int .u8 0, .int .u8 0, .int .u8 0, .int .u8 0, .int .u8 0, .int .u8 0, .int .u8 0, .int .u8 0, .int .u8 0, .int .u8 0, .int .u8 0, .int .u8 0, .int .u8 0, .int .u8 0, .int .u8 0, .int .u8 0, .int .u8 0, .int .u8 0, .int .u8 0, .int .u8 0, .int .u8 0, .int .u8 0, .int .u8 0, .int .u8 0, .int .u8 0, .int .u8 0, .int .u8 0, .int .u8 0, .int .u8 0, .int .u8 0, .int .u8 0, .int .u8 0, .int .u8 0, .int .u8 0, .int .u8 0, .int .u8 0, .int .u8 0, .int .u8 0, .int .u8 0, .int .u8 0, .int .u8 0, .int .u8 0, .int .u8 0, .int .u8 0, .int .u8 0, .int .u8 0, .int .u8 0, .int .u8 0, .int .u8 0, .int .u8 0, .int .u8 0, .int .u8 0, .int .u8 0, .int .u8 0, .int .u8 0, .int .u8 0, .int .u8 0, .int .u8 0, .int .u8 0, .int .u8 0, .int .u8 0, .int .u8 0, .int .u8 0, .int .u8 0, .int .u8 0, .int .u8 0, .int .u8 0, .int .u8 0, .int .u8 0, .int .u8 0, .int .u8 0, .int .u8 0, .int .u8 0, .int .u8 0, .int .u8 0, .int .u8 0, .int .u8 0, .int .u8 0, .int .u8 0, .int .u8 0, .int .u8 0, .int .u8 0, .int .u8 0, .int .u8 0, .int .u8 0, .int .u8 0, .int .u8 0, .int .u8 0, .int .u8 0, .int .u8 0, .int .u8 0, .int .u8 0, .int .u8 0, .int .u8 0, .int .u8 0, .int .u8 0, .int .u8 0, .int .u8 0, .int .u8 0, .int .u8 0, .int .u8 0, .int .u8 0, .int .u8 0, .int .u8 0, .int .u8 0, .int .u8 0, .int .u8 0, .int .u8 0, .int .u8 0, .int .u8 0, .int .u8 0, .int .u8 0, .int .u8 0, .int .u8 0, .int .u8 0, .int .u8 0, .int .u8 0, .int .u8 0, .int .u8 0, .int .u8 0, .int .u8 0, .int .u8 0, .int .u8 0, .int .u8 0, .int .u8 0, .int .u8 0, .int .u8 0, .int .u8 0, .int .u8 0, .int .u8 0, .int .u8 0, .int .u8 0, .int .u8 0, .int .u8 0, .int .u8 0, .int .u8 0, .int .u8 0, .int .u8 0, .int .u8 0, .int .u8 0, .int .u8 0, .int .u8 0, .int .u8 0, .int .u8 0, .int .u8 0, .int .u8 0, .int .u8 0, .int .u8 0, .int .u8 0, .int .u8 0, .int .u8 0, .int .u8 0, .int .u8 0, .int .u8 0, .int .u8 0, .int .u8 0, .int .u8 0, .int .u8 0, .int .u8 0, .int .u8 0, .int .u8 0, .int .u8 0, .int .u8 0, .int .u8 0, .int .u8 0, .int .u8 0, .int .u8 0, .int .u8 0, .int .u8 0, .int .u8 0, .int .u8 0, .int .u8 0, .int .u8 0, .int .u8 0, .int .u8 0, .int .u8 0, .int .u8 0, .int .u8 0, .int .u8 0, .int .u8 0, .int .u8 0, .int .u8 0, .int .u8 0, .int .u8 0, .bool false])) := by kernel_rfl
@[simp] theorem by209 : (Try.prog.info? 209).map (·.bytes) = some 280 := by kernel_rfl
@[simp] theorem eg209 : Try.prog.eqGuardType Try.prog.depth 209 = false := by kernel_rfl
@[simp] theorem ef209 : eqFsQ Try.prog 209 = some [(0, 22), (1, 3), (2, 208), (258, 4)] := by kernel_rfl
@[simp] theorem ty210 : tyQ Try.prog 210 = .struct [(0, 22, 1), (1, 3, 1), (2, 208, 256), (258, 4, 1)] := by kernel_rfl
@[simp] theorem sz210 : sizeQ Try.prog 210 = some 259 := by kernel_rfl
@[simp] theorem zr210 : zeroQ Try.prog 210 = some (.agg (zrep 1 [.int .u32 0, .int .i64 0, .int .u8 0, .int .u8 0, .int .u8 0, .int .u8 0, .int .u8 0, .int .u8 0, .int .u8 0, .int .u8 0, .int .u8 0, .int .u8 0, .int .u8 0, .int .u8 0, .int .u8 0, .int .u8 0, .int .u8 0, .int .u8 0, .int .u8 0, .int .u8 0, .int .u8 0, .int .u8 0, .int .u8 0, .int .u8 0, .int .u8 0, .int .u8 0, .int .u8 0, .int .u8 0, .int .u8 0, .int .u8 0, .int .u8 0, .int .u8 0, .int .u8 0, .int .u8 0, .int .u8 0, .int .u8 0, .int .u8 0, .int .u8 0, .int .u8 0, .int .u8 0, .int .u8 0, .int .u8 0, .int .u8 0, .int .u8 0, .int .u8 0, .int .u8 0, .int .u8 0, .int .u8 0, .int .u8 0, .int .u8 0, .int .u8 0, .int .u8 0, .int .u8 0, .int .u8 0, .int .u8 0, .int .u8 0, .int .u8 0, .int .u8 0, .int .u8 0, .int .u8 0, .int .u8 0, .int .u8 0, .int .u8 0, .int .u8 0, .int .u8 0, .int .u8 0, .int .u8 0, .int .u8 0, .int .u8 0, .int .u8 0, .int .u8 0, .int .u8 0, .int .u8 0, .int .u8 0, .int .u8 0, .int .u8 0, .int .u8 0, .int .u8 0, .int .u8 0, .int .u8 0, .int .u8 0, .int .u8 0, .int .u8 0, .int .u8 0, .int .u8 0, .int .u8 0, .int .u8 0, .int .u8 0, .int .u8 0, .int .u8 0, .int .u8 0, .int .u8 0, .int .u8 0, .int .u8 0, .int .u8 0, .int .u8 0, .int .u8 0, .int .u8 0, .int .u8 0, .int .u8 0, .int .u8 0, .int .u8 0, .int .u8 0, .int .u8 0, .int .u8 0, .int .u8 0, .int .u8 0, .int .u8 0, .int .u8 0, .int .u8 0, .int .u8 0, .int .u8 0, .int .u8 0, .int .u8 0, .int .u8 0, .int .u8 0, .int .u8 0, .int .u8 0, .int .u8 0, .int .u8 0, .int .u8 0, .int .u8 0, .int .u8 0, .int .u8 0, .int .u8 0, .int .u8 0, .int .u8 0, .int .u8 0, .int .u8 0, .int .u8 0, .int .u8 0, .int .u8 0, .int .u8 0, .int .u8 0, .int .u8 0, .int .u8 0, .int .u8 0, .int .u8 0, .int .u8 0, .int .u8 0, .int .u8 0, .int .u8 0, .int .u8 0, .int .u8 0, .int .u8 0, .int .u8 0, .int .u8 0, .int .u8 0, .int .u8 0, .int .u8 0, .int .u8 0, .int .u8 0, .int .u8 0, .int .u8 0, .int .u8 0, .int .u8 0, .int .u8 0, .int .u8 0, .int .u8 0, .int .u8 0, .int .u8 0, .int .u8 0, .int .u8 0, .int .u8 0, .int .u8 0, .int .u8 0, .int .u8 0, .int .u8 0, .int .u8 0, .int .u8 0, .int .u8 0, .int .u8 0, .int .u8 0, .int .u8 0, .int .u8 0, .int .u8 0, .int .u8 0, .int .u8 0, .int .u8 0, .int .u8 0, .int .u8 0, .int .u8 0, .int .u8 0, .int .u8 0, .int .u8 0, .int .u8 0, .int .u8 0, .int .u8 0, .int .u8 0, .int .u8 0, .int .u8 0, .int .u8 0, .int .u8 0, .int .u8 0, .int .u8 0, .int .u8 0, .int .u8 0, .int .u8 0, .int .u8 0, .int .u8 0, .int .u8 0, .int .u8 0, .int .u8 0, .int .u8 0, .int .u8 0, .int .u8 0, .int .u8 0, .int .u8 0, .int .u8 0, .int .u8 0, .int .u8 0, .int .u8 0, .int .u8 0, .int .u8 0, .int .u8 0, .int .u8 0, .int .u8 0, .int .u8 0, .int .u8 0, .int .u8 0, .int .u8 0, .int .u8 0, .int .u8 0, .int .u8 0, .int .u8 0, .int .u8 0, .int .u8 0, .int .u8 0, .int .u8 0, .int .u8 0, .int .u8 0, .int .u8 0, .int .u8 0, .int .u8 0, .int .u8 0, .int .u8 0, .int .u8 0, .int .u8 0, .int .u8 0, .int .u8 0, .int .u8 0, .int .u8 0, .int .u8 0, .int .u8 0, .int .u8 0, .int .u8 0, .int .u8 0, .int .u8 0, .int .u8 0, .int .u8 0, .int .u8 0, .int .u8 0, .int .u8 0, .int .u8 0, .int .u8 0, .int .u8 0, .int .u8 0, .int .u8 0, .bool false])) := by kernel_rfl
@[simp] theorem by210 : (Try.prog.info? 210).map (·.bytes) = some 280 := by kernel_rfl
@[simp] theorem eg210 : Try.prog.eqGuardType Try.prog.depth 210 = false := by kernel_rfl
@[simp] theorem ef210 : eqFsQ Try.prog 210 = some [(0, 22), (1, 3), (2, 208), (258, 4)] := by kernel_rfl
@[simp] theorem ty211 : tyQ Try.prog 211 = .func := by kernel_rfl
@[simp] theorem sz211 : sizeQ Try.prog 211 = some 1 := by kernel_rfl
@[simp] theorem zr211 : zeroQ Try.prog 211 = some (.nilFunc) := by kernel_rfl
@[simp] theorem ty212 : tyQ Try.prog 212 = .func := by kernel_rfl
@[simp] theorem sz212 : sizeQ Try.prog 212 = some 1 := by kernel_rfl
@[simp] theorem zr212 : zeroQ Try.prog 212 = some (.nilFunc) := by kernel_rfl
@[simp] theorem ty213 : tyQ Try.prog 213 = .func := by kernel_rfl
@[simp] theorem sz213 : sizeQ Try.prog 213 = some 1 := by kernel_rfl
@[simp] theorem zr213 : zeroQ Try.prog 213 = some (.nilFunc) := by kernel_rfl
@[simp] theorem ty214 : tyQ Try.prog 214 = .func := by kernel_rfl
@[simp] theorem sz214 : sizeQ Try.prog 214 = some 1 := by kernel_rfl
@[simp] theorem zr214 : zeroQ Try.prog 214 = some (.nilFunc) := by kernel_rfl
@[simp] theorem ty216 : tyQ Try.prog 216 = .func := by kernel_rfl
@[simp] theorem sz216 : sizeQ Try.prog 216 = some 1 := by kernel_rfl
@[simp] theorem zr216 : zeroQ Try.prog 216 = some (.nilFunc) := by kernel_rfl
@[simp] theorem ty217 : tyQ Try.prog 217 = .func := by kernel_rfl
@[simp] theorem sz217 : sizeQ Try.prog 217 = some 1 := by kernel_rfl
@[simp] theorem zr217 : zeroQ Try.prog 217 = some (.nilFunc) := by kernel_rfl
@[simp] theorem ty218 : tyQ Try.prog 218 = .ptr 162 := by kernel_rfl
@[simp] theorem sz218 : sizeQ Try.prog 218 = some 1 := by kernel_rfl
@[simp] theorem zr218 : zeroQ Try.prog 218 = some (.pointer none) := by kernel_rfl
@[simp] theorem by218 : (Try.prog.info? 218).map (·.bytes) = some 8 := by kernel_rfl
@[simp] theorem ty219 : tyQ Try.prog 219 = .struct [(0, 4, 1), (1, 4, 1), (2, 4, 1), (3, 4, 1), (4, 4, 1)] := by kernel_rfl
@[simp] theorem sz219 : sizeQ Try.prog 219 = some 5 := by kernel_rfl
@[simp] theorem zr219 : zeroQ Try.prog 219 = some (.agg #[.bool false, .bool false, .bool false, .bool false, .bool false]) := by kernel_rfl
@[simp] theorem by219 : (Try.prog.info? 219).map (·.bytes) = some 5 := by kernel_rfl
@[simp] theorem eg219 : Try.prog.eqGuardType Try.prog.depth 219 = false := by kernel_rfl
@[simp] theorem ef219 : eqFsQ Try.prog 219 = some [(0, 4), (1, 4), (2, 4), (3, 4), (4, 4)] := by kernel_rfl
@[simp] theorem ty220 : tyQ Try.prog 220 = .struct [(0, 4, 1), (1, 4, 1), (2, 4, 1), (3, 4, 1), (4, 4, 1)] := by kernel_rfl
@[simp] theorem sz220 : sizeQ Try.prog 220 = some 5 := by kernel_rfl
@[simp] theorem zr220 : zeroQ Try.prog 220 = some (.agg #[.bool false, .bool false, .bool false, .bool false, .bool false]) := by kernel_rfl
@[simp] theorem by220 : (Try.prog.info? 220).map (·.bytes) = some 5 := by kernel_rfl
@[simp] theorem eg220 : Try.prog.eqGuardType Try.prog.depth 220 = false := by kernel_rfl
@[simp] theorem ef220 : eqFsQ Try.prog 220 = some [(0, 4), (1, 4), (2, 4), (3, 4), (4, 4)] := by kernel_rfl
@[simp] theorem ty222 : tyQ Try.prog 222 = .func := by kernel_rfl
@[simp] theorem sz222 : sizeQ Try.prog 222 = some 1 := by kernel_rfl
@[simp] theorem zr222 : zeroQ Try.prog 222 = some (.nilFunc) := by kernel_rfl
@[simp] theorem ty223 : tyQ Try.prog 223 = .func := by kernel_rfl
@[simp] theorem sz223 : sizeQ Try.prog 223 = some 1 := by kernel_rfl
@[simp] theorem zr223 : zeroQ Try.prog 223 = some (.nilFunc) := by kernel_rfl
@[simp] theorem ty224 : tyQ Try.prog 224 = .func := by kernel_rfl
@[simp] theorem sz224 : sizeQ Try.prog 224 = some 1 := by kernel_rfl
@[simp] theorem zr224 : zeroQ Try.prog 224 = some (.nilFunc) := by kernel_rfl
@[simp] theorem ty225 : tyQ Try.prog 225 = .func := by kernel_rfl
@[simp] theorem sz225 : sizeQ Try.prog 225 = some 1 := by kernel_rfl
@[simp] theorem zr225 : zeroQ Try.prog 225 = some (.nilFunc) := by kernel_rfl
@[simp] theorem ty226 : tyQ Try.prog 226 = .func := by kernel_rfl
@[simp] theorem sz226 : sizeQ Try.prog 226 = some 1 := by kernel_rfl
@[simp] theorem zr226 : zeroQ Try.prog 226 = some (.nilFunc) := by kernel_rfl
@[simp] theorem ty227 : tyQ Try.prog 227 = .ptr 161 := by kernel_rfl
@[simp] theorem sz227 : sizeQ Try.prog 227 = some 1 := by kernel_rfl
@[simp] theorem zr227 : zeroQ Try.prog 227 = some (.pointer none) := by kernel_rfl
@[simp] theorem by227 : (Try.prog.info? 227).map (·.bytes) = some 8 := by kernel_rfl
@[simp] theorem ty228 : tyQ Try.prog 228 = .func := by kernel_rfl
@[simp] theorem sz228 : sizeQ Try.prog 228 = some 1 := by kernel_rfl
@[simp] theorem zr228 : zeroQ Try.prog 228 = some (.nilFunc) := by kernel_rfl
@[simp] theorem ty229 : tyQ Try.prog 229 = .ptr 2 := by kernel_rfl
@[simp] theorem sz229 : sizeQ Try.prog 229 = some 1 := by kernel_rfl
@[simp] theorem zr229 : zeroQ Try.prog 229 = some (.pointer none) := by kernel_rfl
@[simp] theorem by229 : (Try.prog.info? 229).map (·.bytes) = some 8 := by kernel_rfl
@[simp] theorem ty230 : tyQ Try.prog 230 = .arr 3 110 1 := by kernel_rfl
@[simp] theorem sz230 : sizeQ Try.prog 230 = some 3 := by kernel_rfl
@[simp] theorem zr230 : zeroQ Try.prog 230 = some (.agg #[.pointer none, .pointer none, .pointer none]) := by kernel_rfl
@[simp] theorem ty231 : tyQ Try.prog 231 = .func := by kernel_rfl
@[simp] theorem sz231 : sizeQ Try.prog 231 = some 1 := by kernel_rfl
@[simp] theorem zr231 : zeroQ Try.prog 231 = some (.nilFunc) := by kernel_rfl
@[simp] theorem ty232 : tyQ Try.prog 232 = .arr 4 5 1 := by kernel_rfl
@[simp] theorem sz232 : sizeQ Try.prog 232 = some 4 := by kernel_rfl
@[simp] theorem zr232 : zeroQ Try.prog 232 = some (.agg #[.int .u8 0, .int .u8 0, .int .u8 0, .int .u8 0]) := by kernel_rfl
@[simp] theorem eg232 : Try.prog.eqGuardType Try.prog.depth 232 = false := by kernel_rfl
@[simp] theorem ty233 : tyQ Try.prog 233 = .func := by kernel_rfl
@[simp] theorem sz233 : sizeQ Try.prog 233 = some 1 := by kernel_rfl
@[simp] theorem zr233 : zeroQ Try.prog 233 = some (.nilFunc) := by kernel_rfl
@[simp] theorem ty234 : tyQ Try.prog 234 = .arr 8 5 1 := by kernel_rfl
@[simp] theorem sz234 : sizeQ Try.prog 234 = some 8 := by kernel_rfl
@[simp] theorem zr234 : zeroQ Try.prog 234 = some (.agg #[.int .u8 0, .int .u8 0, .int .u8 0, .int .u8 0, .int .u8 0, .int .u8 0, .int .u8 0, .int .u8 0]) := by kernel_rfl
@[simp] theorem eg234 : Try.prog.eqGuardType Try.prog.depth 234 = false := by kernel_rfl
@[simp] theorem ty235 : tyQ Try.prog 235 = .func := by kernel_rfl
@[simp] theorem sz235 : sizeQ Try.prog 235 = some 1 := by kernel_rfl
@[simp] theorem zr235 : zeroQ Try.prog 235 = some (.nilFunc) := by kernel_rfl
@[simp] theorem ty236 : tyQ Try.prog 236 = .struct [(0, 208, 256), (256, 3, 1), (257, 161, 1)] := by kernel_rfl
@[simp] theorem sz236 : sizeQ Try.prog 236 = some 258 := by kernel_rfl
@[simp] theorem zr236 : zeroQ Try.prog 236 = some (.agg (zrep 1 [.int .u8 0, .int .u8 0, .int .u8 0, .int .u8 0, .int .u8 0, .int .u8 0, .int .u8 0, .int .u8 0, .int .u8 0, .int .u8 0, .int .u8 0, .int .u8 0, .int .u8 0, .int .u8 0, .int .u8 0, .int .u8 0, .int .u8 0, .int .u8 0, .int .u8 0, .int .u8 0, .int .u8 0, .int .u8 0, .int .u8 0, .int .u8 0, .int .u8 0, .int .u8 0, .int .u8 0, .int .u8 0, .int .u8 0, .int .u8 0, .int .u8 0, .int .u8 0, .int .u8 0, .int .u8 0, .int .u8 0, .int .u8 0, .int .u8 0, .int .u8 0, .int .u8 0, .int .u8 0, .int .u8 0, .int .u8 0, .int .u8 0, .int .u8 0, .int .u8 0, .int .u8 0, .int .u8 0, .int .u8 0, .int .u8 0, .int .u8 0, .int .u8 0, .int .u8 0, .int .u8 0, .int .u8 0, .int .u8 0, .int .u8 0, .int .u8 0, .int .u8 0, .int .u8 0, .int .u8 0, .int .u8 0, .int .u8 0, .int .u8 0, .int .u8 0, .int .u8 0, .int .u8 0, .int .u8 0, .int .u8 0, .int .u8 0, .int .u8 0, .int .u8 0, .int .u8 0, .int .u8 0, .int .u8 0, .int .u8 0, .int .u8 0, .int .u8 0, .int .u8 0, .int .u8 0, .int .u8 0, .int .u8 0, .int .u8 0, .int .u8 0, .int .u8 0, .int .u8 0, .int .u8 0, .int .u8 0, .int .u8 0, .int .u8 0, .int .u8 0, .int .u8 0, .int .u8 0, .int .u8 0, .int .u8 0, .int .u8 0, .int .u8 0, .int .u8 0, .int .u8 0, .int .u8 0, .int .u8 0, .int .u8 0, .int .u8 0, .int .u8 0, .int .u8 0, .int .u8 0, .int .u8 0, .int .u8 0, .int .u8 0, .int .u8 0, .int .u8 0, .int .u8 0, .int .u8 0, .int .u8 0, .int .u8 0, .int .u8 0, .int .u8 0, .int .u8 0, .int .u8 0, .int .u8 0, .int .u8 0, .int .u8 0, .int .u8 0, .int .u8 0, .int .u8 0, .int .u8 0, .int .u8 0, .int .u8 0, .int .u8 0, .int .u8 0, .int .u8 0, .int .u8 0, .int .u8 0, .int .u8 0, .int .u8 0, .int .u8 0, .int .u8 0, .int .u8 0, .int .u8 0, .int .u8 0, .int .u8 0, .int .u8 0, .int .u8 0, .int .u8 0, .int .u8 0, .int .u8 0, .int .u8 0, .int .u8 0, .int .u8 0, .int .u8 0, .int .u8 0, .int .u8 0, .int .u8 0, .int .u8 0, .int .u8 0, .int .u8 0, .int .u8 0, .int .u8 0, .int .u8 0, .int .u8 0, .int .u8 0, .int .u8 0, .int .u8 0, .int .u8 0, .int .u8 0, .int .u8 0, .int .u8 0, .int .u8 0, .int .u8 0, .int .u8 0, .int .u8 0, .int .u8 0, .int .u8 0, .int .u8 0, .int .u8 0, .int .u8 0, .int .u8 0, .int .u8 0, .int .u8 0, .int .u8 0, .int .u8 0, .int .u8 0, .int .u8 0, .int .u8 0, .int .u8 0, .int .u8 0, .int .u8 0, .int .u8 0, .int .u8 0, .int .u8 0, .int .u8 0, .int .u8 0, .int .u8 0, .int .u8 0, .int .u8 0, .int .u8 0, .int .u8 0, .int .u8 0, .int .u8 0, .int .u8 0, .int .u8 0, .int .u8 0, .int .u8 0, .int .u8 0, .int .u8 0, .int .u8 0, .int .u8 0, .int .u8 0, .int .u8 0, .int .u8 0, .int .u8 0, .int .u8 0, .int .u8 0, .int .u8 0, .int .u8 0, .int .u8 0, .int .u8 0, .int .u8 0, .int .u8 0, .int .u8 0, .int .u8 0, .int .u8 0, .int .u8 0, .int .u8 0, .int .u8 0, .int .u8 0, .int .u8 0, .int .u8 0, .int .u8 0, .int .u8 0, .int .u8 0, .int .u8 0, .int .u8 0, .int .u8 0, .int .u8 0, .int .u8 0, .int .u8 0, .int .u8 0, .int .u8 0, .int .u8 0, .int .u8 0, .int .u8 0, .int .u8 0, .int .u8 0, .int .u8 0, .int .u8 0, .int .u8 0, .int .u8 0, .int .u8 0, .int .u8 0, .int .u8 0, .int .u8 0, .int .u8 0, .int .u8 0, .int .u8 0, .int .u8 0, .int .u8 0, .int .i64 0, .int .i64 0])) := by kernel_rfl
@[simp] theorem by236 : (Try.prog.info? 236).map (·.bytes) = some 272 := by kernel_rfl
@[simp] theorem eg236 : Try.prog.eqGuardType Try.prog.depth 236 = false := by kernel_rfl
@[simp] theorem ef236 : eqFsQ Try.prog 236 = some [(0, 208), (256, 3), (257, 161)] := by kernel_rfl
@[simp] theorem ty237 : tyQ Try.prog 237 = .struct [(0, 208, 256), (256, 3, 1), (257, 161, 1)] := by kernel_rfl
@[simp] theorem sz237 : sizeQ Try.prog 237 = some 258 := by kernel_rfl
@[simp] theorem zr237 : zeroQ Try.prog 237 = some (.agg (zrep 1 [.int .u8 0, .int .u8 0, .int .u8 0, .int .u8 0, .int .u8 0, .int .u8 0, .int .u8 0, .int .u8 0, .int .u8 0, .int .u8 0, .int .u8 0, .int .u8 0, .int .u8 0, .int .u8 0, .int .u8 0, .int .u8 0, .int .u8 0, .int .u8 0, .int .u8 0, .int .u8 0, .int .u8 0, .int .u8 0, .int .u8 0, .int .u8 0, .int .u8 0, .int .u8 0, .int .u8 0, .int .u8 0, .int .u8 0, .int .u8 0, .int .u8 0, .int .u8 0, .int .u8 0, .int .u8 0, .int .u8 0, .int .u8 0, .int .u8 0, .int .u8 0, .int .u8 0, .int .u8 0, .int .u8 0, .int .u8 0, .int .u8 0, .int .u8 0, .int .u8 0, .int .u8 0, .int .u8 0, .int .u8 0, .int .u8 0, .int .u8 0, .int .u8 0, .int .u8 0, .int .u8 0, .int .u8 0, .int .u8 0, .int .u8 0, .int .u8 0, .int .u8 0, .int .u8 0, .int .u8 0, .int .u8 0, .int .u8 0, .int .u8 0, .int .u8 0, .int .u8 0, .int .u8 0, .int .u8 0, .int .u8 0, .int .u8 0, .int .u8 0, .int .u8 0, .int .u8 0, .int .u8 0, .int .u8 0, .int .u8 0, .int .u8 0, .int .u8 0, .int .u8 0, .int .u8 0, .int .u8 0, .int .u8 0, .int .u8 0, .int .u8 0, .int .u8 0, .int .u8 0, .int .u8 0, .int .u8 0, .int .u8 0, .int .u8 0, .int .u8 0, .int .u8 0, .int .u8 0, .int .u8 0, .int .u8 0, .int .u8 0, .int .u8 0, .int .u8 0, .int .u8 0, .int .u8 0, .int .u8 0, .int .u8 0, .int .u8 0, .int .u8 0, .int .u8 0, .int .u8 0, .int .u8 0, .int .u8 0, .int .u8 0, .int .u8 0, .int .u8 0, .int .u8 0, .int .u8 0, .int .u8 0, .int .u8 0, .int .u8 0, .int .u8 0, .int .u8 0, .int .u8 0, .int .u8 0, .int .u8 0, .int .u8 0, .int .u8 0, .int .u8 0, .int .u8 0, .int .u8 0, .int .u8 0, .int .u8 0, .int .u8 0, .int .u8 0, .int .u8 0, .int .u8 0, .int .u8 0, .int .u8 0, .int .u8 0, .int .u8 0, .int .u8 0, .int .u8 0, .int .u8 0, .int .u8 0, .int .u8 0, .int .u8 0, .int .u8 0, .int .u8 0, .int .u8 0, .int .u8 0, .int .u8 0, .int .u8 0, .int .u8 0, .int .u8 0, .int .u8 0, .int .u8 0, .int .u8 0, .int .u8 0, .int .u8 0, .int .u8 0, .int .u8 0, .int .u8 0, .int .u8 0, .int .u8 0, .int .u8 0, .int .u8 0, .int .u8 0, .int .u8 0, .int .u8 0, .int .u8 0, .int .u8 0, .int .u8 0, .int .u8 0, .int .u8 0, .int .u8 0, .int .u8 0, .int .u8 0, .int .u8 0, .int .u8 0, .int .u8 0, .int .u8 0, .int .u8 0, .int .u8 0, .int .u8 0, .int .u8 0, .int .u8 0, .int .u8 0, .int .u8 0, .int .u8 0, .int .u8 0, .int .u8 0, .int .u8 0, .int .u8 0, .int .u8 0, .int .u8 0, .int .u8 0, .int .u8 0, .int .u8 0, .int .u8 0, .int .u8 0, .int .u8 0, .int .u8 0, .int .u8 0, .int .u8 0, .int .u8 0, .int .u8 0, .int .u8 0, .int .u8 0, .int .u8 0, .int .u8 0, .int .u8 0, .int .u8 0, .int .u8 0, .int .u8 0, .int .u8 0, .int .u8 0, .int .u8 0, .int .u8 0, .int .u8 0, .int .u8 0, .int .u8 0, .int .u8 0, .int .u8 0, .int .u8 0, .int .u8 0, .int .u8 0, .int .u8 0, .int .u8 0, .int .u8 0, .int .u8 0, .int .u8 0, .int .u8 0, .int .u8 0, .int .u8 0, .int .u8 0, .int .u8 0, .int .u8 0, .int .u8 0, .int .u8 0, .int .u8 0, .int .u8 0, .int .u8 0, .int .u8 0, .int .u8 0, .int .u8 0, .int .u8 0, .int .u8 0, .int .u8 0, .int .u8 0, .int .u8 0, .int .u8 0, .int .u8 0, .int .u8 0, .int .u8 0, .int .u8 0, .int .u8 0, .int .u8 0, .int .u8 0, .int .u8 0, .int .u8 0, .int .u8 0, .int .i64 0, .int .i64 0])) := by kernel_rfl
@[simp] theorem by237 : (Try.prog.info? 237).map (·.bytes) = some 272 := by kernel_rfl
@[simp] theorem eg237 : Try.prog.eqGuardType Try.prog.depth 237 = false := by kernel_rfl
@[simp] theorem ef237 : eqFsQ Try.prog 237 = some [(0, 208), (256, 3), (257, 161)] := by kernel_rfl
@[simp] theorem ty238 : tyQ Try.prog 238 = .func := by kernel_rfl
@[simp] theorem sz238 : sizeQ Try.prog 238 = some 1 := by kernel_rfl
@[simp] theorem zr238 : zeroQ Try.prog 238 = some (.nilFunc) := by kernel_rfl
@[simp] theorem ty239 : tyQ Try.prog 239 = .func := by kernel_rfl
@[simp] theorem sz239 : sizeQ Try.prog 239 = some 1 := by kernel_rfl
@[simp] theorem zr239 : zeroQ Try.prog 239 = some (.nilFunc) := by kernel_rfl
@[simp] theorem ty240 : tyQ Try.prog 240 = .func := by kernel_rfl
@[simp] theorem sz240 : sizeQ Try.prog 240 = some 1 := by kernel_rfl
@[simp] theorem zr240 : zeroQ Try.prog 240 = some (.nilFunc) := by kernel_rfl
@[simp] theorem ty241 : tyQ Try.prog 241 = .func := by kernel_rfl
@[simp] theorem sz241 : sizeQ Try.prog 241 = some 1 := by kernel_rfl
@[simp] theorem zr241 : zeroQ Try.prog 241 = some (.nilFunc) := by kernel_rfl
@[simp] theorem ty242 : tyQ Try.prog 242 = .func := by kernel_rfl
@[simp] theorem sz242 : sizeQ Try.prog 242 = some 1 := by kernel_rfl
@[simp] theorem zr242 : zeroQ Try.prog 242 = some (.nilFunc) := by kernel_rfl
@[simp] theorem ty243 : tyQ Try.prog 243 = .int .i64 := by kernel_rfl
@[simp] theorem sz243 : sizeQ Try.prog 243 = some 1 := by kernel_rfl
@[simp] theorem zr243 : zeroQ Try.prog 243 = some (.int .i64 0) := by kernel_rfl
@[simp] theorem by243 : (Try.prog.info? 243).map (·.bytes) = some 8 := by kernel_rfl
@[simp] theorem ty245 : tyQ Try.prog 245 = .func := by kernel_rfl
@[simp] theorem sz245 : sizeQ Try.prog 245 = some 1 := by kernel_rfl
@[simp] theorem zr245 : zeroQ Try.prog 245 = some (.nilFunc) := by kernel_rfl
@[simp] theorem ty246 : tyQ Try.prog 246 = .func := by kernel_rfl
@[simp] theorem sz246 : sizeQ Try.prog 246 = some 1 := by kernel_rfl
@[simp] theorem zr246 : zeroQ Try.prog 246 = some (.nilFunc) := by kernel_rfl
@[simp] theorem ty247 : tyQ Try.prog 247 = .func := by kernel_rfl
@[simp] theorem sz247 : sizeQ Try.prog 247 = some 1 := by kernel_rfl
@[simp] theorem zr247 : zeroQ Try.prog 247 = some (.nilFunc) := by kernel_rfl
@[simp] theorem ty249 : tyQ Try.prog 249 = .func := by kernel_rfl
@[simp] theorem sz249 : sizeQ Try.prog 249 = some 1 := by kernel_rfl
@[simp] theorem zr249 : zeroQ Try.prog 249 = some (.nilFunc) := by kernel_rfl
@[simp] theorem ty250 : tyQ Try.prog 250 = .func := by kernel_rfl
@[simp] theorem sz250 : sizeQ Try.prog 250 = some 1 := by kernel_rfl
@[simp] theorem zr250 : zeroQ Try.prog 250 = some (.nilFunc) := by kernel_rfl
@[simp] theorem ty251 : tyQ Try.prog 251 = .int .u64 := by kernel_rfl
@[simp] theorem sz251 : sizeQ Try.prog 251 = some 1 := by kernel_rfl
@[simp] theorem zr251 : zeroQ Try.prog 251 = some (.int .u64 0) := by kernel_rfl
@[simp] theorem by251 : (Try.prog.info? 251).map (·.bytes) = some 8 := by kernel_rfl
@[simp] theorem ty252 : tyQ Try.prog 252 = .func := by kernel_rfl
@[simp] theorem sz252 : sizeQ Try.prog 252 = some 1 := by kernel_rfl
@[simp] theorem zr252 : zeroQ Try.prog 252 = some (.nilFunc) := by kernel_rfl
@[simp] theorem ty253 : tyQ Try.prog 253 = .func := by kernel_rfl
@[simp] theorem sz253 : sizeQ Try.prog 253 = some 1 := by kernel_rfl
@[simp] theorem zr253 : zeroQ Try.prog 253 = some (.nilFunc) := by kernel_rfl
@[simp] theorem ty254 : tyQ Try.prog 254 = .func := by kernel_rfl
@[simp] theorem sz254 : sizeQ Try.prog 254 = some 1 := by kernel_rfl
@[simp] theorem zr254 : zeroQ Try.prog 254 = some (.nilFunc) := by kernel_rfl
@[simp] theorem ty255 : tyQ Try.prog 255 = .func := by kernel_rfl
@[simp] theorem sz255 : sizeQ Try.prog 255 = some 1 := by kernel_rfl
@[simp] theorem zr255 : zeroQ Try.prog 255 = some (.nilFunc) := by kernel_rfl
@[simp] theorem ty256 : tyQ Try.prog 256 = .ptr 251 := by kernel_rfl
@[simp] theorem sz256 : sizeQ Try.prog 256 = some 1 := by kernel_rfl
@[simp] theorem zr256 : zeroQ Try.prog 256 = some (.pointer none) := by kernel_rfl
@[simp] theorem by256 : (Try.prog.info? 256).map (·.bytes) = some 8 := by kernel_rfl
@[simp] theorem ty258 : tyQ Try.prog 258 = .func := by kernel_rfl
@[simp] theorem sz258 : sizeQ Try.prog 258 = some 1 := by kernel_rfl
@[simp] theorem zr258 : zeroQ Try.prog 258 = some (.nilFunc) := by kernel_rfl
@[simp] theorem ty259 : tyQ Try.prog 259 = .func := by kernel_rfl
@[simp] theorem sz259 : sizeQ Try.prog 259 = some 1 := by kernel_rfl
@[simp] theorem zr259 : zeroQ Try.prog 259 = some (.nilFunc) := by kernel_rfl
@[simp] theorem ty260 : tyQ Try.prog 260 = .struct [(0, 17, 1), (1, 17, 1), (2, 17, 1), (3, 9, 1)] := by kernel_rfl
@[simp] theorem sz260 : sizeQ Try.prog 260 = some 4 := by kernel_rfl
@[simp] theorem zr260 : zeroQ Try.prog 260 = some (.agg #[.pointer none, .pointer none, .pointer none, .string .empty]) := by kernel_rfl
@[simp] theorem by260 : (Try.prog.info? 260).map (·.bytes) = some 40 := by kernel_rfl
@[simp] theorem ty261 : tyQ Try.prog 261 = .struct [(0, 17, 1), (1, 17, 1), (2, 17, 1), (3, 9, 1)] := by kernel_rfl
@[simp] theorem sz261 : sizeQ Try.prog 261 = some 4 := by kernel_rfl
@[simp] theorem zr261 : zeroQ Try.prog 261 = some (.agg #[.pointer none, .pointer none, .pointer none, .string .empty]) := by kernel_rfl
@[simp] theorem by261 : (Try.prog.info? 261).map (·.bytes) = some 40 := by kernel_rfl
@[simp] theorem ty262 : tyQ Try.prog 262 = .arr 0 16 1 := by kernel_rfl
@[simp] theorem sz262 : sizeQ Try.prog 262 = some 0 := by kernel_rfl
@[simp] theorem zr262 : zeroQ Try.prog 262 = some (.agg #[]) := by kernel_rfl
@[simp] theorem ty263 : tyQ Try.prog 263 = .struct [(0, 262, 0)] := by kernel_rfl
@[simp] theorem sz263 : sizeQ Try.prog 263 = some 0 := by kernel_rfl
@[simp] theorem zr263 : zeroQ Try.prog 263 = some (.agg #[]) := by kernel_rfl
@[simp] theorem by263 : (Try.prog.info? 263).map (·.bytes) = some 0 := by kernel_rfl
@[simp] theorem ty264 : tyQ Try.prog 264 = .struct [(0, 262, 0)] := by kernel_rfl
@[simp] theorem sz264 : sizeQ Try.prog 264 = some 0 := by kernel_rfl
@[simp] theorem zr264 : zeroQ Try.prog 264 = some (.agg #[]) := by kernel_rfl
@[simp] theorem by264 : (Try.prog.info? 264).map (·.bytes) = some 0 := by kernel_rfl
@[simp] theorem ty265 : tyQ Try.prog 265 = .int .u8 := by kernel_rfl
@[simp] theorem sz265 : sizeQ Try.prog 265 = some 1 := by kernel_rfl
@[simp] theorem zr265 : zeroQ Try.prog 265 = some (.int .u8 0) := by kernel_rfl
@[simp] theorem by265 : (Try.prog.info? 265).map (·.bytes) = some 1 := by kernel_rfl
@[simp] theorem ty266 : tyQ Try.prog 266 = .int .u8 := by kernel_rfl
@[simp] theorem sz266 : sizeQ Try.prog 266 = some 1 := by kernel_rfl
@[simp] theorem zr266 : zeroQ Try.prog 266 = some (.int .u8 0) := by kernel_rfl
@[simp] theorem by266 : (Try.prog.info? 266).map (·.bytes) = some 1 := by kernel_rfl
@[simp] theorem ty267 : tyQ Try.prog 267 = .func := by kernel_rfl
@[simp] theorem sz267 : sizeQ Try.prog 267 = some 1 := by kernel_rfl
@[simp] theorem zr267 : zeroQ Try.prog 267 = some (.nilFunc) := by kernel_rfl
@[simp] theorem ty268 : tyQ Try.prog 268 = .ptr 5 := by kernel_rfl
@[simp] theorem sz268 : sizeQ Try.prog 268 = some 1 := by kernel_rfl
@[simp] theorem zr268 : zeroQ Try.prog 268 = some (.pointer none) := by kernel_rfl
@[simp] theorem by268 : (Try.prog.info? 268).map (·.bytes) = some 8 := by kernel_rfl
@[simp] theorem ty269 : tyQ Try.prog 269 = .int .i32 := by kernel_rfl
@[simp] theorem sz269 : sizeQ Try.prog 269 = some 1 := by kernel_rfl
@[simp] theorem zr269 : zeroQ Try.prog 269 = some (.int .i32 0) := by kernel_rfl
@[simp] theorem by269 : (Try.prog.info? 269).map (·.bytes) = some 4 := by kernel_rfl
@[simp] theorem ty270 : tyQ Try.prog 270 = .int .i32 := by kernel_rfl
@[simp] theorem sz270 : sizeQ Try.prog 270 = some 1 := by kernel_rfl
@[simp] theorem zr270 : zeroQ Try.prog 270 = some (.int .i32 0) := by kernel_rfl
@[simp] theorem by270 : (Try.prog.info? 270).map (·.bytes) = some 4 := by kernel_rfl
@[simp] theorem ty271 : tyQ Try.prog 271 = .struct [(0, 12, 1), (1, 12, 1), (2, 22, 1), (3, 265, 1), (4, 5, 1), (5, 5, 1), (6, 266, 1), (7, 267, 1), (8, 268, 1), (9, 269, 1), (10, 270, 1)] := by kernel_rfl
@[simp] theorem sz271 : sizeQ Try.prog 271 = some 11 := by kernel_rfl
@[simp] theorem zr271 : zeroQ Try.prog 271 = some (.agg #[.int .u64 0, .int .u64 0, .int .u32 0, .int .u8 0, .int .u8 0, .int .u8 0, .int .u8 0, .nilFunc, .pointer none, .int .i32 0, .int .i32 0]) := by kernel_rfl
@[simp] theorem by271 : (Try.prog.info? 271).map (·.bytes) = some 48 := by kernel_rfl
@[simp] theorem ty272 : tyQ Try.prog 272 = .struct [(0, 12, 1), (1, 12, 1), (2, 22, 1), (3, 265, 1), (4, 5, 1), (5, 5, 1), (6, 266, 1), (7, 267, 1), (8, 268, 1), (9, 269, 1), (10, 270, 1)] := by kernel_rfl
@[simp] theorem sz272 : sizeQ Try.prog 272 = some 11 := by kernel_rfl
@[simp] theorem zr272 : zeroQ Try.prog 272 = some (.agg #[.int .u64 0, .int .u64 0, .int .u32 0, .int .u8 0, .int .u8 0, .int .u8 0, .int .u8 0, .nilFunc, .pointer none, .int .i32 0, .int .i32 0]) := by kernel_rfl
@[simp] theorem by272 : (Try.prog.info? 272).map (·.bytes) = some 48 := by kernel_rfl
@[simp] theorem mixed : Try.prog.follows .mixedOrders = true := by kernel_rfl

end Go.Lm
