/- A part of the proof: facts of the types and functions. -/
import Derived.Test.YtgjinkacngkgdaaDoorEvX
import Derived.Test.YtgjinkacngkgdaaDoorProg
import Derived.KernelRfl
namespace Go.Ev
open Go.Proofs
noncomputable def env : Env := ⟨Tryd.prog, []⟩
theorem env_md : env.md = [] := rfl
theorem env_P : env.P = Tryd.prog := rfl
theorem ty0 : env.ty 0 = ⟨0, 1, false, .self, [.dead], .unit, 0, 0, 0, [], true, false⟩ := by kernel_rfl
theorem ty1 : env.ty 1 = ⟨0, 1, false, .self, [.dead], .unit, 0, 0, 0, [], true, true⟩ := by kernel_rfl
theorem ty2 : env.ty 2 = ⟨5, 1, false, (.int .i64), [.val false (.int .i64) (0:Int)], .unit, 0, 0, 0, [], true, true⟩ := by kernel_rfl
theorem ty3 : env.ty 3 = ⟨5, 1, false, (.int .i64), [.val false (.int .i64) (0:Int)], .unit, 0, 0, 0, [], true, true⟩ := by kernel_rfl
theorem ty4 : env.ty 4 = ⟨6, 1, false, .bool, [.val false .bool false], .unit, 0, 0, 0, [], true, true⟩ := by kernel_rfl
theorem ty5 : env.ty 5 = ⟨5, 1, false, (.int .u8), [.val false (.int .u8) (0:Int)], .unit, 0, 0, 0, [], true, true⟩ := by kernel_rfl
theorem ty6 : env.ty 6 = ⟨5, 1, false, (.int .u8), [.val false (.int .u8) (0:Int)], .unit, 0, 0, 0, [], true, true⟩ := by kernel_rfl
theorem ty7 : env.ty 7 = ⟨3, 4, true, (.pair (.int .i64) (.pair (.int .i64) (.pair .bool (.pair (.int .u8) .unit)))), [.val false (.int .i64) (0:Int), .val false (.int .i64) (0:Int), .val false .bool false, .val false (.int .u8) (0:Int)], .unit, 0, 0, 0, [(0, 1, false), (1, 1, false), (2, 1, false), (3, 1, false)], true, true⟩ := by kernel_rfl
theorem ty8 : env.ty 8 = ⟨3, 4, true, (.pair (.int .i64) (.pair (.int .i64) (.pair .bool (.pair (.int .u8) .unit)))), [.val false (.int .i64) (0:Int), .val false (.int .i64) (0:Int), .val false .bool false, .val false (.int .u8) (0:Int)], .unit, 0, 0, 0, [(0, 1, false), (1, 1, false), (2, 1, false), (3, 1, false)], true, true⟩ := by kernel_rfl
theorem ty9 : env.ty 9 = ⟨4, 1, false, .str, [.val false .str []], .unit, 0, 0, 0, [], true, true⟩ := by kernel_rfl
theorem ty10 : env.ty 10 = ⟨4, 1, false, .str, [.val false .str []], .unit, 0, 0, 0, [], true, true⟩ := by kernel_rfl
theorem ty11 : env.ty 11 = ⟨4, 1, false, .str, [.val false .str []], .unit, 0, 0, 0, [], true, true⟩ := by kernel_rfl
theorem ty12 : env.ty 12 = ⟨5, 1, false, (.int .u64), [.val false (.int .u64) (0:Int)], .unit, 0, 0, 0, [], true, true⟩ := by kernel_rfl
theorem ty13 : env.ty 13 = ⟨3, 2, true, (.pair .str (.pair (.int .u64) .unit)), [.val false .str [], .val false (.int .u64) (0:Int)], .unit, 0, 0, 0, [(0, 1, false), (1, 1, false)], true, true⟩ := by kernel_rfl
theorem ty14 : env.ty 14 = ⟨3, 2, true, (.pair .str (.pair (.int .u64) .unit)), [.val false .str [], .val false (.int .u64) (0:Int)], .unit, 0, 0, 0, [(0, 1, false), (1, 1, false)], true, true⟩ := by kernel_rfl
theorem ty15 : env.ty 15 = ⟨0, 1, false, .self, [.dead], .unit, 0, 0, 0, [], true, true⟩ := by kernel_rfl
theorem ty16 : env.ty 16 = ⟨0, 1, false, .self, [.dead], .unit, 0, 0, 0, [], true, true⟩ := by kernel_rfl
theorem ty17 : env.ty 17 = ⟨0, 1, false, .self, [.dead], .unit, 0, 0, 0, [], true, true⟩ := by kernel_rfl
theorem ty18 : env.ty 18 = ⟨3, 1, true, (.pair .self .unit), [.dead], .unit, 0, 0, 0, [(0, 1, false)], true, true⟩ := by kernel_rfl
theorem ty19 : env.ty 19 = ⟨3, 1, true, (.pair .self .unit), [.dead], .unit, 0, 0, 0, [(0, 1, false)], true, true⟩ := by kernel_rfl
theorem ty20 : env.ty 20 = ⟨0, 1, false, .self, [.dead], .unit, 0, 0, 0, [], true, true⟩ := by kernel_rfl
theorem ty21 : env.ty 21 = ⟨5, 1, false, (.int .i32), [.val false (.int .i32) (0:Int)], .unit, 0, 0, 0, [], true, true⟩ := by kernel_rfl
theorem ty22 : env.ty 22 = ⟨1, 1, false, (.sl (.int .i64)), [.val false .nl ()], (.int .i64), 1, 8, 0, [], true, true⟩ := by kernel_rfl
theorem ty23 : env.ty 23 = ⟨3, 2, true, (.pair (.int .i64) (.pair (.sl (.int .i64)) .unit)), [.val false (.int .i64) (0:Int), .val false .nl ()], .unit, 0, 0, 0, [(0, 1, false), (1, 1, false)], true, true⟩ := by kernel_rfl
theorem ty24 : env.ty 24 = ⟨3, 2, true, (.pair (.int .i64) (.pair (.sl (.int .i64)) .unit)), [.val false (.int .i64) (0:Int), .val false .nl ()], .unit, 0, 0, 0, [(0, 1, false), (1, 1, false)], true, true⟩ := by kernel_rfl
theorem ty25 : env.ty 25 = ⟨1, 1, false, (.sl (.sl (.int .i64))), [.val false .nl ()], (.sl (.int .i64)), 1, 24, 0, [], true, true⟩ := by kernel_rfl
theorem ty26 : env.ty 26 = ⟨3, 7, true, (.pair (.int .i64) (.pair (.int .i64) (.pair (.sl (.int .i64)) (.pair .str (.pair (.sl (.int .i64)) (.pair (.sl (.int .i64)) (.pair (.sl (.sl (.int .i64))) .unit))))))), [.val false (.int .i64) (0:Int), .val false (.int .i64) (0:Int), .val false .nl (), .val false .str [], .val false .nl (), .val false .nl (), .val false .nl ()], .unit, 0, 0, 0, [(0, 1, false), (1, 2, true), (3, 1, false), (4, 1, false), (5, 1, false), (6, 1, false)], true, true⟩ := by kernel_rfl
theorem ty27 : env.ty 27 = ⟨3, 7, true, (.pair (.int .i64) (.pair (.int .i64) (.pair (.sl (.int .i64)) (.pair .str (.pair (.sl (.int .i64)) (.pair (.sl (.int .i64)) (.pair (.sl (.sl (.int .i64))) .unit))))))), [.val false (.int .i64) (0:Int), .val false (.int .i64) (0:Int), .val false .nl (), .val false .str [], .val false .nl (), .val false .nl (), .val false .nl ()], .unit, 0, 0, 0, [(0, 1, false), (1, 2, true), (3, 1, false), (4, 1, false), (5, 1, false), (6, 1, false)], true, true⟩ := by kernel_rfl
theorem ty28 : env.ty 28 = ⟨0, 1, false, .self, [.dead], .unit, 0, 0, 0, [], true, true⟩ := by kernel_rfl
theorem ty29 : env.ty 29 = ⟨0, 1, false, .self, [.dead], .unit, 0, 0, 0, [], true, true⟩ := by kernel_rfl
theorem ty30 : env.ty 30 = ⟨3, 2, true, (.pair (.int .i64) (.pair (.sl (.int .i64)) .unit)), [.val false (.int .i64) (0:Int), .val false .nl ()], .unit, 0, 0, 0, [(0, 1, false), (1, 1, false)], true, true⟩ := by kernel_rfl
theorem ty31 : env.ty 31 = ⟨3, 7, true, (.pair (.int .i64) (.pair (.int .i64) (.pair (.sl (.int .i64)) (.pair .str (.pair (.sl (.int .i64)) (.pair (.sl (.int .i64)) (.pair (.sl (.sl (.int .i64))) .unit))))))), [.val false (.int .i64) (0:Int), .val false (.int .i64) (0:Int), .val false .nl (), .val false .str [], .val false .nl (), .val false .nl (), .val false .nl ()], .unit, 0, 0, 0, [(0, 1, false), (1, 2, true), (3, 1, false), (4, 1, false), (5, 1, false), (6, 1, false)], true, true⟩ := by kernel_rfl
theorem ty32 : env.ty 32 = ⟨3, 7, true, (.pair (.int .i64) (.pair (.int .i64) (.pair (.sl (.int .i64)) (.pair .str (.pair (.sl (.int .i64)) (.pair (.sl (.int .i64)) (.pair (.sl (.sl (.int .i64))) .unit))))))), [.val false (.int .i64) (0:Int), .val false (.int .i64) (0:Int), .val false .nl (), .val false .str [], .val false .nl (), .val false .nl (), .val false .nl ()], .unit, 0, 0, 0, [(0, 1, false), (1, 2, true), (3, 1, false), (4, 1, false), (5, 1, false), (6, 1, false)], true, true⟩ := by kernel_rfl
theorem ty33 : env.ty 33 = ⟨0, 1, false, .self, [.dead], .unit, 0, 0, 0, [], true, true⟩ := by kernel_rfl
theorem ty34 : env.ty 34 = ⟨0, 1, false, .self, [.dead], .unit, 0, 0, 0, [], true, true⟩ := by kernel_rfl
theorem ty35 : env.ty 35 = ⟨0, 1, false, .self, [.dead], .unit, 0, 0, 0, [], true, true⟩ := by kernel_rfl
theorem ty36 : env.ty 36 = ⟨1, 1, false, (.sl (.pair .bool (.pair (.int .i64) (.pair (.int .i64) .unit)))), [.val false .nl ()], (.pair .bool (.pair (.int .i64) (.pair (.int .i64) .unit))), 3, 24, 0, [], true, true⟩ := by kernel_rfl
theorem ty37 : env.ty 37 = ⟨0, 1, false, .self, [.dead], .unit, 0, 0, 0, [], true, false⟩ := by kernel_rfl
theorem ty38 : env.ty 38 = ⟨0, 1, false, .self, [.dead], .unit, 0, 0, 0, [], true, true⟩ := by kernel_rfl
theorem ty39 : env.ty 39 = ⟨0, 1, false, .self, [.dead], .unit, 0, 0, 0, [], true, true⟩ := by kernel_rfl
theorem ty40 : env.ty 40 = ⟨0, 1, false, .self, [.dead], .unit, 0, 0, 0, [], true, true⟩ := by kernel_rfl
theorem ty41 : env.ty 41 = ⟨0, 1, false, .self, [.dead], .unit, 0, 0, 0, [], true, true⟩ := by kernel_rfl
theorem ty42 : env.ty 42 = ⟨0, 1, false, .self, [.dead], .unit, 0, 0, 0, [], true, true⟩ := by kernel_rfl
theorem ty43 : env.ty 43 = ⟨0, 1, false, .self, [.dead], .unit, 0, 0, 0, [], true, true⟩ := by kernel_rfl
theorem ty44 : env.ty 44 = ⟨0, 1, false, .self, [.dead], .unit, 0, 0, 0, [], true, true⟩ := by kernel_rfl
theorem ty45 : env.ty 45 = ⟨0, 1, false, .self, [.dead], .unit, 0, 0, 0, [], true, true⟩ := by kernel_rfl
theorem ty46 : env.ty 46 = ⟨0, 1, false, .self, [.dead], .unit, 0, 0, 0, [], true, true⟩ := by kernel_rfl
theorem ty47 : env.ty 47 = ⟨0, 1, false, .self, [.dead], .unit, 0, 0, 0, [], true, true⟩ := by kernel_rfl
theorem ty48 : env.ty 48 = ⟨0, 1, false, .self, [.dead], .unit, 0, 0, 0, [], true, true⟩ := by kernel_rfl
theorem ty49 : env.ty 49 = ⟨0, 1, false, .self, [.dead], .unit, 0, 0, 0, [], true, true⟩ := by kernel_rfl
theorem ty50 : env.ty 50 = ⟨0, 1, false, .self, [.dead], .unit, 0, 0, 0, [], true, true⟩ := by kernel_rfl
theorem ty51 : env.ty 51 = ⟨0, 1, false, .self, [.dead], .unit, 0, 0, 0, [], true, true⟩ := by kernel_rfl
theorem ty52 : env.ty 52 = ⟨0, 1, false, .self, [.dead], .unit, 0, 0, 0, [], true, true⟩ := by kernel_rfl
theorem ty53 : env.ty 53 = ⟨0, 1, false, .self, [.dead], .unit, 0, 0, 0, [], true, true⟩ := by kernel_rfl
theorem ty54 : env.ty 54 = ⟨1, 1, false, (.sl .str), [.val false .nl ()], .str, 1, 16, 0, [], true, true⟩ := by kernel_rfl
theorem ty55 : env.ty 55 = ⟨0, 1, false, .self, [.dead], .unit, 0, 0, 0, [], true, true⟩ := by kernel_rfl
theorem ty56 : env.ty 56 = ⟨0, 1, false, .self, [.dead], .unit, 0, 0, 0, [], true, true⟩ := by kernel_rfl
theorem ty57 : env.ty 57 = ⟨0, 1, false, .self, [.dead], .unit, 0, 0, 0, [], true, true⟩ := by kernel_rfl
theorem ty58 : env.ty 58 = ⟨0, 1, false, .self, [.dead], .unit, 0, 0, 0, [], true, true⟩ := by kernel_rfl
theorem ty59 : env.ty 59 = ⟨0, 1, false, .self, [.dead], .unit, 0, 0, 0, [], true, true⟩ := by kernel_rfl
theorem ty60 : env.ty 60 = ⟨3, 3, true, (.pair .bool (.pair (.int .i64) (.pair (.int .i64) .unit))), [.val false .bool false, .val false (.int .i64) (0:Int), .val false (.int .i64) (0:Int)], .unit, 0, 0, 0, [(0, 1, false), (1, 1, false), (2, 1, false)], true, true⟩ := by kernel_rfl
theorem ty61 : env.ty 61 = ⟨3, 3, true, (.pair .bool (.pair (.int .i64) (.pair (.int .i64) .unit))), [.val false .bool false, .val false (.int .i64) (0:Int), .val false (.int .i64) (0:Int)], .unit, 0, 0, 0, [(0, 1, false), (1, 1, false), (2, 1, false)], true, true⟩ := by kernel_rfl
theorem ty62 : env.ty 62 = ⟨0, 1, false, .self, [.dead], .unit, 0, 0, 0, [], true, true⟩ := by kernel_rfl
theorem ty63 : env.ty 63 = ⟨0, 1, false, .self, [.dead], .unit, 0, 0, 0, [], true, true⟩ := by kernel_rfl
theorem ty64 : env.ty 64 = ⟨0, 1, false, .self, [.dead], .unit, 0, 0, 0, [], true, true⟩ := by kernel_rfl
theorem ty65 : env.ty 65 = ⟨0, 1, false, .self, [.dead], .unit, 0, 0, 0, [], true, true⟩ := by kernel_rfl
theorem ty66 : env.ty 66 = ⟨0, 1, false, .self, [.dead], .unit, 0, 0, 0, [], true, true⟩ := by kernel_rfl
theorem ty67 : env.ty 67 = ⟨2, 7, true, (.pair .str (.pair .str (.pair .str (.pair .str (.pair .str (.pair .str (.pair .str .unit))))))), [.val false .str [], .val false .str [], .val false .str [], .val false .str [], .val false .str [], .val false .str [], .val false .str []], .unit, 1, 0, 7, [], true, true⟩ := by kernel_rfl
theorem ty68 : env.ty 68 = ⟨0, 1, false, .self, [.dead], .unit, 0, 0, 0, [], true, true⟩ := by kernel_rfl
theorem ty69 : env.ty 69 = ⟨0, 1, false, .self, [.dead], .unit, 0, 0, 0, [], true, true⟩ := by kernel_rfl
theorem ty70 : env.ty 70 = ⟨1, 1, false, (.sl (.int .u8)), [.val false .nl ()], (.int .u8), 1, 1, 0, [], true, true⟩ := by kernel_rfl
theorem ty71 : env.ty 71 = ⟨3, 2, true, (.pair .self (.pair (.sl (.int .u8)) .unit)), [.dead, .val false .nl ()], .unit, 0, 0, 0, [(0, 1, false), (1, 1, false)], true, true⟩ := by kernel_rfl
theorem ty72 : env.ty 72 = ⟨3, 2, true, (.pair .self (.pair (.sl (.int .u8)) .unit)), [.dead, .val false .nl ()], .unit, 0, 0, 0, [(0, 1, false), (1, 1, false)], true, true⟩ := by kernel_rfl
theorem ty73 : env.ty 73 = ⟨0, 1, false, .self, [.dead], .unit, 0, 0, 0, [], true, true⟩ := by kernel_rfl
theorem ty74 : env.ty 74 = ⟨0, 1, false, .self, [.dead], .unit, 0, 0, 0, [], true, true⟩ := by kernel_rfl
theorem ty75 : env.ty 75 = ⟨0, 1, false, .self, [.dead], .unit, 0, 0, 0, [], true, true⟩ := by kernel_rfl
theorem ty76 : env.ty 76 = ⟨0, 1, false, .self, [.dead], .unit, 0, 0, 0, [], true, false⟩ := by kernel_rfl
theorem ty77 : env.ty 77 = ⟨0, 1, false, .self, [.dead], .unit, 0, 0, 0, [], true, true⟩ := by kernel_rfl
theorem ty78 : env.ty 78 = ⟨0, 1, false, .self, [.dead], .unit, 0, 0, 0, [], true, true⟩ := by kernel_rfl
theorem ty79 : env.ty 79 = ⟨0, 1, false, .self, [.dead], .unit, 0, 0, 0, [], true, true⟩ := by kernel_rfl
theorem ty80 : env.ty 80 = ⟨0, 1, false, .self, [.dead], .unit, 0, 0, 0, [], true, true⟩ := by kernel_rfl
theorem ty81 : env.ty 81 = ⟨0, 1, false, .self, [.dead], .unit, 0, 0, 0, [], true, true⟩ := by kernel_rfl
theorem ty82 : env.ty 82 = ⟨0, 1, false, .self, [.dead], .unit, 0, 0, 0, [], true, true⟩ := by kernel_rfl
theorem ty83 : env.ty 83 = ⟨0, 1, false, .self, [.dead], .unit, 0, 0, 0, [], true, true⟩ := by kernel_rfl
theorem ty84 : env.ty 84 = ⟨0, 1, false, .self, [.dead], .unit, 0, 0, 0, [], true, true⟩ := by kernel_rfl
theorem ty85 : env.ty 85 = ⟨0, 1, false, .self, [.dead], .unit, 0, 0, 0, [], true, true⟩ := by kernel_rfl
theorem ty86 : env.ty 86 = ⟨0, 1, false, .self, [.dead], .unit, 0, 0, 0, [], true, true⟩ := by kernel_rfl
theorem ty87 : env.ty 87 = ⟨0, 1, false, .self, [.dead], .unit, 0, 0, 0, [], true, true⟩ := by kernel_rfl
theorem ty88 : env.ty 88 = ⟨0, 1, false, .self, [.dead], .unit, 0, 0, 0, [], true, true⟩ := by kernel_rfl
theorem ty89 : env.ty 89 = ⟨0, 1, false, .self, [.dead], .unit, 0, 0, 0, [], true, true⟩ := by kernel_rfl
theorem ty90 : env.ty 90 = ⟨0, 1, false, .self, [.dead], .unit, 0, 0, 0, [], true, true⟩ := by kernel_rfl
theorem ty91 : env.ty 91 = ⟨0, 1, false, .self, [.dead], .unit, 0, 0, 0, [], true, false⟩ := by kernel_rfl
theorem ty92 : env.ty 92 = ⟨0, 1, false, .self, [.dead], .unit, 0, 0, 0, [], true, true⟩ := by kernel_rfl
theorem ty93 : env.ty 93 = ⟨0, 1, false, .self, [.dead], .unit, 0, 0, 0, [], true, true⟩ := by kernel_rfl
theorem ty94 : env.ty 94 = ⟨0, 1, false, .self, [.dead], .unit, 0, 0, 0, [], true, true⟩ := by kernel_rfl
theorem ty95 : env.ty 95 = ⟨0, 1, false, .self, [.dead], .unit, 0, 0, 0, [], true, true⟩ := by kernel_rfl
theorem ty96 : env.ty 96 = ⟨5, 1, false, (.int .u64), [.val false (.int .u64) (0:Int)], .unit, 0, 0, 0, [], true, true⟩ := by kernel_rfl
theorem ty97 : env.ty 97 = ⟨2, 24, true, (.pair (.int .u8) (.pair (.int .u8) (.pair (.int .u8) (.pair (.int .u8) (.pair (.int .u8) (.pair (.int .u8) (.pair (.int .u8) (.pair (.int .u8) (.pair (.int .u8) (.pair (.int .u8) (.pair (.int .u8) (.pair (.int .u8) (.pair (.int .u8) (.pair (.int .u8) (.pair (.int .u8) (.pair (.int .u8) (.pair (.int .u8) (.pair (.int .u8) (.pair (.int .u8) (.pair (.int .u8) (.pair (.int .u8) (.pair (.int .u8) (.pair (.int .u8) (.pair (.int .u8) .unit)))))))))))))))))))))))), [.val false (.int .u8) (0:Int), .val false (.int .u8) (0:Int), .val false (.int .u8) (0:Int), .val false (.int .u8) (0:Int), .val false (.int .u8) (0:Int), .val false (.int .u8) (0:Int), .val false (.int .u8) (0:Int), .val false (.int .u8) (0:Int), .val false (.int .u8) (0:Int), .val false (.int .u8) (0:Int), .val false (.int .u8) (0:Int), .val false (.int .u8) (0:Int), .val false (.int .u8) (0:Int), .val false (.int .u8) (0:Int), .val false (.int .u8) (0:Int), .val false (.int .u8) (0:Int), .val false (.int .u8) (0:Int), .val false (.int .u8) (0:Int), .val false (.int .u8) (0:Int), .val false (.int .u8) (0:Int), .val false (.int .u8) (0:Int), .val false (.int .u8) (0:Int), .val false (.int .u8) (0:Int), .val false (.int .u8) (0:Int)], .unit, 1, 0, 24, [], true, true⟩ := by kernel_rfl
theorem ty98 : env.ty 98 = ⟨5, 1, false, (.int .u64), [.val false (.int .u64) (0:Int)], .unit, 0, 0, 0, [], true, true⟩ := by kernel_rfl
theorem ty99 : env.ty 99 = ⟨0, 1, false, .self, [.dead], .unit, 0, 0, 0, [], true, true⟩ := by kernel_rfl
theorem ty100 : env.ty 100 = ⟨0, 1, false, .self, [.dead], .unit, 0, 0, 0, [], true, true⟩ := by kernel_rfl
theorem ty101 : env.ty 101 = ⟨0, 1, false, .self, [.dead], .unit, 0, 0, 0, [], true, false⟩ := by kernel_rfl
theorem ty102 : env.ty 102 = ⟨0, 1, false, .self, [.dead], .unit, 0, 0, 0, [], true, true⟩ := by kernel_rfl
theorem ty104 : env.ty 104 = ⟨3, 2, true, (.pair (.int .u8) (.pair (.int .u8) .unit)), [.val false (.int .u8) (0:Int), .val false (.int .u8) (0:Int)], .unit, 0, 0, 0, [(0, 1, false), (1, 1, false)], true, true⟩ := by kernel_rfl
theorem ty105 : env.ty 105 = ⟨3, 2, true, (.pair (.int .u8) (.pair (.int .u8) .unit)), [.val false (.int .u8) (0:Int), .val false (.int .u8) (0:Int)], .unit, 0, 0, 0, [(0, 1, false), (1, 1, false)], true, true⟩ := by kernel_rfl
theorem ty107 : env.ty 107 = ⟨5, 1, false, (.int .u32), [.val false (.int .u32) (0:Int)], .unit, 0, 0, 0, [], true, true⟩ := by kernel_rfl
theorem ty108 : env.ty 108 = ⟨0, 1, false, .self, [.dead], .unit, 0, 0, 0, [], true, false⟩ := by kernel_rfl
theorem ty109 : env.ty 109 = ⟨0, 1, false, .self, [.dead], .unit, 0, 0, 0, [], true, true⟩ := by kernel_rfl
theorem ty110 : env.ty 110 = ⟨0, 1, false, .self, [.dead], .unit, 0, 0, 0, [], true, true⟩ := by kernel_rfl
theorem ty111 : env.ty 111 = ⟨2, 20, true, (.pair (.int .u64) (.pair (.int .u64) (.pair (.int .u64) (.pair (.int .u64) (.pair (.int .u64) (.pair (.int .u64) (.pair (.int .u64) (.pair (.int .u64) (.pair (.int .u64) (.pair (.int .u64) (.pair (.int .u64) (.pair (.int .u64) (.pair (.int .u64) (.pair (.int .u64) (.pair (.int .u64) (.pair (.int .u64) (.pair (.int .u64) (.pair (.int .u64) (.pair (.int .u64) (.pair (.int .u64) .unit)))))))))))))))))))), [.val false (.int .u64) (0:Int), .val false (.int .u64) (0:Int), .val false (.int .u64) (0:Int), .val false (.int .u64) (0:Int), .val false (.int .u64) (0:Int), .val false (.int .u64) (0:Int), .val false (.int .u64) (0:Int), .val false (.int .u64) (0:Int), .val false (.int .u64) (0:Int), .val false (.int .u64) (0:Int), .val false (.int .u64) (0:Int), .val false (.int .u64) (0:Int), .val false (.int .u64) (0:Int), .val false (.int .u64) (0:Int), .val false (.int .u64) (0:Int), .val false (.int .u64) (0:Int), .val false (.int .u64) (0:Int), .val false (.int .u64) (0:Int), .val false (.int .u64) (0:Int), .val false (.int .u64) (0:Int)], .unit, 1, 0, 20, [], true, true⟩ := by kernel_rfl
theorem ty113 : env.ty 113 = ⟨0, 1, false, .self, [.dead], .unit, 0, 0, 0, [], true, true⟩ := by kernel_rfl
theorem ty114 : env.ty 114 = ⟨0, 1, false, .self, [.dead], .unit, 0, 0, 0, [], true, true⟩ := by kernel_rfl
theorem ty115 : env.ty 115 = ⟨0, 1, false, .self, [.dead], .unit, 0, 0, 0, [], true, true⟩ := by kernel_rfl
theorem ty118 : env.ty 118 = ⟨3, 4, true, (.pair .self (.pair .self (.pair .self (.pair .str .unit)))), [.dead, .dead, .dead, .val false .str []], .unit, 0, 0, 0, [(0, 1, false), (1, 1, false), (2, 1, false), (3, 1, false)], true, true⟩ := by kernel_rfl
theorem ty119 : env.ty 119 = ⟨3, 4, true, (.pair .self (.pair .self (.pair .self (.pair .str .unit)))), [.dead, .dead, .dead, .val false .str []], .unit, 0, 0, 0, [(0, 1, false), (1, 1, false), (2, 1, false), (3, 1, false)], true, true⟩ := by kernel_rfl
theorem ty120 : env.ty 120 = ⟨0, 0, true, .unit, [], .unit, 0, 0, 0, [], true, true⟩ := by kernel_rfl
theorem ty121 : env.ty 121 = ⟨0, 0, true, .unit, [], .unit, 0, 0, 0, [], true, true⟩ := by kernel_rfl
theorem ty122 : env.ty 122 = ⟨0, 0, true, .unit, [], .unit, 0, 0, 0, [], true, true⟩ := by kernel_rfl
theorem ty123 : env.ty 123 = ⟨0, 1, false, .self, [.dead], .unit, 0, 0, 0, [], true, true⟩ := by kernel_rfl
theorem ty124 : env.ty 124 = ⟨5, 1, false, (.int .u8), [.val false (.int .u8) (0:Int)], .unit, 0, 0, 0, [], true, true⟩ := by kernel_rfl
theorem ty125 : env.ty 125 = ⟨5, 1, false, (.int .u8), [.val false (.int .u8) (0:Int)], .unit, 0, 0, 0, [], true, true⟩ := by kernel_rfl
theorem ty126 : env.ty 126 = ⟨0, 1, false, .self, [.dead], .unit, 0, 0, 0, [], true, true⟩ := by kernel_rfl
theorem ty127 : env.ty 127 = ⟨5, 1, false, (.int .i32), [.val false (.int .i32) (0:Int)], .unit, 0, 0, 0, [], true, true⟩ := by kernel_rfl
theorem ty128 : env.ty 128 = ⟨5, 1, false, (.int .i32), [.val false (.int .i32) (0:Int)], .unit, 0, 0, 0, [], true, true⟩ := by kernel_rfl
theorem ty129 : env.ty 129 = ⟨3, 11, true, (.pair (.int .u64) (.pair (.int .u64) (.pair (.int .u32) (.pair (.int .u8) (.pair (.int .u8) (.pair (.int .u8) (.pair (.int .u8) (.pair .self (.pair .self (.pair (.int .i32) (.pair (.int .i32) .unit))))))))))), [.val false (.int .u64) (0:Int), .val false (.int .u64) (0:Int), .val false (.int .u32) (0:Int), .val false (.int .u8) (0:Int), .val false (.int .u8) (0:Int), .val false (.int .u8) (0:Int), .val false (.int .u8) (0:Int), .dead, .dead, .val false (.int .i32) (0:Int), .val false (.int .i32) (0:Int)], .unit, 0, 0, 0, [(0, 1, false), (1, 1, false), (2, 1, false), (3, 1, false), (4, 1, false), (5, 1, false), (6, 1, false), (7, 1, false), (8, 1, false), (9, 1, false), (10, 1, false)], true, true⟩ := by kernel_rfl
theorem ty130 : env.ty 130 = ⟨3, 11, true, (.pair (.int .u64) (.pair (.int .u64) (.pair (.int .u32) (.pair (.int .u8) (.pair (.int .u8) (.pair (.int .u8) (.pair (.int .u8) (.pair .self (.pair .self (.pair (.int .i32) (.pair (.int .i32) .unit))))))))))), [.val false (.int .u64) (0:Int), .val false (.int .u64) (0:Int), .val false (.int .u32) (0:Int), .val false (.int .u8) (0:Int), .val false (.int .u8) (0:Int), .val false (.int .u8) (0:Int), .val false (.int .u8) (0:Int), .dead, .dead, .val false (.int .i32) (0:Int), .val false (.int .i32) (0:Int)], .unit, 0, 0, 0, [(0, 1, false), (1, 1, false), (2, 1, false), (3, 1, false), (4, 1, false), (5, 1, false), (6, 1, false), (7, 1, false), (8, 1, false), (9, 1, false), (10, 1, false)], true, true⟩ := by kernel_rfl
theorem fa0 : FnFacts Tryd.f0 [] [] 0 [] [] := ⟨by kernel_rfl, by kernel_rfl, by kernel_rfl, by kernel_rfl, by kernel_rfl⟩
theorem fa1 : FnFacts Tryd.f1 [] [] 0 [] [] := ⟨by kernel_rfl, by kernel_rfl, by kernel_rfl, by kernel_rfl, by kernel_rfl⟩
theorem fa2 : FnFacts Tryd.f2 [(100000, [(0, 0)]), (100001, [])] [] 1 [] [] := ⟨by kernel_rfl, by kernel_rfl, by kernel_rfl, by kernel_rfl, by kernel_rfl⟩
theorem fa3 : FnFacts Tryd.f3 [(100000, [(7, 10), (12, 20), (22, 25)]), (100001, [(11, 11), (21, 21), (26, 26)])] [(10, 5)] 27 [.tmp 2] [4] := ⟨by kernel_rfl, by kernel_rfl, by kernel_rfl, by kernel_rfl, by kernel_rfl⟩
theorem fa4 : FnFacts Tryd.f4 [(100000, [(1, 1), (11, 12), (14, 31), (33, 39), (41, 42), (44, 56), (58, 61), (63, 64)]), (100001, [(13, 13), (32, 32), (40, 40), (43, 43), (57, 57), (62, 62), (65, 65)])] [] 66 [.tmp 2] [4] := ⟨by kernel_rfl, by kernel_rfl, by kernel_rfl, by kernel_rfl, by kernel_rfl⟩
theorem fa5 : FnFacts Tryd.f5 [(100000, [(3, 3), (5, 9), (11, 16), (18, 22), (24, 28), (30, 34), (36, 36)]), (100001, [(10, 10), (17, 17), (23, 23), (29, 29), (35, 35)])] [] 37 [.tmp 4] [3] := ⟨by kernel_rfl, by kernel_rfl, by kernel_rfl, by kernel_rfl, by kernel_rfl⟩
theorem fa6 : FnFacts Tryd.f6 [(100000, [(5, 15), (17, 17), (20, 38), (40, 53), (55, 78)]), (100001, [(16, 16), (19, 19), (39, 39), (54, 54)])] [(7, 18), (9, 13), (12, 14)] 79 [.tmp 2] [9] := ⟨by kernel_rfl, by kernel_rfl, by kernel_rfl, by kernel_rfl, by kernel_rfl⟩
theorem fa7 : FnFacts Tryd.f7 [(100000, [(4, 26)]), (100001, [])] [] 27 [.cell 2 32] [32] := ⟨by kernel_rfl, by kernel_rfl, by kernel_rfl, by kernel_rfl, by kernel_rfl⟩
theorem fa8 : FnFacts Tryd.f8 [(100000, [(4, 12), (14, 27), (29, 35), (37, 55), (57, 64)]), (100001, [(13, 13), (28, 28), (36, 36), (56, 56)])] [(3, 6)] 65 [.tmp 2] [9] := ⟨by kernel_rfl, by kernel_rfl, by kernel_rfl, by kernel_rfl, by kernel_rfl⟩
theorem fa9 : FnFacts Tryd.f9 [(100000, [(5, 8), (10, 14), (16, 19), (21, 25), (27, 31), (33, 37)]), (100001, [(9, 9), (15, 15), (20, 20), (26, 26), (32, 32), (38, 38)])] [] 39 [.tmp 4] [4] := ⟨by kernel_rfl, by kernel_rfl, by kernel_rfl, by kernel_rfl, by kernel_rfl⟩
theorem fa10 : FnFacts Tryd.f10 [(100000, [(1, 1), (7, 8), (10, 20), (22, 44), (46, 73), (75, 76)]), (100001, [(9, 9), (21, 21), (45, 45), (74, 74)]), (0, [(13, 70)]), (200000, [(1, 1), (5, 6), (13, 70)])] [] 77 [.tmp 2, .tmp 3] [36, 4] := ⟨by kernel_rfl, by kernel_rfl, by kernel_rfl, by kernel_rfl, by kernel_rfl⟩
theorem fa11 : FnFacts Tryd.f11 [(100000, [(1, 1), (5, 5), (7, 8), (10, 11), (16, 19), (21, 39), (41, 41)]), (100001, [(9, 9), (15, 15), (20, 20), (40, 40)]), (0, [(6, 6), (15, 36)]), (200000, [(1, 1), (5, 6), (13, 36)])] [] 42 [.tmp 2, .tmp 3] [36, 4] := ⟨by kernel_rfl, by kernel_rfl, by kernel_rfl, by kernel_rfl, by kernel_rfl⟩
theorem fa12 : FnFacts Tryd.f12 [(100000, [(2, 3), (6, 9), (11, 13), (15, 25)]), (100001, [(10, 10), (14, 14), (26, 26)]), (0, [(11, 26)]), (200000, [(2, 3), (5, 5), (11, 26)])] [(6, 10)] 27 [.tmp 4] [4] := ⟨by kernel_rfl, by kernel_rfl, by kernel_rfl, by kernel_rfl, by kernel_rfl⟩
theorem fa13 : FnFacts Tryd.f13 [(100000, [(2, 3), (6, 8), (10, 35)]), (100001, [(9, 9)]), (0, [(6, 34)]), (200000, [(0, 0), (2, 3), (5, 34)])] [] 36 [.tmp 4] [3] := ⟨by kernel_rfl, by kernel_rfl, by kernel_rfl, by kernel_rfl, by kernel_rfl⟩
theorem fa14 : FnFacts Tryd.f14 [(100000, [(2, 3), (6, 8), (10, 19), (21, 28), (30, 37), (39, 41)]), (100001, [(9, 9), (20, 20), (29, 29), (38, 38)]), (0, [(6, 40)]), (200000, [(0, 0), (2, 3), (5, 40)])] [] 42 [.tmp 4] [3] := ⟨by kernel_rfl, by kernel_rfl, by kernel_rfl, by kernel_rfl, by kernel_rfl⟩
theorem fa15 : FnFacts Tryd.f15 [(100000, [(3, 3), (5, 9), (11, 11)]), (100001, [(10, 10)])] [] 12 [.tmp 4] [3] := ⟨by kernel_rfl, by kernel_rfl, by kernel_rfl, by kernel_rfl, by kernel_rfl⟩
theorem fa16 : FnFacts Tryd.f16 [(100000, [(2, 3), (5, 9), (11, 11)]), (100001, [(10, 10)])] [] 12 [.tmp 4] [3] := ⟨by kernel_rfl, by kernel_rfl, by kernel_rfl, by kernel_rfl, by kernel_rfl⟩
theorem fa17 : FnFacts Tryd.f17 [(100000, [(2, 3), (6, 10), (12, 14), (16, 24), (26, 26)]), (100001, [(11, 11), (15, 15), (25, 25)]), (0, [(12, 25)]), (200000, [(2, 3), (5, 5), (12, 25)])] [] 27 [.tmp 4] [3] := ⟨by kernel_rfl, by kernel_rfl, by kernel_rfl, by kernel_rfl, by kernel_rfl⟩
theorem fa18 : FnFacts Tryd.f18 [(100000, [(6, 7), (9, 17), (19, 39)]), (100001, [(8, 8), (18, 18)]), (0, [(15, 38)]), (200000, [(4, 5), (15, 38)])] [(8, 18)] 40 [.tmp 2] [9] := ⟨by kernel_rfl, by kernel_rfl, by kernel_rfl, by kernel_rfl, by kernel_rfl⟩
theorem fa19 : FnFacts Tryd.f19 [(100000, [(1, 1), (3, 4), (6, 10)]), (100001, [(5, 5)])] [] 11 [.tmp 2] [9] := ⟨by kernel_rfl, by kernel_rfl, by kernel_rfl, by kernel_rfl, by kernel_rfl⟩
theorem fa20 : FnFacts Tryd.f20 [(100000, [(1, 1), (5, 7), (9, 11), (13, 22), (24, 24)]), (100001, [(8, 8), (12, 12), (23, 23)]), (0, [(5, 21)]), (200000, [(0, 1), (4, 21)])] [] 25 [.tmp 2] [9] := ⟨by kernel_rfl, by kernel_rfl, by kernel_rfl, by kernel_rfl, by kernel_rfl⟩
theorem fa21 : FnFacts Tryd.f21 [(100000, [(1, 1), (6, 8), (10, 12), (14, 21), (23, 35), (37, 37)]), (100001, [(9, 9), (13, 13), (22, 22), (36, 36)]), (0, [(5, 34)]), (200000, [(0, 1), (4, 34)]), (2, [(16, 34)]), (200002, [(1, 1), (5, 5), (16, 34)])] [] 38 [.tmp 2] [9] := ⟨by kernel_rfl, by kernel_rfl, by kernel_rfl, by kernel_rfl, by kernel_rfl⟩
theorem fa22 : FnFacts Tryd.f22 [(100000, [(4, 11)]), (100001, [])] [] 12 [.cell 2 30] [30] := ⟨by kernel_rfl, by kernel_rfl, by kernel_rfl, by kernel_rfl, by kernel_rfl⟩
theorem fa23 : FnFacts Tryd.f23 [(100000, [(1, 1), (5, 10), (12, 21)]), (100001, [(11, 11)]), (0, [(8, 20)]), (200000, [(1, 1), (4, 4), (8, 20)])] [] 22 [.tmp 2] [22] := ⟨by kernel_rfl, by kernel_rfl, by kernel_rfl, by kernel_rfl, by kernel_rfl⟩
theorem fa24 : FnFacts Tryd.f24 [(100000, [(1, 1), (5, 10), (12, 22)]), (100001, [(11, 11)]), (0, [(8, 21)]), (200000, [(1, 1), (4, 4), (8, 21)])] [] 23 [.tmp 2] [25] := ⟨by kernel_rfl, by kernel_rfl, by kernel_rfl, by kernel_rfl, by kernel_rfl⟩
theorem fa25 : FnFacts Tryd.f25 [(100000, [(3, 5), (7, 14)]), (100001, [])] [] 15 [.tmp 6] [4] := ⟨by kernel_rfl, by kernel_rfl, by kernel_rfl, by kernel_rfl, by kernel_rfl⟩
theorem fa26 : FnFacts Tryd.f26 [(100000, [(8, 18), (20, 20), (25, 38), (40, 41), (46, 48), (52, 62), (64, 65)]), (100001, [(19, 19), (24, 24), (39, 39), (45, 45), (51, 51), (63, 63)]), (0, [(3, 4), (24, 40)]), (200000, [(3, 4), (22, 40)]), (2, [(5, 7), (45, 65)]), (200002, [(5, 7), (43, 65)]), (4, [(7, 7), (51, 64)]), (200004, [(6, 7), (49, 64)])] [(15, 11)] 66 [.tmp 2] [4] := ⟨by kernel_rfl, by kernel_rfl, by kernel_rfl, by kernel_rfl, by kernel_rfl⟩
theorem fa27 : FnFacts Tryd.f27 [(100000, [(1, 1), (3, 4), (6, 8)]), (100001, [(5, 5)])] [] 9 [.tmp 2] [9] := ⟨by kernel_rfl, by kernel_rfl, by kernel_rfl, by kernel_rfl, by kernel_rfl⟩
theorem fa28 : FnFacts Tryd.f28 [(100000, [(4, 4), (6, 7), (9, 13), (18, 33)]), (100001, [(8, 8), (17, 17)]), (0, [(5, 5), (17, 32)]), (200000, [(4, 5), (15, 32)])] [(7, 12)] 34 [.tmp 2] [9] := ⟨by kernel_rfl, by kernel_rfl, by kernel_rfl, by kernel_rfl, by kernel_rfl⟩
theorem fa29 : FnFacts Tryd.f29 [(100000, [(1, 1), (4, 4), (6, 6), (11, 20)]), (100001, [(10, 10)]), (0, [(5, 5), (10, 18)]), (200000, [(1, 1), (4, 5), (8, 18)])] [] 21 [.tmp 2] [9] := ⟨by kernel_rfl, by kernel_rfl, by kernel_rfl, by kernel_rfl, by kernel_rfl⟩
theorem fa30 : FnFacts Tryd.f30 [(100000, [(1, 1), (4, 4), (6, 6), (11, 20)]), (100001, [(10, 10)]), (0, [(5, 5), (10, 18)]), (200000, [(1, 1), (4, 5), (8, 18)])] [] 21 [.tmp 2] [9] := ⟨by kernel_rfl, by kernel_rfl, by kernel_rfl, by kernel_rfl, by kernel_rfl⟩
theorem fa31 : FnFacts Tryd.f31 [(100000, [(2, 3), (6, 6), (9, 9), (11, 11), (14, 14), (16, 21), (23, 28), (30, 38), (43, 48), (50, 62), (67, 74)]), (100001, [(13, 13), (15, 15), (22, 22), (29, 29), (42, 42), (49, 49), (66, 66)]), (1, [(7, 7), (42, 55)]), (200001, [(2, 3), (6, 7), (9, 9), (40, 55), (57, 57), (61, 61), (70, 70), (72, 72)]), (3, [(10, 10), (66, 73)]), (200003, [(2, 3), (6, 6), (9, 10), (57, 57), (61, 61), (64, 73)])] [] 75 [.tmp 4] [9] := ⟨by kernel_rfl, by kernel_rfl, by kernel_rfl, by kernel_rfl, by kernel_rfl⟩
theorem fa32 : FnFacts Tryd.f32 [(100000, [(5, 8), (10, 14)]), (100001, [(9, 9), (15, 15)])] [] 16 [.tmp 4] [4] := ⟨by kernel_rfl, by kernel_rfl, by kernel_rfl, by kernel_rfl, by kernel_rfl⟩
theorem fa33 : FnFacts Tryd.f33 [(100000, [(2, 3), (6, 9), (11, 13), (15, 24)]), (100001, [(10, 10), (14, 14), (25, 25)]), (0, [(11, 25)]), (200000, [(2, 3), (5, 5), (11, 25)])] [(6, 9)] 26 [.tmp 4] [4] := ⟨by kernel_rfl, by kernel_rfl, by kernel_rfl, by kernel_rfl, by kernel_rfl⟩
theorem fa34 : FnFacts Tryd.f34 [(100000, [(2, 3), (6, 9), (11, 13), (15, 25)]), (100001, [(10, 10), (14, 14), (26, 26)]), (0, [(11, 26)]), (200000, [(2, 3), (5, 5), (11, 26)])] [(6, 10)] 27 [.tmp 4] [4] := ⟨by kernel_rfl, by kernel_rfl, by kernel_rfl, by kernel_rfl, by kernel_rfl⟩
theorem fa35 : FnFacts Tryd.f35 [(100000, [(2, 3), (8, 11), (13, 18), (20, 34)]), (100001, [(12, 12), (19, 19)]), (0, [(9, 30)]), (200000, [(0, 3), (7, 7), (9, 30)])] [] 35 [.tmp 4] [54] := ⟨by kernel_rfl, by kernel_rfl, by kernel_rfl, by kernel_rfl, by kernel_rfl⟩
theorem fa36 : FnFacts Tryd.f36 [(100000, [(1, 1), (5, 7), (9, 30), (32, 32), (34, 39), (41, 60), (62, 62)]), (100001, [(8, 8), (31, 31), (33, 33), (40, 40), (61, 61)]), (0, [(5, 59)]), (200000, [(0, 1), (4, 59)])] [(12, 15)] 63 [.tmp 2] [9] := ⟨by kernel_rfl, by kernel_rfl, by kernel_rfl, by kernel_rfl, by kernel_rfl⟩
theorem fa37 : FnFacts Tryd.f37 [(100000, [(2, 3), (5, 7)]), (100001, [])] [] 8 [.tmp 4] [54] := ⟨by kernel_rfl, by kernel_rfl, by kernel_rfl, by kernel_rfl, by kernel_rfl⟩
theorem fa38 : FnFacts Tryd.f38 [(100000, [(1, 1), (4, 4), (7, 12), (14, 14), (19, 21), (23, 37), (39, 40)]), (100001, [(13, 13), (18, 18), (22, 22), (38, 38)]), (0, [(5, 6), (18, 35)]), (200000, [(1, 1), (4, 6), (16, 35)])] [] 41 [.tmp 2] [9] := ⟨by kernel_rfl, by kernel_rfl, by kernel_rfl, by kernel_rfl, by kernel_rfl⟩
theorem fa39 : FnFacts Tryd.f39 [(100000, [(5, 8), (10, 13), (15, 18)]), (100001, [(9, 9), (14, 14), (19, 19)])] [] 20 [.tmp 4] [4] := ⟨by kernel_rfl, by kernel_rfl, by kernel_rfl, by kernel_rfl, by kernel_rfl⟩
theorem fa40 : FnFacts Tryd.f40 [(100000, [(5, 15), (17, 19), (21, 49), (51, 53), (55, 94)]), (100001, [(16, 16), (20, 20), (50, 50), (54, 54), (95, 95)]), (0, [(4, 4), (17, 95)]), (200000, [(3, 4), (17, 95)]), (2, [(51, 95)]), (200002, [(4, 4), (51, 95)])] [(6, 28), (11, 39)] 96 [.tmp 2] [4] := ⟨by kernel_rfl, by kernel_rfl, by kernel_rfl, by kernel_rfl, by kernel_rfl⟩
theorem fa41 : FnFacts Tryd.f41 [(100000, [(1, 1), (6, 6), (8, 10), (12, 14), (16, 26), (28, 30)]), (100001, [(7, 7), (11, 11), (15, 15), (27, 27)]), (0, [(5, 5), (10, 26)]), (200000, [(1, 1), (5, 5), (10, 26)])] [] 31 [.tmp 2] [9] := ⟨by kernel_rfl, by kernel_rfl, by kernel_rfl, by kernel_rfl, by kernel_rfl⟩
theorem fa42 : FnFacts Tryd.f42 [(100000, [(6, 13), (15, 21), (23, 27), (29, 35)]), (100001, [(14, 14), (22, 22), (28, 28)]), (0, [(5, 5), (7, 34)]), (200000, [(1, 1), (4, 5), (7, 34)]), (2, [(19, 34)]), (200002, [(5, 5), (19, 34)])] [] 36 [.tmp 2] [25] := ⟨by kernel_rfl, by kernel_rfl, by kernel_rfl, by kernel_rfl, by kernel_rfl⟩
theorem fa43 : FnFacts Tryd.f43 [(100000, [(3, 5), (7, 14)]), (100001, [])] [] 15 [.tmp 6] [4] := ⟨by kernel_rfl, by kernel_rfl, by kernel_rfl, by kernel_rfl, by kernel_rfl⟩
theorem fa44 : FnFacts Tryd.f44 [(100000, [(2, 3), (5, 9)]), (100001, [])] [] 10 [.tmp 4] [4] := ⟨by kernel_rfl, by kernel_rfl, by kernel_rfl, by kernel_rfl, by kernel_rfl⟩
theorem fa45 : FnFacts Tryd.f45 [(100000, [(1, 1), (3, 4)]), (100001, [])] [] 5 [.tmp 2] [9] := ⟨by kernel_rfl, by kernel_rfl, by kernel_rfl, by kernel_rfl, by kernel_rfl⟩
theorem fa46 : FnFacts Tryd.f46 [(100000, [(7, 9), (11, 12), (17, 24), (26, 29), (31, 38)]), (100001, [(10, 10), (16, 16), (25, 25), (30, 30)]), (0, [(4, 6), (16, 37)]), (200000, [(4, 6), (14, 37)]), (2, [(22, 36)]), (200002, [(5, 6), (22, 36)])] [] 39 [.tmp 2] [25] := ⟨by kernel_rfl, by kernel_rfl, by kernel_rfl, by kernel_rfl, by kernel_rfl⟩
theorem fa47 : FnFacts Tryd.f47 [(100000, [(1, 1), (4, 4), (10, 17)]), (100001, [(9, 9)]), (0, [(5, 5), (9, 16)]), (200000, [(1, 1), (4, 5), (7, 16)])] [] 18 [.tmp 2] [9] := ⟨by kernel_rfl, by kernel_rfl, by kernel_rfl, by kernel_rfl, by kernel_rfl⟩
theorem fa48 : FnFacts Tryd.f48 [(100000, [(1, 1), (4, 6), (8, 8)]), (100001, [(7, 7)])] [] 9 [.tmp 2] [9] := ⟨by kernel_rfl, by kernel_rfl, by kernel_rfl, by kernel_rfl, by kernel_rfl⟩
theorem fa49 : FnFacts Tryd.f49 [(100000, [(2, 6), (8, 20), (22, 24)]), (100001, [(7, 7), (21, 21)])] [] 25 [] [] := ⟨by kernel_rfl, by kernel_rfl, by kernel_rfl, by kernel_rfl, by kernel_rfl⟩
theorem fa50 : FnFacts Tryd.f50 [(100000, [(2, 3), (6, 18)]), (100001, [])] [] 19 [.tmp 4, .tmp 5] [3, 75] := ⟨by kernel_rfl, by kernel_rfl, by kernel_rfl, by kernel_rfl, by kernel_rfl⟩
theorem fa51 : FnFacts Tryd.f51 [(100000, [(1, 1), (3, 13)]), (100001, [])] [] 14 [.tmp 2] [9] := ⟨by kernel_rfl, by kernel_rfl, by kernel_rfl, by kernel_rfl, by kernel_rfl⟩
theorem fa52 : FnFacts Tryd.f52 [(100000, [(4, 7), (12, 12), (14, 14), (16, 19), (21, 35), (37, 40), (42, 65)]), (100001, [(13, 13), (15, 15), (20, 20), (36, 36), (41, 41)]), (0, [(11, 11), (34, 57)]), (200000, [(2, 2), (4, 7), (11, 11), (34, 57)])] [] 66 [.tmp 8] [54] := ⟨by kernel_rfl, by kernel_rfl, by kernel_rfl, by kernel_rfl, by kernel_rfl⟩
theorem fa53 : FnFacts Tryd.f53 [(100000, [(2, 3), (5, 8)]), (100001, [])] [] 9 [.tmp 4] [4] := ⟨by kernel_rfl, by kernel_rfl, by kernel_rfl, by kernel_rfl, by kernel_rfl⟩
theorem fa54 : FnFacts Tryd.f54 [(100000, [(3, 12)]), (100001, [])] [] 13 [.tmp 2] [4] := ⟨by kernel_rfl, by kernel_rfl, by kernel_rfl, by kernel_rfl, by kernel_rfl⟩
theorem fa55 : FnFacts Tryd.f55 [(100000, [(4, 5), (7, 15)]), (100001, [])] [] 16 [.tmp 6] [4] := ⟨by kernel_rfl, by kernel_rfl, by kernel_rfl, by kernel_rfl, by kernel_rfl⟩
theorem fa56 : FnFacts Tryd.f56 [(100000, [(1, 1), (3, 4)]), (100001, [])] [] 5 [.tmp 2] [9] := ⟨by kernel_rfl, by kernel_rfl, by kernel_rfl, by kernel_rfl, by kernel_rfl⟩
theorem fa57 : FnFacts Tryd.f57 [(100000, [(1, 5), (7, 18)]), (100001, [(6, 6), (19, 19)])] [] 20 [] [] := ⟨by kernel_rfl, by kernel_rfl, by kernel_rfl, by kernel_rfl, by kernel_rfl⟩
theorem fa58 : FnFacts Tryd.f58 [(100000, [(2, 3), (5, 29)]), (100001, [])] [] 30 [] [] := ⟨by kernel_rfl, by kernel_rfl, by kernel_rfl, by kernel_rfl, by kernel_rfl⟩
theorem fa59 : FnFacts Tryd.f59 [(100000, [(2, 3), (8, 8), (10, 17), (19, 24), (26, 42), (44, 49)]), (100001, [(18, 18), (25, 25), (43, 43)]), (0, [(8, 9), (22, 41)]), (200000, [(2, 3), (7, 9), (22, 41)])] [] 50 [.tmp 4] [54] := ⟨by kernel_rfl, by kernel_rfl, by kernel_rfl, by kernel_rfl, by kernel_rfl⟩
theorem fa60 : FnFacts Tryd.f60 [(100000, [(2, 3), (7, 8), (10, 14), (16, 23), (25, 33)]), (100001, [(9, 9), (15, 15), (24, 24)]), (0, [(6, 6), (20, 33)]), (200000, [(2, 3), (5, 6), (20, 33)])] [] 34 [.tmp 4] [3] := ⟨by kernel_rfl, by kernel_rfl, by kernel_rfl, by kernel_rfl, by kernel_rfl⟩
theorem fa61 : FnFacts Tryd.f61 [(100000, [(2, 3), (5, 7)]), (100001, [])] [] 8 [.tmp 4] [3] := ⟨by kernel_rfl, by kernel_rfl, by kernel_rfl, by kernel_rfl, by kernel_rfl⟩
theorem fa62 : FnFacts Tryd.f62 [(100000, [(2, 3), (6, 6), (10, 15), (17, 18)]), (100001, [(9, 9), (16, 16)]), (0, [(5, 5), (9, 18)]), (200000, [(1, 3), (5, 5), (7, 18)])] [] 19 [.tmp 4] [3] := ⟨by kernel_rfl, by kernel_rfl, by kernel_rfl, by kernel_rfl, by kernel_rfl⟩
theorem fa63 : FnFacts Tryd.f63 [(100000, [(1, 1), (3, 4)]), (100001, [])] [] 5 [.tmp 2] [9] := ⟨by kernel_rfl, by kernel_rfl, by kernel_rfl, by kernel_rfl, by kernel_rfl⟩
theorem fa64 : FnFacts Tryd.f64 [] [] 1 [] [87] := ⟨by kernel_rfl, by kernel_rfl, by kernel_rfl, by kernel_rfl, by kernel_rfl⟩
theorem fa65 : FnFacts Tryd.f65 [] [] 1 [] [70] := ⟨by kernel_rfl, by kernel_rfl, by kernel_rfl, by kernel_rfl, by kernel_rfl⟩
theorem fa66 : FnFacts Tryd.f66 [(100000, [(1, 1), (3, 3), (5, 5), (7, 9)]), (100001, [(6, 6)]), (0, [(5, 8)]), (200000, [(1, 1), (4, 8)])] [] 10 [.tmp 2] [3] := ⟨by kernel_rfl, by kernel_rfl, by kernel_rfl, by kernel_rfl, by kernel_rfl⟩
theorem fa67 : FnFacts Tryd.f67 [(100000, [(1, 1), (4, 9), (11, 18)]), (100001, [(10, 10)])] [] 19 [.tmp 2, .tmp 3] [21, 3] := ⟨by kernel_rfl, by kernel_rfl, by kernel_rfl, by kernel_rfl, by kernel_rfl⟩
theorem fa68 : FnFacts Tryd.f68 [] [] 2 [] [3] := ⟨by kernel_rfl, by kernel_rfl, by kernel_rfl, by kernel_rfl, by kernel_rfl⟩
theorem fa69 : FnFacts Tryd.f69 [(100000, [(2, 3), (14, 15), (17, 23), (25, 30), (32, 35), (37, 58), (60, 63), (65, 72), (74, 92), (94, 106), (108, 113), (115, 131), (133, 138), (140, 142)]), (100001, [(16, 16), (24, 24), (31, 31), (36, 36), (59, 59), (64, 64), (73, 73), (93, 93), (107, 107), (114, 114), (132, 132), (139, 139)]), (1, [(11, 13), (57, 142)]), (200001, [(2, 3), (6, 13), (57, 142)])] [] 143 [.tmp 4] [3] := ⟨by kernel_rfl, by kernel_rfl, by kernel_rfl, by kernel_rfl, by kernel_rfl⟩
theorem fa70 : FnFacts Tryd.f70 [(100000, [(2, 3), (8, 8), (10, 10), (12, 16), (18, 22), (24, 33), (35, 53)]), (100001, [(11, 11), (17, 17), (23, 23), (34, 34)])] [] 54 [.tmp 4] [9] := ⟨by kernel_rfl, by kernel_rfl, by kernel_rfl, by kernel_rfl, by kernel_rfl⟩
theorem fa71 : FnFacts Tryd.f71 [(100000, [(1, 1), (13, 15), (17, 22), (24, 44), (46, 56), (58, 58), (60, 74), (76, 76), (78, 97), (99, 116)]), (100001, [(16, 16), (23, 23), (45, 45), (57, 57), (59, 59), (75, 75), (77, 77), (98, 98)])] [] 117 [.tmp 2, .tmp 3] [21, 3] := ⟨by kernel_rfl, by kernel_rfl, by kernel_rfl, by kernel_rfl, by kernel_rfl⟩
theorem fa72 : FnFacts Tryd.f72 [(100000, [(2, 3), (5, 7)]), (100001, [])] [] 8 [.tmp 4] [3] := ⟨by kernel_rfl, by kernel_rfl, by kernel_rfl, by kernel_rfl, by kernel_rfl⟩
theorem fa73 : FnFacts Tryd.f73 [] [] 2 [] [3] := ⟨by kernel_rfl, by kernel_rfl, by kernel_rfl, by kernel_rfl, by kernel_rfl⟩
theorem fa74 : FnFacts Tryd.f74 [(100000, [(1, 1), (3, 5)]), (100001, [])] [] 6 [.tmp 2] [3] := ⟨by kernel_rfl, by kernel_rfl, by kernel_rfl, by kernel_rfl, by kernel_rfl⟩
theorem fa75 : FnFacts Tryd.f75 [(100000, [(2, 3), (11, 19), (21, 38), (40, 43), (45, 76), (78, 80)]), (100001, [(20, 20), (39, 39), (44, 44), (77, 77)]), (0, [(18, 29)]), (200000, [(2, 3), (9, 9), (18, 29)]), (2, [(41, 80)]), (200002, [(2, 3), (6, 6), (10, 10), (41, 80)])] [] 81 [.tmp 4] [3] := ⟨by kernel_rfl, by kernel_rfl, by kernel_rfl, by kernel_rfl, by kernel_rfl⟩
theorem fa76 : FnFacts Tryd.f76 [(100000, [(1, 1), (3, 3), (5, 14)]), (100001, [(4, 4)])] [] 15 [.tmp 2] [9] := ⟨by kernel_rfl, by kernel_rfl, by kernel_rfl, by kernel_rfl, by kernel_rfl⟩
theorem fa77 : FnFacts Tryd.f77 [(100000, [(1, 1), (4, 14)]), (100001, [])] [] 15 [.tmp 2] [3] := ⟨by kernel_rfl, by kernel_rfl, by kernel_rfl, by kernel_rfl, by kernel_rfl⟩
theorem fa78 : FnFacts Tryd.f78 [(100000, [(2, 3), (17, 19), (21, 98), (100, 138), (140, 160), (162, 166)]), (100001, [(20, 20), (99, 99), (139, 139), (161, 161)]), (0, [(5, 11), (19, 95)]), (200000, [(2, 3), (5, 11), (19, 95)])] [] 167 [] [] := ⟨by kernel_rfl, by kernel_rfl, by kernel_rfl, by kernel_rfl, by kernel_rfl⟩
theorem fa79 : FnFacts Tryd.f79 [(100000, [(5, 9), (19, 27), (29, 29), (31, 33), (35, 45), (47, 67), (69, 88), (90, 93), (95, 101)]), (100001, [(28, 28), (30, 30), (34, 34), (46, 46), (68, 68), (89, 89), (94, 94)]), (0, [(44, 57)]), (200000, [(5, 9), (14, 16), (44, 57)]), (2, [(18, 18), (66, 82)]), (200002, [(5, 9), (17, 18), (66, 82)])] [] 102 [.tmp 10, .tmp 11] [70, 9] := ⟨by kernel_rfl, by kernel_rfl, by kernel_rfl, by kernel_rfl, by kernel_rfl⟩
theorem fa80 : FnFacts Tryd.f80 [] [] 2 [] [3] := ⟨by kernel_rfl, by kernel_rfl, by kernel_rfl, by kernel_rfl, by kernel_rfl⟩
theorem fa81 : FnFacts Tryd.f81 [(100000, [(1, 1), (9, 11), (13, 24), (26, 29), (31, 38)]), (100001, [(12, 12), (25, 25), (30, 30)]), (0, [(9, 21)]), (200000, [(1, 1), (5, 5), (9, 21)]), (2, [(24, 36)]), (200002, [(1, 1), (7, 8), (24, 36)])] [] 39 [.tmp 2, .tmp 3] [107, 107] := ⟨by kernel_rfl, by kernel_rfl, by kernel_rfl, by kernel_rfl, by kernel_rfl⟩
theorem fa82 : FnFacts Tryd.f82 [(100000, [(1, 1), (3, 5)]), (100001, [])] [] 6 [.tmp 2] [3] := ⟨by kernel_rfl, by kernel_rfl, by kernel_rfl, by kernel_rfl, by kernel_rfl⟩
theorem fa83 : FnFacts Tryd.f83 [(100000, [(1, 1), (3, 3), (5, 7), (9, 13), (15, 24)]), (100001, [(4, 4), (8, 8), (14, 14)])] [] 25 [.tmp 2] [3] := ⟨by kernel_rfl, by kernel_rfl, by kernel_rfl, by kernel_rfl, by kernel_rfl⟩
theorem fa84 : FnFacts Tryd.f84 [(100000, [(1, 1)]), (100001, [(3, 3)])] [] 4 [.tmp 2] [3] := ⟨by kernel_rfl, by kernel_rfl, by kernel_rfl, by kernel_rfl, by kernel_rfl⟩
theorem fa85 : FnFacts Tryd.f85 [(100000, [(1, 1), (3, 7)]), (100001, [])] [] 8 [.tmp 2] [4] := ⟨by kernel_rfl, by kernel_rfl, by kernel_rfl, by kernel_rfl, by kernel_rfl⟩
theorem fa86 : FnFacts Tryd.f86 [(100000, [(1, 1), (3, 7)]), (100001, [])] [] 8 [.tmp 2] [3] := ⟨by kernel_rfl, by kernel_rfl, by kernel_rfl, by kernel_rfl, by kernel_rfl⟩
theorem fa87 : FnFacts Tryd.f87 [(100000, [(1, 1), (3, 3), (5, 13)]), (100001, [(4, 4)])] [] 14 [.tmp 2] [3] := ⟨by kernel_rfl, by kernel_rfl, by kernel_rfl, by kernel_rfl, by kernel_rfl⟩
theorem fa88 : FnFacts Tryd.f88 [(100000, [(1, 1), (3, 3), (5, 13)]), (100001, [(4, 4)])] [] 14 [.tmp 2] [3] := ⟨by kernel_rfl, by kernel_rfl, by kernel_rfl, by kernel_rfl, by kernel_rfl⟩
attribute [go_sem] env_md ty0 ty1 ty2 ty3 ty4 ty5 ty6 ty7 ty8 ty9 ty10 ty11 ty12 ty13 ty14 ty15 ty16 ty17 ty18 ty19 ty20 ty21 ty22 ty23 ty24 ty25 ty26 ty27 ty28 ty29 ty30 ty31 ty32 ty33 ty34 ty35 ty36 ty37 ty38 ty39 ty40 ty41 ty42 ty43 ty44 ty45 ty46 ty47 ty48 ty49 ty50 ty51 ty52 ty53 ty54 ty55 ty56 ty57 ty58 ty59 ty60 ty61 ty62 ty63 ty64 ty65 ty66 ty67 ty68 ty69 ty70 ty71 ty72 ty73 ty74 ty75 ty76 ty77 ty78 ty79 ty80 ty81 ty82 ty83 ty84 ty85 ty86 ty87 ty88 ty89 ty90 ty91 ty92 ty93 ty94 ty95 ty96 ty97 ty98 ty99 ty100 ty101 ty102 ty104 ty105 ty107 ty108 ty109 ty110 ty111 ty113 ty114 ty115 ty118 ty119 ty120 ty121 ty122 ty123 ty124 ty125 ty126 ty127 ty128 ty129 ty130
end Go.Ev
