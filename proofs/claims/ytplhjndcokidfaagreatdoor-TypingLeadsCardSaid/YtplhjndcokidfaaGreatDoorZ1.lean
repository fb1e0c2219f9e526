/-
  The evaluator over a cut with schemas: its program, its hints, its laid variables.
-/
import Derived.Test.YtplhjndcokidfaaGreatDoorProg
import Derived.Test.YtplhjndcokidfaaGreatDoorA6
set_option linter.unusedVariables false
set_option linter.unusedSimpArgs false
namespace Go.Ae.Zd
open Go.Proofs

def inll : List Nat := [32, 51, 52, 53, 97, 114, 118, 146, 147, 169]
def flats : List Nat := [0, 1, 2, 3, 4, 5, 6, 8, 12, 13, 14, 15, 16, 17, 18, 19, 20, 21, 27, 28, 29, 32, 33, 34, 35, 36, 37, 38, 40, 41, 42, 47, 48, 49, 50, 51, 54, 55, 56, 57, 58, 59, 64, 65, 66, 67, 68, 69, 70, 71, 72, 73, 74, 75, 76, 77, 78, 79, 80, 84, 86, 87, 88, 89, 90, 91, 92, 93, 94, 95, 96, 98, 100, 101, 102, 103, 104, 105, 106, 107, 108, 109, 110, 111, 112, 113, 115, 116, 117, 118, 119, 120, 121, 122, 124, 125, 126, 127, 128, 129, 130, 131, 133, 134, 135, 136, 137, 138, 139, 141, 142, 143, 144, 145, 146, 148, 149, 150, 151, 152, 153, 154, 155, 156, 157, 158, 160, 161, 162, 164, 165, 166, 167, 168, 169, 171, 172, 173, 174, 175, 176, 177, 178, 179, 180, 181, 182, 183, 184, 185, 186, 187, 188, 189, 190, 191, 192, 193, 194, 195, 196, 197, 198, 199, 200, 201, 202, 204, 205, 206, 207, 208, 209, 210, 211, 212, 213]
def wrl : List (Nat × Nat) := [(85, 3), (31, 4), (30, 4), (26, 4), (25, 4), (22, 19)]
def watl : List (Nat × Nat × Wt) := [(22, (7, [(5, [1])])), (26, (18, [(10, [1])])), (31, (25, [(8, [1]), (18, [1])])), (31, (30, [(8, [1]), (15, [1])])), (52, (3, [(7, [3])])), (52, (4, [(4, [1])])), (52, (7, [(7, [4])])), (52, (16, [(5, [1])])), (52, (17, [(10, [8])])), (53, (4, [(7, [1, 5])])), (53, (9, [(9, [1, 5, 7])])), (53, (10, [(7, [1, 5]), (9, [7])])), (97, (11, [(3, [1])])), (97, (12, [(5, [1]), (7, [1])])), (97, (16, [(3, [1])])), (97, (17, [(2, [0]), (4, [0])])), (140, (8, [(7, [3, 5]), (9, [5])])), (140, (10, [(5, [3])])), (140, (12, [(5, [3])])), (140, (16, [(9, [3, 5, 7]), (11, [5, 7]), (13, [7])])), (140, (18, [(5, [3])]))]
def frzL (f id : Nat) : List Nat := if f == 30 && id == 30 then [10] else if f == 31 && id == 11 then [10] else []
def fzdL (f : Nat) (d : Option Nat) : Bool := (f == 22 && d == some 36) || (f == 22 && d == some 88) || (f == 31 && d == some 159) || (f == 31 && d == some 211) || (f == 52 && d == some 154) || (f == 52 && d == some 164) || (f == 52 && d == some 133)

def modeL (f : FuncId) : Mode := if inll.contains f then .inl else if flats.contains f then .snap else .mv
def watL (f id : Nat) : Wt := match watl.find? (fun x => x.1 == f && x.2.1 == id) with
  | some x => x.2.2
  | none => []

def ckV (f : Nat) : V := .agg [.fn f [] []]
def checksV : V := .im [0, 1, 4, 5, 6, 7, 8] [ckV 196, ckV 197, ckV 198, ckV 199, ckV 201, ckV 202, ckV 204]
def str8 (s : String) : V := .str s.toUTF8.data.toList
def wordsV : List V := [[107, 101, 121], [114, 101, 102], [110, 117, 109], [112, 105, 99, 107], [100, 97, 121], [115, 116, 101, 112], [115, 117, 109], [115, 104, 97, 114, 101], [99, 111, 112, 121]].map V.str
def pow10V : List V := (List.range 20).map fun i => .int .u64 (10 ^ i : Nat)

def globL (g : Nat) : Option (List V) := if g = 0 then some [checksV] else if g = 1 then some wordsV else if g = 2 then some pow10V else none

/-- The program with its hints. -/
noncomputable def LE : Env where
  P := Tryz.prog
  glob := globL
  mode := modeL
  wr := fun f d => wrl.contains (f, d)
  frz := frzL
  tyd := fun t => t == 151
  tbs := fun t => t == 149
  idf := fun f => f == 163
  fzd := fzdL
  wat := watL
  ext := fun _ => none

theorem mixed : Tryz.prog.follows .mixedOrders = true := by kernel_rfl
theorem noNg : (Tryz.prog.funcs.all fun fn => fn.name != "runtime.NumGoroutine") = true := by kernel_rfl

theorem ok : EnvOk LE where
  mixed := mixed
  ng := fun g fn h => by
    have h1 := Array.all_eq_true.1 noNg
    obtain ⟨hg, rfl⟩ := Array.getElem?_eq_some_iff.1 (show Tryz.prog.funcs[g]? = some fn from h)
    simpa using h1 g hg
  ext := fun f g h => by cases h
  idf := fun g x w h => by
    have hg : g = 163 := by simpa [LE] using h
    subst hg
    rw [run_callFunc_extern (P := LE.P) Tryz.func163 (e := Extern.AbiNoEscape.same) (by kernel_rfl) (by kernel_rfl) (by kernel_rfl) (by kernel_rfl)]
    rfl

end Go.Ae.Zd

namespace Go.Ae.Zd
open Go.Proofs

theorem t1 : tinf Tryz.prog 1 = some ⟨.func #[] #[] false, 1, 8, .nf⟩ := by kernel_rfl
theorem t2 : tinf Tryz.prog 2 = some ⟨.int .i64, 1, 8, .int .i64 0⟩ := by kernel_rfl
theorem t3 : tinf Tryz.prog 3 = some ⟨.int .i64, 1, 8, .int .i64 0⟩ := by kernel_rfl
theorem t4 : tinf Tryz.prog 4 = some ⟨.bool, 1, 1, .bool false⟩ := by kernel_rfl
theorem t5 : tinf Tryz.prog 5 = some ⟨.int .u8, 1, 1, .int .u8 0⟩ := by kernel_rfl
theorem t6 : tinf Tryz.prog 6 = some ⟨.int .u8, 1, 1, .int .u8 0⟩ := by kernel_rfl
def fs7 : Array Field := #[⟨ "x", 2, 0, false, "", "runtime", 0⟩, ⟨ "y", 3, 1, false, "", "runtime", 8⟩, ⟨ "signed", 4, 2, false, "", "runtime", 16⟩, ⟨ "code", 6, 3, false, "", "runtime", 17⟩]
theorem t7 : tinf Tryz.prog 7 = some ⟨.struct fs7, 4, 24, .agg [.int .i64 0, .int .i64 0, .bool false, .int .u8 0]⟩ := by kernel_rfl
def fs8 : Array Field := #[⟨ "x", 2, 0, false, "", "runtime", 0⟩, ⟨ "y", 3, 1, false, "", "runtime", 8⟩, ⟨ "signed", 4, 2, false, "", "runtime", 16⟩, ⟨ "code", 6, 3, false, "", "runtime", 17⟩]
theorem t8 : tinf Tryz.prog 8 = some ⟨.struct fs8, 4, 24, .agg [.int .i64 0, .int .i64 0, .bool false, .int .u8 0]⟩ := by kernel_rfl
theorem t9 : tinf Tryz.prog 9 = some ⟨.string, 1, 16, .str []⟩ := by kernel_rfl
theorem t10 : tinf Tryz.prog 10 = some ⟨.string, 1, 16, .str []⟩ := by kernel_rfl
theorem t11 : tinf Tryz.prog 11 = some ⟨.string, 1, 16, .str []⟩ := by kernel_rfl
theorem t12 : tinf Tryz.prog 12 = some ⟨.int .u64, 1, 8, .int .u64 0⟩ := by kernel_rfl
def fs13 : Array Field := #[⟨ "msg", 9, 0, false, "", "runtime", 0⟩, ⟨ "addr", 12, 1, false, "", "runtime", 16⟩]
theorem t13 : tinf Tryz.prog 13 = some ⟨.struct fs13, 2, 24, .agg [.str [], .int .u64 0]⟩ := by kernel_rfl
def fs14 : Array Field := #[⟨ "msg", 9, 0, false, "", "runtime", 0⟩, ⟨ "addr", 12, 1, false, "", "runtime", 16⟩]
theorem t14 : tinf Tryz.prog 14 = some ⟨.struct fs14, 2, 24, .agg [.str [], .int .u64 0]⟩ := by kernel_rfl
theorem t15 : tinf Tryz.prog 15 = some ⟨.pointer 208, 1, 8, .np⟩ := by kernel_rfl
theorem t16 : tinf Tryz.prog 16 = some ⟨.pointer 211, 1, 8, .np⟩ := by kernel_rfl
theorem t17 : tinf Tryz.prog 17 = some ⟨.pointer 219, 1, 8, .np⟩ := by kernel_rfl
def fs18 : Array Field := #[⟨ "typ", 17, 0, false, "", "internal/runtime/maps", 0⟩]
theorem t18 : tinf Tryz.prog 18 = some ⟨.struct fs18, 1, 8, .agg [.np]⟩ := by kernel_rfl
def fs19 : Array Field := #[⟨ "typ", 17, 0, false, "", "internal/runtime/maps", 0⟩]
theorem t19 : tinf Tryz.prog 19 = some ⟨.struct fs19, 1, 8, .agg [.np]⟩ := by kernel_rfl
theorem t21 : tinf Tryz.prog 21 = some ⟨.int .i32, 1, 4, .int .i32 0⟩ := by kernel_rfl
theorem t22 : tinf Tryz.prog 22 = some ⟨.slice 3, 1, 24, .nil⟩ := by kernel_rfl
theorem t23 : tinf Tryz.prog 23 = some ⟨.slice 34, 1, 24, .nil⟩ := by kernel_rfl
theorem t24 : tinf Tryz.prog 24 = some ⟨.func #[22, 3, 3, 3] #[23] false, 1, 8, .nf⟩ := by kernel_rfl
theorem t25 : tinf Tryz.prog 25 = some ⟨.func #[26, 26] #[4] false, 1, 8, .nf⟩ := by kernel_rfl
theorem t26 : tinf Tryz.prog 26 = some ⟨.slice 62, 1, 24, .nil⟩ := by kernel_rfl
theorem t27 : tinf Tryz.prog 27 = some ⟨.func #[28] #[26] false, 1, 8, .nf⟩ := by kernel_rfl
theorem t28 : tinf Tryz.prog 28 = some ⟨.slice 63, 1, 24, .nil⟩ := by kernel_rfl
theorem t29 : tinf Tryz.prog 29 = some ⟨.func #[34] #[28] false, 1, 8, .nf⟩ := by kernel_rfl
theorem t30 : tinf Tryz.prog 30 = some ⟨.slice 47, 1, 24, .nil⟩ := by kernel_rfl
theorem t31 : tinf Tryz.prog 31 = some ⟨.slice 67, 1, 24, .nil⟩ := by kernel_rfl
theorem t32 : tinf Tryz.prog 32 = some ⟨.slice 100, 1, 24, .nil⟩ := by kernel_rfl
def fs33 : Array Field := #[⟨ "Version", 3, 0, false, "", "", 0⟩, ⟨ "Kinds", 30, 1, false, "", "", 8⟩, ⟨ "Lives", 31, 2, false, "", "", 32⟩, ⟨ "Rules", 32, 3, false, "", "", 56⟩]
theorem t33 : tinf Tryz.prog 33 = some ⟨.struct fs33, 4, 80, .agg [.int .i64 0, .nil, .nil, .nil]⟩ := by kernel_rfl
def fs34 : Array Field := #[⟨ "Version", 3, 0, false, "", "", 0⟩, ⟨ "Kinds", 30, 1, false, "", "", 8⟩, ⟨ "Lives", 31, 2, false, "", "", 32⟩, ⟨ "Rules", 32, 3, false, "", "", 56⟩]
theorem t34 : tinf Tryz.prog 34 = some ⟨.struct fs34, 4, 80, .agg [.int .i64 0, .nil, .nil, .nil]⟩ := by kernel_rfl
theorem t35 : tinf Tryz.prog 35 = some ⟨.func #[34] #[26] false, 1, 8, .nf⟩ := by kernel_rfl
theorem t36 : tinf Tryz.prog 36 = some ⟨.func #[] #[4] false, 1, 8, .nf⟩ := by kernel_rfl
theorem t37 : tinf Tryz.prog 37 = some ⟨.func #[22, 3, 3, 3] #[4] false, 1, 8, .nf⟩ := by kernel_rfl
theorem t38 : tinf Tryz.prog 38 = some ⟨.slice 9, 1, 24, .nil⟩ := by kernel_rfl
theorem t40 : tinf Tryz.prog 40 = some ⟨.func #[34, 3, 3] #[3, 3] false, 1, 8, .nf⟩ := by kernel_rfl
theorem t41 : tinf Tryz.prog 41 = some ⟨.func #[34, 3, 3] #[3] false, 1, 8, .nf⟩ := by kernel_rfl
theorem t42 : tinf Tryz.prog 42 = some ⟨.func #[34, 3, 3] #[4] false, 1, 8, .nf⟩ := by kernel_rfl
def fs43 : Array Field := #[⟨ "Name", 9, 0, false, "", "", 0⟩, ⟨ "Of", 9, 1, false, "", "", 16⟩, ⟨ "Up", 9, 2, false, "", "", 32⟩, ⟨ "Kind", 3, 3, false, "", "", 48⟩, ⟨ "Lo", 3, 4, false, "", "", 56⟩, ⟨ "Hi", 3, 5, false, "", "", 64⟩, ⟨ "Words", 38, 6, false, "", "", 72⟩, ⟨ "Weights", 22, 7, false, "", "", 96⟩]
theorem t43 : tinf Tryz.prog 43 = some ⟨.struct fs43, 8, 120, .agg [.str [], .str [], .str [], .int .i64 0, .int .i64 0, .int .i64 0, .nil, .nil]⟩ := by kernel_rfl
def fs44 : Array Field := #[⟨ "Name", 9, 0, false, "", "", 0⟩, ⟨ "Of", 9, 1, false, "", "", 16⟩, ⟨ "Up", 9, 2, false, "", "", 32⟩, ⟨ "Kind", 3, 3, false, "", "", 48⟩, ⟨ "Lo", 3, 4, false, "", "", 56⟩, ⟨ "Hi", 3, 5, false, "", "", 64⟩, ⟨ "Words", 38, 6, false, "", "", 72⟩, ⟨ "Weights", 22, 7, false, "", "", 96⟩]
theorem t44 : tinf Tryz.prog 44 = some ⟨.struct fs44, 8, 120, .agg [.str [], .str [], .str [], .int .i64 0, .int .i64 0, .int .i64 0, .nil, .nil]⟩ := by kernel_rfl
theorem t45 : tinf Tryz.prog 45 = some ⟨.slice 44, 1, 24, .nil⟩ := by kernel_rfl
def fs46 : Array Field := #[⟨ "Name", 9, 0, false, "", "", 0⟩, ⟨ "Lo", 3, 1, false, "", "", 16⟩, ⟨ "Hi", 3, 2, false, "", "", 24⟩, ⟨ "Fields", 45, 3, false, "", "", 32⟩]
theorem t46 : tinf Tryz.prog 46 = some ⟨.struct fs46, 4, 56, .agg [.str [], .int .i64 0, .int .i64 0, .nil]⟩ := by kernel_rfl
def fs47 : Array Field := #[⟨ "Name", 9, 0, false, "", "", 0⟩, ⟨ "Lo", 3, 1, false, "", "", 16⟩, ⟨ "Hi", 3, 2, false, "", "", 24⟩, ⟨ "Fields", 45, 3, false, "", "", 32⟩]
theorem t47 : tinf Tryz.prog 47 = some ⟨.struct fs47, 4, 56, .agg [.str [], .int .i64 0, .int .i64 0, .nil]⟩ := by kernel_rfl
theorem t48 : tinf Tryz.prog 48 = some ⟨.func #[34, 9] #[3] false, 1, 8, .nf⟩ := by kernel_rfl
theorem t49 : tinf Tryz.prog 49 = some ⟨.func #[47, 9] #[3] false, 1, 8, .nf⟩ := by kernel_rfl
theorem t50 : tinf Tryz.prog 50 = some ⟨.func #[22, 3, 3, 3, 9] #[4] false, 1, 8, .nf⟩ := by kernel_rfl
theorem t51 : tinf Tryz.prog 51 = some ⟨.func #[22] #[34] false, 1, 8, .nf⟩ := by kernel_rfl
theorem t52 : tinf Tryz.prog 52 = some ⟨.func #[22, 3, 3] #[22] false, 1, 8, .nf⟩ := by kernel_rfl
theorem t53 : tinf Tryz.prog 53 = some ⟨.slice 22, 1, 24, .nil⟩ := by kernel_rfl
theorem t54 : tinf Tryz.prog 54 = some ⟨.int .i64, 1, 8, .int .i64 0⟩ := by kernel_rfl
theorem t56 : tinf Tryz.prog 56 = some ⟨.func #[34, 3, 3, 22] #[34, 54] false, 1, 8, .nf⟩ := by kernel_rfl
theorem t60 : tinf Tryz.prog 60 = some ⟨.func #[34, 3, 3, 3] #[34] false, 1, 8, .nf⟩ := by kernel_rfl
def fs61 : Array Field := #[⟨ "Kind", 3, 0, false, "", "", 0⟩, ⟨ "Field", 3, 1, false, "", "", 8⟩, ⟨ "Rule", 3, 2, false, "", "", 16⟩, ⟨ "Code", 54, 3, false, "", "", 24⟩]
theorem t61 : tinf Tryz.prog 61 = some ⟨.struct fs61, 4, 32, .agg [.int .i64 0, .int .i64 0, .int .i64 0, .int .i64 0]⟩ := by kernel_rfl
def fs62 : Array Field := #[⟨ "Kind", 3, 0, false, "", "", 0⟩, ⟨ "Field", 3, 1, false, "", "", 8⟩, ⟨ "Rule", 3, 2, false, "", "", 16⟩, ⟨ "Code", 54, 3, false, "", "", 24⟩]
theorem t62 : tinf Tryz.prog 62 = some ⟨.struct fs62, 4, 32, .agg [.int .i64 0, .int .i64 0, .int .i64 0, .int .i64 0]⟩ := by kernel_rfl
def fs63 : Array Field := #[⟨ "Kind", 3, 0, false, "", "", 0⟩, ⟨ "Field", 3, 1, false, "", "", 8⟩, ⟨ "Rule", 3, 2, false, "", "", 16⟩, ⟨ "Code", 54, 3, false, "", "", 24⟩]
theorem t63 : tinf Tryz.prog 63 = some ⟨.struct fs63, 4, 32, .agg [.int .i64 0, .int .i64 0, .int .i64 0, .int .i64 0]⟩ := by kernel_rfl
theorem t64 : tinf Tryz.prog 64 = some ⟨.func #[3, 3, 3, 54] #[] false, 1, 8, .nf⟩ := by kernel_rfl
theorem t65 : tinf Tryz.prog 65 = some ⟨.slice 98, 1, 24, .nil⟩ := by kernel_rfl
def fs67 : Array Field := #[⟨ "Name", 9, 0, false, "", "", 0⟩, ⟨ "States", 38, 1, false, "", "", 16⟩, ⟨ "Moves", 65, 2, false, "", "", 40⟩]
theorem t67 : tinf Tryz.prog 67 = some ⟨.struct fs67, 3, 64, .agg [.str [], .nil, .nil]⟩ := by kernel_rfl
theorem t69 : tinf Tryz.prog 69 = some ⟨.func #[67] #[4] false, 1, 8, .nf⟩ := by kernel_rfl
def fs72 : Array Field := #[⟨ "is", 4, 0, false, "", "diorama/typing", 0⟩, ⟨ "code", 54, 1, false, "", "diorama/typing", 8⟩]
theorem t72 : tinf Tryz.prog 72 = some ⟨.struct fs72, 2, 16, .agg [.bool false, .int .i64 0]⟩ := by kernel_rfl
theorem t74 : tinf Tryz.prog 74 = some ⟨.func #[79] #[54] false, 1, 8, .nf⟩ := by kernel_rfl
def fs79 : Array Field := #[⟨ "x", 34, 0, false, "", "diorama/typing", 0⟩, ⟨ "kind", 3, 4, false, "", "diorama/typing", 80⟩, ⟨ "field", 3, 5, false, "", "diorama/typing", 88⟩, ⟨ "f", 44, 6, false, "", "diorama/typing", 96⟩]
theorem t79 : tinf Tryz.prog 79 = some ⟨.struct fs79, 14, 216, .agg [.int .i64 0, .nil, .nil, .nil, .int .i64 0, .int .i64 0, .str [], .str [], .str [], .int .i64 0, .int .i64 0, .int .i64 0, .nil, .nil]⟩ := by kernel_rfl
theorem t80 : tinf Tryz.prog 80 = some ⟨.func #[26, 3, 3, 3, 54] #[26] false, 1, 8, .nf⟩ := by kernel_rfl
theorem t85 : tinf Tryz.prog 85 = some ⟨.func #[34, 3, 3] #[44, 4] false, 1, 8, .nf⟩ := by kernel_rfl
theorem t87 : tinf Tryz.prog 87 = some ⟨.func #[34, 3, 44] #[3, 22] false, 1, 8, .nf⟩ := by kernel_rfl
theorem t88 : tinf Tryz.prog 88 = some ⟨.func #[34, 3, 3] #[3, 22] false, 1, 8, .nf⟩ := by kernel_rfl
theorem t90 : tinf Tryz.prog 90 = some ⟨.func #[47] #[4] false, 1, 8, .nf⟩ := by kernel_rfl
theorem t92 : tinf Tryz.prog 92 = some ⟨.func #[44] #[4] false, 1, 8, .nf⟩ := by kernel_rfl
theorem t93 : tinf Tryz.prog 93 = some ⟨.pointer 95, 1, 8, .np⟩ := by kernel_rfl
def fs94 : Array Field := #[⟨ "L", 22, 0, false, "", "", 0⟩, ⟨ "I", 3, 1, false, "", "", 24⟩]
theorem t94 : tinf Tryz.prog 94 = some ⟨.struct fs94, 2, 32, .agg [.nil, .int .i64 0]⟩ := by kernel_rfl
def fs95 : Array Field := #[⟨ "L", 22, 0, false, "", "", 0⟩, ⟨ "I", 3, 1, false, "", "", 24⟩]
theorem t95 : tinf Tryz.prog 95 = some ⟨.struct fs95, 2, 32, .agg [.nil, .int .i64 0]⟩ := by kernel_rfl
theorem t96 : tinf Tryz.prog 96 = some ⟨.func #[3] #[3] false, 1, 8, .nf⟩ := by kernel_rfl
theorem t97 : tinf Tryz.prog 97 = some ⟨.func #[30] #[47] false, 1, 8, .nf⟩ := by kernel_rfl
theorem t98 : tinf Tryz.prog 98 = some ⟨.array 2 3, 2, 16, .agg [.int .i64 0, .int .i64 0]⟩ := by kernel_rfl
def fs100 : Array Field := #[⟨ "Name", 9, 0, false, "", "", 0⟩, ⟨ "Kind", 9, 1, false, "", "", 16⟩, ⟨ "A", 9, 2, false, "", "", 32⟩, ⟨ "B", 9, 3, false, "", "", 48⟩, ⟨ "N", 3, 4, false, "", "", 64⟩]
theorem t100 : tinf Tryz.prog 100 = some ⟨.struct fs100, 5, 72, .agg [.str [], .str [], .str [], .str [], .int .i64 0]⟩ := by kernel_rfl
theorem t103 : tinf Tryz.prog 103 = some ⟨.func #[22, 3, 3] #[3] false, 1, 8, .nf⟩ := by kernel_rfl
theorem t119 : tinf Tryz.prog 119 = some ⟨.func #[32, 32] #[4] false, 1, 8, .nf⟩ := by kernel_rfl
theorem t120 : tinf Tryz.prog 120 = some ⟨.func #[3, 3, 3] #[4] false, 1, 8, .nf⟩ := by kernel_rfl
theorem t123 : tinf Tryz.prog 123 = some ⟨.func #[100] #[4] false, 1, 8, .nf⟩ := by kernel_rfl
theorem t124 : tinf Tryz.prog 124 = some ⟨.func #[34] #[9] false, 1, 8, .nf⟩ := by kernel_rfl
theorem t138 : tinf Tryz.prog 138 = some ⟨.func #[45, 9] #[3] false, 1, 8, .nf⟩ := by kernel_rfl
theorem t142 : tinf Tryz.prog 142 = some ⟨.func #[9] #[4] false, 1, 8, .nf⟩ := by kernel_rfl
theorem t161 : tinf Tryz.prog 161 = some ⟨.func #[22, 3] #[4] false, 1, 8, .nf⟩ := by kernel_rfl
theorem t167 : tinf Tryz.prog 167 = some ⟨.func #[9, 3] #[9] false, 1, 8, .nf⟩ := by kernel_rfl
theorem t178 : tinf Tryz.prog 178 = some ⟨.pointer 5, 1, 8, .np⟩ := by kernel_rfl
theorem t200 : tinf Tryz.prog 200 = some ⟨.int .u32, 1, 4, .int .u32 0⟩ := by kernel_rfl
def fs208 : Array Field := #[⟨ "_interface", 17, 0, false, "", "runtime", 0⟩, ⟨ "concrete", 17, 1, false, "", "runtime", 8⟩, ⟨ "asserted", 17, 2, false, "", "runtime", 16⟩, ⟨ "missingMethod", 9, 3, false, "", "runtime", 24⟩]
theorem t208 : tinf Tryz.prog 208 = some ⟨.struct fs208, 4, 40, .agg [.np, .np, .np, .str []]⟩ := by kernel_rfl
theorem t209 : tinf Tryz.prog 209 = some ⟨.array 0 16, 0, 0, .agg []⟩ := by kernel_rfl
def fs211 : Array Field := #[⟨ "_", 209, 0, false, "", "runtime", 0⟩]
theorem t211 : tinf Tryz.prog 211 = some ⟨.struct fs211, 0, 0, .agg []⟩ := by kernel_rfl
theorem t213 : tinf Tryz.prog 213 = some ⟨.int .u8, 1, 1, .int .u8 0⟩ := by kernel_rfl
theorem t214 : tinf Tryz.prog 214 = some ⟨.int .u8, 1, 1, .int .u8 0⟩ := by kernel_rfl
theorem t215 : tinf Tryz.prog 215 = some ⟨.func #[190, 190] #[4] false, 1, 8, .nf⟩ := by kernel_rfl
theorem t216 : tinf Tryz.prog 216 = some ⟨.int .i32, 1, 4, .int .i32 0⟩ := by kernel_rfl
theorem t217 : tinf Tryz.prog 217 = some ⟨.int .i32, 1, 4, .int .i32 0⟩ := by kernel_rfl
def fs219 : Array Field := #[⟨ "Size_", 12, 0, false, "", "", 0⟩, ⟨ "PtrBytes", 12, 1, false, "", "", 8⟩, ⟨ "Hash", 200, 2, false, "", "", 16⟩, ⟨ "TFlag", 213, 3, false, "", "", 20⟩, ⟨ "Align_", 5, 4, false, "", "", 21⟩, ⟨ "FieldAlign_", 5, 5, false, "", "", 22⟩, ⟨ "Kind_", 214, 6, false, "", "", 23⟩, ⟨ "Equal", 215, 7, false, "", "", 24⟩, ⟨ "GCData", 178, 8, false, "", "", 32⟩, ⟨ "Str", 216, 9, false, "", "", 40⟩, ⟨ "PtrToThis", 217, 10, false, "", "", 44⟩]
theorem t219 : tinf Tryz.prog 219 = some ⟨.struct fs219, 11, 48, .agg [.int .u64 0, .int .u64 0, .int .u32 0, .int .u8 0, .int .u8 0, .int .u8 0, .int .u8 0, .nf, .np, .int .i32 0, .int .i32 0]⟩ := by kernel_rfl

theorem fo7_0 : fldOff Tryz.prog 7 0 = some 0 := by kernel_rfl
theorem fd7_0 : fieldOf Tryz.prog 7 0 = some ⟨ "x", 2, 0, false, "", "runtime", 0⟩ := by kernel_rfl
theorem fo7_1 : fldOff Tryz.prog 7 1 = some 1 := by kernel_rfl
theorem fd7_1 : fieldOf Tryz.prog 7 1 = some ⟨ "y", 3, 1, false, "", "runtime", 8⟩ := by kernel_rfl
theorem fo7_2 : fldOff Tryz.prog 7 2 = some 2 := by kernel_rfl
theorem fd7_2 : fieldOf Tryz.prog 7 2 = some ⟨ "signed", 4, 2, false, "", "runtime", 16⟩ := by kernel_rfl
theorem fo7_3 : fldOff Tryz.prog 7 3 = some 3 := by kernel_rfl
theorem fd7_3 : fieldOf Tryz.prog 7 3 = some ⟨ "code", 6, 3, false, "", "runtime", 17⟩ := by kernel_rfl
theorem fo8_0 : fldOff Tryz.prog 8 0 = some 0 := by kernel_rfl
theorem fd8_0 : fieldOf Tryz.prog 8 0 = some ⟨ "x", 2, 0, false, "", "runtime", 0⟩ := by kernel_rfl
theorem fo8_1 : fldOff Tryz.prog 8 1 = some 1 := by kernel_rfl
theorem fd8_1 : fieldOf Tryz.prog 8 1 = some ⟨ "y", 3, 1, false, "", "runtime", 8⟩ := by kernel_rfl
theorem fo8_2 : fldOff Tryz.prog 8 2 = some 2 := by kernel_rfl
theorem fd8_2 : fieldOf Tryz.prog 8 2 = some ⟨ "signed", 4, 2, false, "", "runtime", 16⟩ := by kernel_rfl
theorem fo8_3 : fldOff Tryz.prog 8 3 = some 3 := by kernel_rfl
theorem fd8_3 : fieldOf Tryz.prog 8 3 = some ⟨ "code", 6, 3, false, "", "runtime", 17⟩ := by kernel_rfl
theorem fo13_0 : fldOff Tryz.prog 13 0 = some 0 := by kernel_rfl
theorem fd13_0 : fieldOf Tryz.prog 13 0 = some ⟨ "msg", 9, 0, false, "", "runtime", 0⟩ := by kernel_rfl
theorem fo13_1 : fldOff Tryz.prog 13 1 = some 1 := by kernel_rfl
theorem fd13_1 : fieldOf Tryz.prog 13 1 = some ⟨ "addr", 12, 1, false, "", "runtime", 16⟩ := by kernel_rfl
theorem fo14_0 : fldOff Tryz.prog 14 0 = some 0 := by kernel_rfl
theorem fd14_0 : fieldOf Tryz.prog 14 0 = some ⟨ "msg", 9, 0, false, "", "runtime", 0⟩ := by kernel_rfl
theorem fo14_1 : fldOff Tryz.prog 14 1 = some 1 := by kernel_rfl
theorem fd14_1 : fieldOf Tryz.prog 14 1 = some ⟨ "addr", 12, 1, false, "", "runtime", 16⟩ := by kernel_rfl
theorem fo18_0 : fldOff Tryz.prog 18 0 = some 0 := by kernel_rfl
theorem fd18_0 : fieldOf Tryz.prog 18 0 = some ⟨ "typ", 17, 0, false, "", "internal/runtime/maps", 0⟩ := by kernel_rfl
theorem fo19_0 : fldOff Tryz.prog 19 0 = some 0 := by kernel_rfl
theorem fd19_0 : fieldOf Tryz.prog 19 0 = some ⟨ "typ", 17, 0, false, "", "internal/runtime/maps", 0⟩ := by kernel_rfl
theorem fo33_0 : fldOff Tryz.prog 33 0 = some 0 := by kernel_rfl
theorem fd33_0 : fieldOf Tryz.prog 33 0 = some ⟨ "Version", 3, 0, false, "", "", 0⟩ := by kernel_rfl
theorem fo33_1 : fldOff Tryz.prog 33 1 = some 1 := by kernel_rfl
theorem fd33_1 : fieldOf Tryz.prog 33 1 = some ⟨ "Kinds", 30, 1, false, "", "", 8⟩ := by kernel_rfl
theorem fo33_2 : fldOff Tryz.prog 33 2 = some 2 := by kernel_rfl
theorem fd33_2 : fieldOf Tryz.prog 33 2 = some ⟨ "Lives", 31, 2, false, "", "", 32⟩ := by kernel_rfl
theorem fo33_3 : fldOff Tryz.prog 33 3 = some 3 := by kernel_rfl
theorem fd33_3 : fieldOf Tryz.prog 33 3 = some ⟨ "Rules", 32, 3, false, "", "", 56⟩ := by kernel_rfl
theorem fo34_0 : fldOff Tryz.prog 34 0 = some 0 := by kernel_rfl
theorem fd34_0 : fieldOf Tryz.prog 34 0 = some ⟨ "Version", 3, 0, false, "", "", 0⟩ := by kernel_rfl
theorem fo34_1 : fldOff Tryz.prog 34 1 = some 1 := by kernel_rfl
theorem fd34_1 : fieldOf Tryz.prog 34 1 = some ⟨ "Kinds", 30, 1, false, "", "", 8⟩ := by kernel_rfl
theorem fo34_2 : fldOff Tryz.prog 34 2 = some 2 := by kernel_rfl
theorem fd34_2 : fieldOf Tryz.prog 34 2 = some ⟨ "Lives", 31, 2, false, "", "", 32⟩ := by kernel_rfl
theorem fo34_3 : fldOff Tryz.prog 34 3 = some 3 := by kernel_rfl
theorem fd34_3 : fieldOf Tryz.prog 34 3 = some ⟨ "Rules", 32, 3, false, "", "", 56⟩ := by kernel_rfl
theorem fo43_0 : fldOff Tryz.prog 43 0 = some 0 := by kernel_rfl
theorem fd43_0 : fieldOf Tryz.prog 43 0 = some ⟨ "Name", 9, 0, false, "", "", 0⟩ := by kernel_rfl
theorem fo43_1 : fldOff Tryz.prog 43 1 = some 1 := by kernel_rfl
theorem fd43_1 : fieldOf Tryz.prog 43 1 = some ⟨ "Of", 9, 1, false, "", "", 16⟩ := by kernel_rfl
theorem fo43_2 : fldOff Tryz.prog 43 2 = some 2 := by kernel_rfl
theorem fd43_2 : fieldOf Tryz.prog 43 2 = some ⟨ "Up", 9, 2, false, "", "", 32⟩ := by kernel_rfl
theorem fo43_3 : fldOff Tryz.prog 43 3 = some 3 := by kernel_rfl
theorem fd43_3 : fieldOf Tryz.prog 43 3 = some ⟨ "Kind", 3, 3, false, "", "", 48⟩ := by kernel_rfl
theorem fo43_4 : fldOff Tryz.prog 43 4 = some 4 := by kernel_rfl
theorem fd43_4 : fieldOf Tryz.prog 43 4 = some ⟨ "Lo", 3, 4, false, "", "", 56⟩ := by kernel_rfl
theorem fo43_5 : fldOff Tryz.prog 43 5 = some 5 := by kernel_rfl
theorem fd43_5 : fieldOf Tryz.prog 43 5 = some ⟨ "Hi", 3, 5, false, "", "", 64⟩ := by kernel_rfl
theorem fo43_6 : fldOff Tryz.prog 43 6 = some 6 := by kernel_rfl
theorem fd43_6 : fieldOf Tryz.prog 43 6 = some ⟨ "Words", 38, 6, false, "", "", 72⟩ := by kernel_rfl
theorem fo43_7 : fldOff Tryz.prog 43 7 = some 7 := by kernel_rfl
theorem fd43_7 : fieldOf Tryz.prog 43 7 = some ⟨ "Weights", 22, 7, false, "", "", 96⟩ := by kernel_rfl
theorem fo44_0 : fldOff Tryz.prog 44 0 = some 0 := by kernel_rfl
theorem fd44_0 : fieldOf Tryz.prog 44 0 = some ⟨ "Name", 9, 0, false, "", "", 0⟩ := by kernel_rfl
theorem fo44_1 : fldOff Tryz.prog 44 1 = some 1 := by kernel_rfl
theorem fd44_1 : fieldOf Tryz.prog 44 1 = some ⟨ "Of", 9, 1, false, "", "", 16⟩ := by kernel_rfl
theorem fo44_2 : fldOff Tryz.prog 44 2 = some 2 := by kernel_rfl
theorem fd44_2 : fieldOf Tryz.prog 44 2 = some ⟨ "Up", 9, 2, false, "", "", 32⟩ := by kernel_rfl
theorem fo44_3 : fldOff Tryz.prog 44 3 = some 3 := by kernel_rfl
theorem fd44_3 : fieldOf Tryz.prog 44 3 = some ⟨ "Kind", 3, 3, false, "", "", 48⟩ := by kernel_rfl
theorem fo44_4 : fldOff Tryz.prog 44 4 = some 4 := by kernel_rfl
theorem fd44_4 : fieldOf Tryz.prog 44 4 = some ⟨ "Lo", 3, 4, false, "", "", 56⟩ := by kernel_rfl
theorem fo44_5 : fldOff Tryz.prog 44 5 = some 5 := by kernel_rfl
theorem fd44_5 : fieldOf Tryz.prog 44 5 = some ⟨ "Hi", 3, 5, false, "", "", 64⟩ := by kernel_rfl
theorem fo44_6 : fldOff Tryz.prog 44 6 = some 6 := by kernel_rfl
theorem fd44_6 : fieldOf Tryz.prog 44 6 = some ⟨ "Words", 38, 6, false, "", "", 72⟩ := by kernel_rfl
theorem fo44_7 : fldOff Tryz.prog 44 7 = some 7 := by kernel_rfl
theorem fd44_7 : fieldOf Tryz.prog 44 7 = some ⟨ "Weights", 22, 7, false, "", "", 96⟩ := by kernel_rfl
theorem fo46_0 : fldOff Tryz.prog 46 0 = some 0 := by kernel_rfl
theorem fd46_0 : fieldOf Tryz.prog 46 0 = some ⟨ "Name", 9, 0, false, "", "", 0⟩ := by kernel_rfl
theorem fo46_1 : fldOff Tryz.prog 46 1 = some 1 := by kernel_rfl
theorem fd46_1 : fieldOf Tryz.prog 46 1 = some ⟨ "Lo", 3, 1, false, "", "", 16⟩ := by kernel_rfl
theorem fo46_2 : fldOff Tryz.prog 46 2 = some 2 := by kernel_rfl
theorem fd46_2 : fieldOf Tryz.prog 46 2 = some ⟨ "Hi", 3, 2, false, "", "", 24⟩ := by kernel_rfl
theorem fo46_3 : fldOff Tryz.prog 46 3 = some 3 := by kernel_rfl
theorem fd46_3 : fieldOf Tryz.prog 46 3 = some ⟨ "Fields", 45, 3, false, "", "", 32⟩ := by kernel_rfl
theorem fo47_0 : fldOff Tryz.prog 47 0 = some 0 := by kernel_rfl
theorem fd47_0 : fieldOf Tryz.prog 47 0 = some ⟨ "Name", 9, 0, false, "", "", 0⟩ := by kernel_rfl
theorem fo47_1 : fldOff Tryz.prog 47 1 = some 1 := by kernel_rfl
theorem fd47_1 : fieldOf Tryz.prog 47 1 = some ⟨ "Lo", 3, 1, false, "", "", 16⟩ := by kernel_rfl
theorem fo47_2 : fldOff Tryz.prog 47 2 = some 2 := by kernel_rfl
theorem fd47_2 : fieldOf Tryz.prog 47 2 = some ⟨ "Hi", 3, 2, false, "", "", 24⟩ := by kernel_rfl
theorem fo47_3 : fldOff Tryz.prog 47 3 = some 3 := by kernel_rfl
theorem fd47_3 : fieldOf Tryz.prog 47 3 = some ⟨ "Fields", 45, 3, false, "", "", 32⟩ := by kernel_rfl
theorem fo61_0 : fldOff Tryz.prog 61 0 = some 0 := by kernel_rfl
theorem fd61_0 : fieldOf Tryz.prog 61 0 = some ⟨ "Kind", 3, 0, false, "", "", 0⟩ := by kernel_rfl
theorem fo61_1 : fldOff Tryz.prog 61 1 = some 1 := by kernel_rfl
theorem fd61_1 : fieldOf Tryz.prog 61 1 = some ⟨ "Field", 3, 1, false, "", "", 8⟩ := by kernel_rfl
theorem fo61_2 : fldOff Tryz.prog 61 2 = some 2 := by kernel_rfl
theorem fd61_2 : fieldOf Tryz.prog 61 2 = some ⟨ "Rule", 3, 2, false, "", "", 16⟩ := by kernel_rfl
theorem fo61_3 : fldOff Tryz.prog 61 3 = some 3 := by kernel_rfl
theorem fd61_3 : fieldOf Tryz.prog 61 3 = some ⟨ "Code", 54, 3, false, "", "", 24⟩ := by kernel_rfl
theorem fo62_0 : fldOff Tryz.prog 62 0 = some 0 := by kernel_rfl
theorem fd62_0 : fieldOf Tryz.prog 62 0 = some ⟨ "Kind", 3, 0, false, "", "", 0⟩ := by kernel_rfl
theorem fo62_1 : fldOff Tryz.prog 62 1 = some 1 := by kernel_rfl
theorem fd62_1 : fieldOf Tryz.prog 62 1 = some ⟨ "Field", 3, 1, false, "", "", 8⟩ := by kernel_rfl
theorem fo62_2 : fldOff Tryz.prog 62 2 = some 2 := by kernel_rfl
theorem fd62_2 : fieldOf Tryz.prog 62 2 = some ⟨ "Rule", 3, 2, false, "", "", 16⟩ := by kernel_rfl
theorem fo62_3 : fldOff Tryz.prog 62 3 = some 3 := by kernel_rfl
theorem fd62_3 : fieldOf Tryz.prog 62 3 = some ⟨ "Code", 54, 3, false, "", "", 24⟩ := by kernel_rfl
theorem fo63_0 : fldOff Tryz.prog 63 0 = some 0 := by kernel_rfl
theorem fd63_0 : fieldOf Tryz.prog 63 0 = some ⟨ "Kind", 3, 0, false, "", "", 0⟩ := by kernel_rfl
theorem fo63_1 : fldOff Tryz.prog 63 1 = some 1 := by kernel_rfl
theorem fd63_1 : fieldOf Tryz.prog 63 1 = some ⟨ "Field", 3, 1, false, "", "", 8⟩ := by kernel_rfl
theorem fo63_2 : fldOff Tryz.prog 63 2 = some 2 := by kernel_rfl
theorem fd63_2 : fieldOf Tryz.prog 63 2 = some ⟨ "Rule", 3, 2, false, "", "", 16⟩ := by kernel_rfl
theorem fo63_3 : fldOff Tryz.prog 63 3 = some 3 := by kernel_rfl
theorem fd63_3 : fieldOf Tryz.prog 63 3 = some ⟨ "Code", 54, 3, false, "", "", 24⟩ := by kernel_rfl
theorem fo66_0 : fldOff Tryz.prog 66 0 = some 0 := by kernel_rfl
theorem fd66_0 : fieldOf Tryz.prog 66 0 = some ⟨ "Name", 9, 0, false, "", "", 0⟩ := by kernel_rfl
theorem fo66_1 : fldOff Tryz.prog 66 1 = some 1 := by kernel_rfl
theorem fd66_1 : fieldOf Tryz.prog 66 1 = some ⟨ "States", 38, 1, false, "", "", 16⟩ := by kernel_rfl
theorem fo66_2 : fldOff Tryz.prog 66 2 = some 2 := by kernel_rfl
theorem fd66_2 : fieldOf Tryz.prog 66 2 = some ⟨ "Moves", 65, 2, false, "", "", 40⟩ := by kernel_rfl
theorem fo67_0 : fldOff Tryz.prog 67 0 = some 0 := by kernel_rfl
theorem fd67_0 : fieldOf Tryz.prog 67 0 = some ⟨ "Name", 9, 0, false, "", "", 0⟩ := by kernel_rfl
theorem fo67_1 : fldOff Tryz.prog 67 1 = some 1 := by kernel_rfl
theorem fd67_1 : fieldOf Tryz.prog 67 1 = some ⟨ "States", 38, 1, false, "", "", 16⟩ := by kernel_rfl
theorem fo67_2 : fldOff Tryz.prog 67 2 = some 2 := by kernel_rfl
theorem fd67_2 : fieldOf Tryz.prog 67 2 = some ⟨ "Moves", 65, 2, false, "", "", 40⟩ := by kernel_rfl
theorem fo71_0 : fldOff Tryz.prog 71 0 = some 0 := by kernel_rfl
theorem fd71_0 : fieldOf Tryz.prog 71 0 = some ⟨ "is", 4, 0, false, "", "diorama/typing", 0⟩ := by kernel_rfl
theorem fo71_1 : fldOff Tryz.prog 71 1 = some 1 := by kernel_rfl
theorem fd71_1 : fieldOf Tryz.prog 71 1 = some ⟨ "code", 54, 1, false, "", "diorama/typing", 8⟩ := by kernel_rfl
theorem fo72_0 : fldOff Tryz.prog 72 0 = some 0 := by kernel_rfl
theorem fd72_0 : fieldOf Tryz.prog 72 0 = some ⟨ "is", 4, 0, false, "", "diorama/typing", 0⟩ := by kernel_rfl
theorem fo72_1 : fldOff Tryz.prog 72 1 = some 1 := by kernel_rfl
theorem fd72_1 : fieldOf Tryz.prog 72 1 = some ⟨ "code", 54, 1, false, "", "diorama/typing", 8⟩ := by kernel_rfl
theorem fo75_0 : fldOff Tryz.prog 75 0 = some 0 := by kernel_rfl
theorem fd75_0 : fieldOf Tryz.prog 75 0 = some ⟨ "check", 74, 0, false, "", "diorama/typing", 0⟩ := by kernel_rfl
theorem fo78_0 : fldOff Tryz.prog 78 0 = some 0 := by kernel_rfl
theorem fd78_0 : fieldOf Tryz.prog 78 0 = some ⟨ "x", 34, 0, false, "", "diorama/typing", 0⟩ := by kernel_rfl
theorem fo78_1 : fldOff Tryz.prog 78 1 = some 4 := by kernel_rfl
theorem fd78_1 : fieldOf Tryz.prog 78 1 = some ⟨ "kind", 3, 4, false, "", "diorama/typing", 80⟩ := by kernel_rfl
theorem fo78_2 : fldOff Tryz.prog 78 2 = some 5 := by kernel_rfl
theorem fd78_2 : fieldOf Tryz.prog 78 2 = some ⟨ "field", 3, 5, false, "", "diorama/typing", 88⟩ := by kernel_rfl
theorem fo78_3 : fldOff Tryz.prog 78 3 = some 6 := by kernel_rfl
theorem fd78_3 : fieldOf Tryz.prog 78 3 = some ⟨ "f", 44, 6, false, "", "diorama/typing", 96⟩ := by kernel_rfl
theorem fo79_0 : fldOff Tryz.prog 79 0 = some 0 := by kernel_rfl
theorem fd79_0 : fieldOf Tryz.prog 79 0 = some ⟨ "x", 34, 0, false, "", "diorama/typing", 0⟩ := by kernel_rfl
theorem fo79_1 : fldOff Tryz.prog 79 1 = some 4 := by kernel_rfl
theorem fd79_1 : fieldOf Tryz.prog 79 1 = some ⟨ "kind", 3, 4, false, "", "diorama/typing", 80⟩ := by kernel_rfl
theorem fo79_2 : fldOff Tryz.prog 79 2 = some 5 := by kernel_rfl
theorem fd79_2 : fieldOf Tryz.prog 79 2 = some ⟨ "field", 3, 5, false, "", "diorama/typing", 88⟩ := by kernel_rfl
theorem fo79_3 : fldOff Tryz.prog 79 3 = some 6 := by kernel_rfl
theorem fd79_3 : fieldOf Tryz.prog 79 3 = some ⟨ "f", 44, 6, false, "", "diorama/typing", 96⟩ := by kernel_rfl
theorem fo94_0 : fldOff Tryz.prog 94 0 = some 0 := by kernel_rfl
theorem fd94_0 : fieldOf Tryz.prog 94 0 = some ⟨ "L", 22, 0, false, "", "", 0⟩ := by kernel_rfl
theorem fo94_1 : fldOff Tryz.prog 94 1 = some 1 := by kernel_rfl
theorem fd94_1 : fieldOf Tryz.prog 94 1 = some ⟨ "I", 3, 1, false, "", "", 24⟩ := by kernel_rfl
theorem fo95_0 : fldOff Tryz.prog 95 0 = some 0 := by kernel_rfl
theorem fd95_0 : fieldOf Tryz.prog 95 0 = some ⟨ "L", 22, 0, false, "", "", 0⟩ := by kernel_rfl
theorem fo95_1 : fldOff Tryz.prog 95 1 = some 1 := by kernel_rfl
theorem fd95_1 : fieldOf Tryz.prog 95 1 = some ⟨ "I", 3, 1, false, "", "", 24⟩ := by kernel_rfl
theorem fo99_0 : fldOff Tryz.prog 99 0 = some 0 := by kernel_rfl
theorem fd99_0 : fieldOf Tryz.prog 99 0 = some ⟨ "Name", 9, 0, false, "", "", 0⟩ := by kernel_rfl
theorem fo99_1 : fldOff Tryz.prog 99 1 = some 1 := by kernel_rfl
theorem fd99_1 : fieldOf Tryz.prog 99 1 = some ⟨ "Kind", 9, 1, false, "", "", 16⟩ := by kernel_rfl
theorem fo99_2 : fldOff Tryz.prog 99 2 = some 2 := by kernel_rfl
theorem fd99_2 : fieldOf Tryz.prog 99 2 = some ⟨ "A", 9, 2, false, "", "", 32⟩ := by kernel_rfl
theorem fo99_3 : fldOff Tryz.prog 99 3 = some 3 := by kernel_rfl
theorem fd99_3 : fieldOf Tryz.prog 99 3 = some ⟨ "B", 9, 3, false, "", "", 48⟩ := by kernel_rfl
theorem fo99_4 : fldOff Tryz.prog 99 4 = some 4 := by kernel_rfl
theorem fd99_4 : fieldOf Tryz.prog 99 4 = some ⟨ "N", 3, 4, false, "", "", 64⟩ := by kernel_rfl
theorem fo100_0 : fldOff Tryz.prog 100 0 = some 0 := by kernel_rfl
theorem fd100_0 : fieldOf Tryz.prog 100 0 = some ⟨ "Name", 9, 0, false, "", "", 0⟩ := by kernel_rfl
theorem fo100_1 : fldOff Tryz.prog 100 1 = some 1 := by kernel_rfl
theorem fd100_1 : fieldOf Tryz.prog 100 1 = some ⟨ "Kind", 9, 1, false, "", "", 16⟩ := by kernel_rfl
theorem fo100_2 : fldOff Tryz.prog 100 2 = some 2 := by kernel_rfl
theorem fd100_2 : fieldOf Tryz.prog 100 2 = some ⟨ "A", 9, 2, false, "", "", 32⟩ := by kernel_rfl
theorem fo100_3 : fldOff Tryz.prog 100 3 = some 3 := by kernel_rfl
theorem fd100_3 : fieldOf Tryz.prog 100 3 = some ⟨ "B", 9, 3, false, "", "", 48⟩ := by kernel_rfl
theorem fo100_4 : fldOff Tryz.prog 100 4 = some 4 := by kernel_rfl
theorem fd100_4 : fieldOf Tryz.prog 100 4 = some ⟨ "N", 3, 4, false, "", "", 64⟩ := by kernel_rfl
theorem fo128_0 : fldOff Tryz.prog 128 0 = some 0 := by kernel_rfl
theorem fd128_0 : fieldOf Tryz.prog 128 0 = some ⟨ "P", 3, 0, false, "", "", 0⟩ := by kernel_rfl
theorem fo128_1 : fldOff Tryz.prog 128 1 = some 1 := by kernel_rfl
theorem fd128_1 : fieldOf Tryz.prog 128 1 = some ⟨ "Q", 3, 1, false, "", "", 8⟩ := by kernel_rfl
theorem fo129_0 : fldOff Tryz.prog 129 0 = some 0 := by kernel_rfl
theorem fd129_0 : fieldOf Tryz.prog 129 0 = some ⟨ "P", 3, 0, false, "", "", 0⟩ := by kernel_rfl
theorem fo129_1 : fldOff Tryz.prog 129 1 = some 1 := by kernel_rfl
theorem fd129_1 : fieldOf Tryz.prog 129 1 = some ⟨ "Q", 3, 1, false, "", "", 8⟩ := by kernel_rfl
theorem fo150_0 : fldOff Tryz.prog 150 0 = some 0 := by kernel_rfl
theorem fd150_0 : fieldOf Tryz.prog 150 0 = some ⟨ "addr", 148, 0, false, "", "strings", 0⟩ := by kernel_rfl
theorem fo150_1 : fldOff Tryz.prog 150 1 = some 1 := by kernel_rfl
theorem fd150_1 : fieldOf Tryz.prog 150 1 = some ⟨ "buf", 149, 1, false, "", "strings", 8⟩ := by kernel_rfl
theorem fo151_0 : fldOff Tryz.prog 151 0 = some 0 := by kernel_rfl
theorem fd151_0 : fieldOf Tryz.prog 151 0 = some ⟨ "addr", 148, 0, false, "", "strings", 0⟩ := by kernel_rfl
theorem fo151_1 : fldOff Tryz.prog 151 1 = some 1 := by kernel_rfl
theorem fd151_1 : fieldOf Tryz.prog 151 1 = some ⟨ "buf", 149, 1, false, "", "strings", 8⟩ := by kernel_rfl
theorem pl7 : places Tryz.prog fs7.toList = some [(0, 1), (1, 1), (2, 1), (3, 1)] := by kernel_rfl
theorem pl8 : places Tryz.prog fs8.toList = some [(0, 1), (1, 1), (2, 1), (3, 1)] := by kernel_rfl
theorem pl13 : places Tryz.prog fs13.toList = some [(0, 1), (1, 1)] := by kernel_rfl
theorem pl14 : places Tryz.prog fs14.toList = some [(0, 1), (1, 1)] := by kernel_rfl
theorem pl18 : places Tryz.prog fs18.toList = some [(0, 1)] := by kernel_rfl
theorem pl19 : places Tryz.prog fs19.toList = some [(0, 1)] := by kernel_rfl
theorem pl33 : places Tryz.prog fs33.toList = some [(0, 1), (1, 1), (2, 1), (3, 1)] := by kernel_rfl
theorem pl34 : places Tryz.prog fs34.toList = some [(0, 1), (1, 1), (2, 1), (3, 1)] := by kernel_rfl
theorem pl43 : places Tryz.prog fs43.toList = some [(0, 1), (1, 1), (2, 1), (3, 1), (4, 1), (5, 1), (6, 1), (7, 1)] := by kernel_rfl
theorem pl44 : places Tryz.prog fs44.toList = some [(0, 1), (1, 1), (2, 1), (3, 1), (4, 1), (5, 1), (6, 1), (7, 1)] := by kernel_rfl
theorem pl46 : places Tryz.prog fs46.toList = some [(0, 1), (1, 1), (2, 1), (3, 1)] := by kernel_rfl
theorem pl47 : places Tryz.prog fs47.toList = some [(0, 1), (1, 1), (2, 1), (3, 1)] := by kernel_rfl
theorem pl61 : places Tryz.prog fs61.toList = some [(0, 1), (1, 1), (2, 1), (3, 1)] := by kernel_rfl
theorem pl62 : places Tryz.prog fs62.toList = some [(0, 1), (1, 1), (2, 1), (3, 1)] := by kernel_rfl
theorem pl63 : places Tryz.prog fs63.toList = some [(0, 1), (1, 1), (2, 1), (3, 1)] := by kernel_rfl
theorem pl67 : places Tryz.prog fs67.toList = some [(0, 1), (1, 1), (2, 1)] := by kernel_rfl
theorem pl72 : places Tryz.prog fs72.toList = some [(0, 1), (1, 1)] := by kernel_rfl
theorem pl79 : places Tryz.prog fs79.toList = some [(0, 4), (4, 1), (5, 1), (6, 8)] := by kernel_rfl
theorem pl94 : places Tryz.prog fs94.toList = some [(0, 1), (1, 1)] := by kernel_rfl
theorem pl95 : places Tryz.prog fs95.toList = some [(0, 1), (1, 1)] := by kernel_rfl
theorem pl100 : places Tryz.prog fs100.toList = some [(0, 1), (1, 1), (2, 1), (3, 1), (4, 1)] := by kernel_rfl

theorem leP : LE.P = Tryz.prog := rfl
theorem leX (f : FuncId) : LE.ext f = none := rfl
theorem leZ (f : FuncId) (k : Option Tmp) : LE.fzd f k = fzdL f k := rfl
theorem leI (f : FuncId) : LE.idf f = (f == 163) := rfl
theorem leT (t : TypeId) : LE.tyd t = (t == 151) := rfl
theorem leB (t : TypeId) : LE.tbs t = (t == 149) := rfl
theorem leW (f d : Nat) : LE.wr f d = wrl.contains (f, d) := rfl
theorem leM (f : Nat) : LE.mode f = modeL f := rfl

attribute [simp] t1 t2 t3 t4 t5 t6 t7 t8 t9 t10 t11 t12 t13 t14 t15 t16 t17 t18 t19 t21 t22 t23 t24 t25 t26 t27 t28 t29 t30 t31 t32 t33 t34 t35 t36 t37 t38 t40 t41 t42 t43 t44 t45 t46 t47 t48 t49 t50 t51 t52 t53 t54 t56 t60 t61 t62 t63 t64 t65 t67 t69 t72 t74 t79 t80 t85 t87 t88 t90 t92 t93 t94 t95 t96 t97 t98 t100 t103 t119 t120 t123 t124 t138 t142 t161 t167 t178 t200 t208 t209 t211 t213 t214 t215 t216 t217 t219 fo7_0 fd7_0 fo7_1 fd7_1 fo7_2 fd7_2 fo7_3 fd7_3 fo8_0 fd8_0 fo8_1 fd8_1 fo8_2 fd8_2 fo8_3 fd8_3 fo13_0 fd13_0 fo13_1 fd13_1 fo14_0 fd14_0 fo14_1 fd14_1 fo18_0 fd18_0 fo19_0 fd19_0 fo33_0 fd33_0 fo33_1 fd33_1 fo33_2 fd33_2 fo33_3 fd33_3 fo34_0 fd34_0 fo34_1 fd34_1 fo34_2 fd34_2 fo34_3 fd34_3 fo43_0 fd43_0 fo43_1 fd43_1 fo43_2 fd43_2 fo43_3 fd43_3 fo43_4 fd43_4 fo43_5 fd43_5 fo43_6 fd43_6 fo43_7 fd43_7 fo44_0 fd44_0 fo44_1 fd44_1 fo44_2 fd44_2 fo44_3 fd44_3 fo44_4 fd44_4 fo44_5 fd44_5 fo44_6 fd44_6 fo44_7 fd44_7 fo46_0 fd46_0 fo46_1 fd46_1 fo46_2 fd46_2 fo46_3 fd46_3 fo47_0 fd47_0 fo47_1 fd47_1 fo47_2 fd47_2 fo47_3 fd47_3 fo61_0 fd61_0 fo61_1 fd61_1 fo61_2 fd61_2 fo61_3 fd61_3 fo62_0 fd62_0 fo62_1 fd62_1 fo62_2 fd62_2 fo62_3 fd62_3 fo63_0 fd63_0 fo63_1 fd63_1 fo63_2 fd63_2 fo63_3 fd63_3 fo66_0 fd66_0 fo66_1 fd66_1 fo66_2 fd66_2 fo67_0 fd67_0 fo67_1 fd67_1 fo67_2 fd67_2 fo71_0 fd71_0 fo71_1 fd71_1 fo72_0 fd72_0 fo72_1 fd72_1 fo75_0 fd75_0 fo78_0 fd78_0 fo78_1 fd78_1 fo78_2 fd78_2 fo78_3 fd78_3 fo79_0 fd79_0 fo79_1 fd79_1 fo79_2 fd79_2 fo79_3 fd79_3 fo94_0 fd94_0 fo94_1 fd94_1 fo95_0 fd95_0 fo95_1 fd95_1 fo99_0 fd99_0 fo99_1 fd99_1 fo99_2 fd99_2 fo99_3 fd99_3 fo99_4 fd99_4 fo100_0 fd100_0 fo100_1 fd100_1 fo100_2 fd100_2 fo100_3 fd100_3 fo100_4 fd100_4 fo128_0 fd128_0 fo128_1 fd128_1 fo129_0 fd129_0 fo129_1 fd129_1 fo150_0 fd150_0 fo150_1 fd150_1 fo151_0 fd151_0 fo151_1 fd151_1 pl7 pl8 pl13 pl14 pl18 pl19 pl33 pl34 pl43 pl44 pl46 pl47 pl61 pl62 pl63 pl67 pl72 pl79 pl94 pl95 pl100 leP leX leZ leI leT leB fzdL

theorem LTk : LT Tryz.prog 30 47 ⟨.struct fs47, 4, 56, .agg [.str [], .int .i64 0, .int .i64 0, .nil]⟩ := ⟨t30, t47, by decide, by decide, rfl⟩
theorem LTf : LT Tryz.prog 45 44 ⟨.struct fs44, 8, 120, .agg [.str [], .str [], .str [], .int .i64 0, .int .i64 0, .int .i64 0, .nil, .nil]⟩ := ⟨t45, t44, by decide, by decide, rfl⟩
theorem LTl : LT Tryz.prog 31 67 ⟨.struct fs67, 3, 64, .agg [.str [], .nil, .nil]⟩ := ⟨t31, t67, by decide, by decide, rfl⟩
theorem LTr : LT Tryz.prog 32 100 ⟨.struct fs100, 5, 72, .agg [.str [], .str [], .str [], .str [], .int .i64 0]⟩ := ⟨t32, t100, by decide, by decide, rfl⟩
theorem LTs : LT Tryz.prog 38 9 ⟨.string, 1, 16, .str []⟩ := ⟨t38, t9, by decide, by decide, rfl⟩
theorem LTi : LT Tryz.prog 22 3 ⟨.int .i64, 1, 8, .int .i64 0⟩ := ⟨t22, t3, by decide, by decide, rfl⟩
theorem LTx : LT Tryz.prog 23 34 ⟨.struct fs34, 4, 80, .agg [.int .i64 0, .nil, .nil, .nil]⟩ := ⟨t23, t34, by decide, by decide, rfl⟩
theorem LTp : LT Tryz.prog 65 98 ⟨.array 2 3, 2, 16, .agg [.int .i64 0, .int .i64 0]⟩ := ⟨t65, t98, by decide, by decide, rfl⟩

theorem runs_W {f : FuncId} {fn : Func} {c : Code} {args : List V} {v : V} (hf : Tryz.prog.funcs[f]? = some fn) (hc : fn.body = some c) {m : Nat} (hm : fn.ntmps = m) (hn : args.length ≤ m)
    (h : W LE f m c (alOf 0 args) [] fun x al' H' => x = .ret ∧ ∃ v0 H'', resultsA LE fn al' H' = some v0 ∧ frzV 12 H' v0 = some (v, H'') ∧ v.pure = true ∧ (v.scalar = true → v0 = v)) : Runs LE f args v := by
  subst hm
  obtain ⟨v0, H', h1, h2⟩ := run_of_W (E := LE) (K := fun _ al H' => ∃ v0 H'', look al 0 = some v0 ∧ frzV 12 H' v0 = some (v, H'') ∧ v.pure = true ∧ (v.scalar = true → v0 = v)) hf hc hn (h.mono fun x al H' hk => by
    obtain ⟨rfl, v0, H'', h1, h2⟩ := hk
    exact ⟨.inl rfl, v0, h1, v0, H'', rfl, h2⟩)
  obtain ⟨v0', H'', h3, h4, h5, h6⟩ := h2
  simp only [look, if_true, Option.some.injEq] at h3
  subst h3
  exact ⟨v0, H', H'', h1, h4, h5, h6⟩

theorem fin_pure {fn : Func} {al : AL} {H : Heap} {v v' : V} (h : resultsA LE fn al H = some v') (he : v' = v) (hp : v.pure = true) : X.ret = X.ret ∧ ∃ v0 H'', resultsA LE fn al H = some v0 ∧ frzV 12 H v0 = some (v, H'') ∧ v.pure = true ∧ (v.scalar = true → v0 = v) := by
  subst he
  exact ⟨rfl, v', H, h, by simp only [frzV, hp, if_true], hp, fun _ => rfl⟩

theorem fin_frz {fn : Func} {al : AL} {H H'' : Heap} {v v0 : V} (h : resultsA LE fn al H = some v0) (hf : frzV 12 H v0 = some (v, H'')) (hp : v.pure = true) (hs : v.scalar = false) : X.ret = X.ret ∧ ∃ v0 H'', resultsA LE fn al H = some v0 ∧ frzV 12 H v0 = some (v, H'') ∧ v.pure = true ∧ (v.scalar = true → v0 = v) :=
  ⟨rfl, v0, H'', h, hf, hp, fun h => by rw [hs] at h; cases h⟩

theorem fin_res {fn : Func} {rs : List ResultVar} (hr : fn.results.toList = rs) {al : AL} {H : Heap} {v : V} (h : resultsB LE rs al H = some v) (hp : v.pure = true) : X.ret = X.ret ∧ ∃ v0 H'', resultsA LE fn al H = some v0 ∧ frzV 12 H v0 = some (v, H'') ∧ v.pure = true ∧ (v.scalar = true → v0 = v) :=
  fin_pure ((resultsA_eq hr).trans h) rfl hp

theorem pureL_cons {v : V} {r : List V} (h1 : v.pure = true) (h2 : V.pureL r = true) : V.pureL (v :: r) = true := by simp only [V.pureL, h1, h2, Bool.and_self]

end Go.Ae.Zd

namespace Go.Ae.Zd
open Go.Proofs

/-- The index of the first element of which it holds; -1: there is none. -/
def ixF {α : Type} (p : α → Bool) : Nat → List α → Int
 |_, [] => -1
 |i, a :: r => if p a then (i : Int) else ixF p (i + 1) r

theorem ixF_step {α : Type} {p : α → Bool} {l : List α} {i : Nat} (h : i < l.length) : ixF p i (l.drop i) = if p l[i] then (i : Int) else ixF p (i + 1) (l.drop (i + 1)) := by
 rw [List.drop_eq_getElem_cons h]; rfl

theorem eF_len (f : FieldT) : (eF f).length = 8 := rfl
theorem eF_take (f : FieldT) : (eF f).take 8 = eF f := rfl
theorem eK_len (f : KindT) : (eK f).length = 4 := rfl
theorem eK_take (f : KindT) : (eK f).take 4 = eK f := rfl
theorem eL_len (f : LifeT) : (eL f).length = 3 := rfl
theorem eL_take (f : LifeT) : (eL f).take 3 = eL f := rfl
theorem eR_len (f : RuleT) : (eR f).length = 5 := rfl
theorem eR_take (f : RuleT) : (eR f).take 5 = eR f := rfl
theorem eX_len (f : SchemaT) : (eX f).length = 4 := rfl
theorem eX_take (f : SchemaT) : (eX f).take 4 = eX f := rfl
attribute [simp] eF_len eF_take eK_len eK_take eL_len eL_take eR_len eR_take eX_len eX_take

/-- slices.IndexFunc[[]diorama/api.Kind,diorama/api.Kind] -/
theorem ixeK_runs {s : SL KindT} {F : FuncId} {c : List V} {p : KindT → Bool} (hi : (F == 163) = false) (hl : s.list.length < 4611686018427387904) (hF : ∀ k ∈ s.list, ∀ H, call LE F ((.agg (eK k)) :: c) H = some (.bool (p k), H)) : Runs LE 47 [enc eK s, .fn F [] c] (.int .i64 (ixF p 0 s.list)) := by
 have h1 := enc_len (e := eK) LTk s
 have h2 := fun (j : Nat) => @enc_idx _ _ _ _ _ eK LTk eeK s j
 have h3 : ∀ (j : Nat) (hj : j < s.list.length) (H : Heap), call LE F ((.agg (eK s.list[j])) :: c) H = some (.bool (p s.list[j]), H) := fun j hj H => hF _ (List.getElem_mem hj) H
 refine runs_W (m := 19) Tryz.func47 rfl rfl (Nat.le_of_ble_eq_true rfl) ?_
 simp only [alOf]
 apply w_seq
 apply w_reg [0, 1] rfl; intro Q hQ
 simp (disch := omega) [wrap64, wrapU, leW, wrl, buildV, fillV, splice, h1, h2, h3, hi]
 apply after_some rfl; apply hQ; clear hQ Q
 apply w_seq
 apply w_seq
 apply w_reg [0, 1, 7, 8] rfl; intro Q hQ
 simp (disch := omega) [wrap64, wrapU, leW, wrl, buildV, fillV, splice, h1, h2, h3, hi]
 apply after_some rfl; apply hQ; clear hQ Q
 apply w_block
 refine w_loop (fun m al H => ∃ i : Nat, m = s.list.length - i ∧ i ≤ s.list.length ∧ ixF p i (s.list.drop i) = ixF p 0 s.list ∧ al = [(0, enc eK s), (1, .fn F [] c), (7, .int .i64 (s.list.length : Int)), (8, .int .i64 (i : Int))] ∧ H = []) (s.list.length) ?_ ?_
 ·exact ⟨0, by simp, by omega, rfl, rfl, rfl⟩
 rintro m al H ⟨i, hm, hi0, hs, rfl, rfl⟩
 apply w_seq
 apply w_reg [0, 1, 7, 8, 9] rfl; intro Q hQ
 simp (disch := omega) [wrap64, wrapU, leW, wrl, buildV, fillV, splice, h1, h2, h3, hi]
 apply after_some rfl; apply hQ; clear hQ Q
 apply w_seq
 apply w_cond _ rfl <;> intro hc
 ·first
  |(simp at hc; done)
  |try simp [Int.natCast_inj] at hc
   apply w_skip
   apply w_seq
   apply w_block
   apply w_seq
   apply w_reg [0, 1, 5, 7, 8] rfl; intro Q hQ
   simp (disch := omega) [wrap64, wrapU, leW, wrl, buildV, fillV, splice, h1, h2, h3, hi]
   apply after_some rfl; apply hQ; clear hQ Q
   apply w_seq
   apply w_reg [0, 1, 5, 7, 8, 16] rfl; intro Q hQ
   simp (disch := omega) [wrap64, wrapU, leW, wrl, buildV, fillV, splice, h1, h2, h3, hi]
   apply after_some rfl; apply hQ; clear hQ Q
   apply w_cond _ rfl <;> intro hc
   ·first
    |(simp at hc; done)
    |try simp [Int.natCast_inj] at hc
     apply w_seq
     apply w_reg [4] rfl; intro Q hQ
     simp (disch := omega) [wrap64, wrapU, leW, wrl, buildV, fillV, splice, h1, h2, h3, hi]
     apply after_some rfl; apply hQ; clear hQ Q
     apply w_ret
     repeat (with_reducible (first | apply kseq_ret | apply kloop_ret | apply kcut_ret | apply kblock_ret))
     apply fin_pure rfl
     ·have hci : i < s.list.length := by assumption
      rw [← hs, ixF_step hci, hc]
      rfl
     ·rfl
   ·first
    |(simp at hc; done)
    |try simp [Int.natCast_inj] at hc
     apply w_skip
     apply w_reg [0, 1, 7, 8] rfl; intro Q hQ
     simp (disch := omega) [wrap64, wrapU, leW, wrl, buildV, fillV, splice, h1, h2, h3, hi]
     apply after_some rfl; apply hQ; clear hQ Q
     repeat (with_reducible apply kblock_nrm)
     have hci : i < s.list.length := by assumption
     refine kloop_back (s.list.length - (i + 1)) (by omega) ⟨i + 1, rfl, by omega, ?_, rfl, rfl⟩
     rw [← hs, ixF_step hci, hc]
     rfl
 ·first
  |(simp at hc; done)
  |try simp [Int.natCast_inj] at hc
   apply w_exit
   repeat (first | with_reducible apply kseq_exit | with_reducible apply kloop_exit | with_reducible apply kcut_exit | with_reducible apply kblock_exit | with_reducible apply kblock_pass (by decide))
   apply w_seq
   apply w_reg [4] rfl; intro Q hQ
   simp (disch := omega) [wrap64, wrapU, leW, wrl, buildV, fillV, splice, h1, h2, h3, hi]
   apply after_some rfl; apply hQ; clear hQ Q
   apply w_ret
   repeat (with_reducible (first | apply kseq_ret | apply kloop_ret | apply kcut_ret | apply kblock_ret))
   apply fin_pure rfl
   ·have : i = s.list.length := by omega
    subst this
    rw [← hs, List.drop_length]
    rfl
   ·rfl

theorem ixeK {s : SL KindT} {F : FuncId} {c : List V} {p : KindT → Bool} (hi : (F == 163) = false) (hc : V.pureL c = true) (hl : s.list.length < 4611686018427387904) (hF : ∀ k ∈ s.list, ∀ H, call LE F ((.agg (eK k)) :: c) H = some (.bool (p k), H)) (H : Heap) : call LE 47 [enc eK s, .fn F [] c] H = some (.int .i64 (ixF p 0 s.list), H) :=
 call_pure rfl (.inl rfl) (pureL_cons (enc_pure eeK s) (pureL_cons (by simp [V.pure, hc, V.pureL]) rfl)) (ixeK_runs hi hl hF) H

/-- slices.IndexFunc[[]diorama/api.Field,diorama/api.Field] -/
theorem ixeF_runs {s : SL FieldT} {F : FuncId} {c : List V} {p : FieldT → Bool} (hi : (F == 163) = false) (hl : s.list.length < 4611686018427387904) (hF : ∀ k ∈ s.list, ∀ H, call LE F ((.agg (eF k)) :: c) H = some (.bool (p k), H)) : Runs LE 49 [enc eF s, .fn F [] c] (.int .i64 (ixF p 0 s.list)) := by
 have h1 := enc_len (e := eF) LTf s
 have h2 := fun (j : Nat) => @enc_idx _ _ _ _ _ eF LTf eeF s j
 have h3 : ∀ (j : Nat) (hj : j < s.list.length) (H : Heap), call LE F ((.agg (eF s.list[j])) :: c) H = some (.bool (p s.list[j]), H) := fun j hj H => hF _ (List.getElem_mem hj) H
 refine runs_W (m := 19) Tryz.func49 rfl rfl (Nat.le_of_ble_eq_true rfl) ?_
 simp only [alOf]
 apply w_seq
 apply w_reg [0, 1] rfl; intro Q hQ
 simp (disch := omega) [wrap64, wrapU, leW, wrl, buildV, fillV, splice, h1, h2, h3, hi]
 apply after_some rfl; apply hQ; clear hQ Q
 apply w_seq
 apply w_seq
 apply w_reg [0, 1, 7, 8] rfl; intro Q hQ
 simp (disch := omega) [wrap64, wrapU, leW, wrl, buildV, fillV, splice, h1, h2, h3, hi]
 apply after_some rfl; apply hQ; clear hQ Q
 apply w_block
 refine w_loop (fun m al H => ∃ i : Nat, m = s.list.length - i ∧ i ≤ s.list.length ∧ ixF p i (s.list.drop i) = ixF p 0 s.list ∧ al = [(0, enc eF s), (1, .fn F [] c), (7, .int .i64 (s.list.length : Int)), (8, .int .i64 (i : Int))] ∧ H = []) (s.list.length) ?_ ?_
 ·exact ⟨0, by simp, by omega, rfl, rfl, rfl⟩
 rintro m al H ⟨i, hm, hi0, hs, rfl, rfl⟩
 apply w_seq
 apply w_reg [0, 1, 7, 8, 9] rfl; intro Q hQ
 simp (disch := omega) [wrap64, wrapU, leW, wrl, buildV, fillV, splice, h1, h2, h3, hi]
 apply after_some rfl; apply hQ; clear hQ Q
 apply w_seq
 apply w_cond _ rfl <;> intro hc
 ·first
  |(simp at hc; done)
  |try simp [Int.natCast_inj] at hc
   apply w_skip
   apply w_seq
   apply w_block
   apply w_seq
   apply w_reg [0, 1, 5, 7, 8] rfl; intro Q hQ
   simp (disch := omega) [wrap64, wrapU, leW, wrl, buildV, fillV, splice, h1, h2, h3, hi]
   apply after_some rfl; apply hQ; clear hQ Q
   apply w_seq
   apply w_reg [0, 1, 5, 7, 8, 16] rfl; intro Q hQ
   simp (disch := omega) [wrap64, wrapU, leW, wrl, buildV, fillV, splice, h1, h2, h3, hi]
   apply after_some rfl; apply hQ; clear hQ Q
   apply w_cond _ rfl <;> intro hc
   ·first
    |(simp at hc; done)
    |try simp [Int.natCast_inj] at hc
     apply w_seq
     apply w_reg [4] rfl; intro Q hQ
     simp (disch := omega) [wrap64, wrapU, leW, wrl, buildV, fillV, splice, h1, h2, h3, hi]
     apply after_some rfl; apply hQ; clear hQ Q
     apply w_ret
     repeat (with_reducible (first | apply kseq_ret | apply kloop_ret | apply kcut_ret | apply kblock_ret))
     apply fin_pure rfl
     ·have hci : i < s.list.length := by assumption
      rw [← hs, ixF_step hci, hc]
      rfl
     ·rfl
   ·first
    |(simp at hc; done)
    |try simp [Int.natCast_inj] at hc
     apply w_skip
     apply w_reg [0, 1, 7, 8] rfl; intro Q hQ
     simp (disch := omega) [wrap64, wrapU, leW, wrl, buildV, fillV, splice, h1, h2, h3, hi]
     apply after_some rfl; apply hQ; clear hQ Q
     repeat (with_reducible apply kblock_nrm)
     have hci : i < s.list.length := by assumption
     refine kloop_back (s.list.length - (i + 1)) (by omega) ⟨i + 1, rfl, by omega, ?_, rfl, rfl⟩
     rw [← hs, ixF_step hci, hc]
     rfl
 ·first
  |(simp at hc; done)
  |try simp [Int.natCast_inj] at hc
   apply w_exit
   repeat (first | with_reducible apply kseq_exit | with_reducible apply kloop_exit | with_reducible apply kcut_exit | with_reducible apply kblock_exit | with_reducible apply kblock_pass (by decide))
   apply w_seq
   apply w_reg [4] rfl; intro Q hQ
   simp (disch := omega) [wrap64, wrapU, leW, wrl, buildV, fillV, splice, h1, h2, h3, hi]
   apply after_some rfl; apply hQ; clear hQ Q
   apply w_ret
   repeat (with_reducible (first | apply kseq_ret | apply kloop_ret | apply kcut_ret | apply kblock_ret))
   apply fin_pure rfl
   ·have : i = s.list.length := by omega
    subst this
    rw [← hs, List.drop_length]
    rfl
   ·rfl

theorem ixeF {s : SL FieldT} {F : FuncId} {c : List V} {p : FieldT → Bool} (hi : (F == 163) = false) (hc : V.pureL c = true) (hl : s.list.length < 4611686018427387904) (hF : ∀ k ∈ s.list, ∀ H, call LE F ((.agg (eF k)) :: c) H = some (.bool (p k), H)) (H : Heap) : call LE 49 [enc eF s, .fn F [] c] H = some (.int .i64 (ixF p 0 s.list), H) :=
 call_pure rfl (.inl rfl) (pureL_cons (enc_pure eeF s) (pureL_cons (by simp [V.pure, hc, V.pureL]) rfl)) (ixeF_runs hi hl hF) H

/-- slices.IndexFunc[[]diorama/api.Life,diorama/api.Life] -/
theorem ixeL_runs {s : SL LifeT} {F : FuncId} {c : List V} {p : LifeT → Bool} (hi : (F == 163) = false) (hl : s.list.length < 4611686018427387904) (hF : ∀ k ∈ s.list, ∀ H, call LE F ((.agg (eL k)) :: c) H = some (.bool (p k), H)) : Runs LE 86 [enc eL s, .fn F [] c] (.int .i64 (ixF p 0 s.list)) := by
 have h1 := enc_len (e := eL) LTl s
 have h2 := fun (j : Nat) => @enc_idx _ _ _ _ _ eL LTl eeL s j
 have h3 : ∀ (j : Nat) (hj : j < s.list.length) (H : Heap), call LE F ((.agg (eL s.list[j])) :: c) H = some (.bool (p s.list[j]), H) := fun j hj H => hF _ (List.getElem_mem hj) H
 refine runs_W (m := 19) Tryz.func86 rfl rfl (Nat.le_of_ble_eq_true rfl) ?_
 simp only [alOf]
 apply w_seq
 apply w_reg [0, 1] rfl; intro Q hQ
 simp (disch := omega) [wrap64, wrapU, leW, wrl, buildV, fillV, splice, h1, h2, h3, hi]
 apply after_some rfl; apply hQ; clear hQ Q
 apply w_seq
 apply w_seq
 apply w_reg [0, 1, 7, 8] rfl; intro Q hQ
 simp (disch := omega) [wrap64, wrapU, leW, wrl, buildV, fillV, splice, h1, h2, h3, hi]
 apply after_some rfl; apply hQ; clear hQ Q
 apply w_block
 refine w_loop (fun m al H => ∃ i : Nat, m = s.list.length - i ∧ i ≤ s.list.length ∧ ixF p i (s.list.drop i) = ixF p 0 s.list ∧ al = [(0, enc eL s), (1, .fn F [] c), (7, .int .i64 (s.list.length : Int)), (8, .int .i64 (i : Int))] ∧ H = []) (s.list.length) ?_ ?_
 ·exact ⟨0, by simp, by omega, rfl, rfl, rfl⟩
 rintro m al H ⟨i, hm, hi0, hs, rfl, rfl⟩
 apply w_seq
 apply w_reg [0, 1, 7, 8, 9] rfl; intro Q hQ
 simp (disch := omega) [wrap64, wrapU, leW, wrl, buildV, fillV, splice, h1, h2, h3, hi]
 apply after_some rfl; apply hQ; clear hQ Q
 apply w_seq
 apply w_cond _ rfl <;> intro hc
 ·first
  |(simp at hc; done)
  |try simp [Int.natCast_inj] at hc
   apply w_skip
   apply w_seq
   apply w_block
   apply w_seq
   apply w_reg [0, 1, 5, 7, 8] rfl; intro Q hQ
   simp (disch := omega) [wrap64, wrapU, leW, wrl, buildV, fillV, splice, h1, h2, h3, hi]
   apply after_some rfl; apply hQ; clear hQ Q
   apply w_seq
   apply w_reg [0, 1, 5, 7, 8, 16] rfl; intro Q hQ
   simp (disch := omega) [wrap64, wrapU, leW, wrl, buildV, fillV, splice, h1, h2, h3, hi]
   apply after_some rfl; apply hQ; clear hQ Q
   apply w_cond _ rfl <;> intro hc
   ·first
    |(simp at hc; done)
    |try simp [Int.natCast_inj] at hc
     apply w_seq
     apply w_reg [4] rfl; intro Q hQ
     simp (disch := omega) [wrap64, wrapU, leW, wrl, buildV, fillV, splice, h1, h2, h3, hi]
     apply after_some rfl; apply hQ; clear hQ Q
     apply w_ret
     repeat (with_reducible (first | apply kseq_ret | apply kloop_ret | apply kcut_ret | apply kblock_ret))
     apply fin_pure rfl
     ·have hci : i < s.list.length := by assumption
      rw [← hs, ixF_step hci, hc]
      rfl
     ·rfl
   ·first
    |(simp at hc; done)
    |try simp [Int.natCast_inj] at hc
     apply w_skip
     apply w_reg [0, 1, 7, 8] rfl; intro Q hQ
     simp (disch := omega) [wrap64, wrapU, leW, wrl, buildV, fillV, splice, h1, h2, h3, hi]
     apply after_some rfl; apply hQ; clear hQ Q
     repeat (with_reducible apply kblock_nrm)
     have hci : i < s.list.length := by assumption
     refine kloop_back (s.list.length - (i + 1)) (by omega) ⟨i + 1, rfl, by omega, ?_, rfl, rfl⟩
     rw [← hs, ixF_step hci, hc]
     rfl
 ·first
  |(simp at hc; done)
  |try simp [Int.natCast_inj] at hc
   apply w_exit
   repeat (first | with_reducible apply kseq_exit | with_reducible apply kloop_exit | with_reducible apply kcut_exit | with_reducible apply kblock_exit | with_reducible apply kblock_pass (by decide))
   apply w_seq
   apply w_reg [4] rfl; intro Q hQ
   simp (disch := omega) [wrap64, wrapU, leW, wrl, buildV, fillV, splice, h1, h2, h3, hi]
   apply after_some rfl; apply hQ; clear hQ Q
   apply w_ret
   repeat (with_reducible (first | apply kseq_ret | apply kloop_ret | apply kcut_ret | apply kblock_ret))
   apply fin_pure rfl
   ·have : i = s.list.length := by omega
    subst this
    rw [← hs, List.drop_length]
    rfl
   ·rfl

theorem ixeL {s : SL LifeT} {F : FuncId} {c : List V} {p : LifeT → Bool} (hi : (F == 163) = false) (hc : V.pureL c = true) (hl : s.list.length < 4611686018427387904) (hF : ∀ k ∈ s.list, ∀ H, call LE F ((.agg (eL k)) :: c) H = some (.bool (p k), H)) (H : Heap) : call LE 86 [enc eL s, .fn F [] c] H = some (.int .i64 (ixF p 0 s.list), H) :=
 call_pure rfl (.inl rfl) (pureL_cons (enc_pure eeL s) (pureL_cons (by simp [V.pure, hc, V.pureL]) rfl)) (ixeL_runs hi hl hF) H

/-- slices.IndexFunc[[]diorama/api.Rule,diorama/api.Rule] -/
theorem ixeR_runs {s : SL RuleT} {F : FuncId} {c : List V} {p : RuleT → Bool} (hi : (F == 163) = false) (hl : s.list.length < 4611686018427387904) (hF : ∀ k ∈ s.list, ∀ H, call LE F ((.agg (eR k)) :: c) H = some (.bool (p k), H)) : Runs LE 124 [enc eR s, .fn F [] c] (.int .i64 (ixF p 0 s.list)) := by
 have h1 := enc_len (e := eR) LTr s
 have h2 := fun (j : Nat) => @enc_idx _ _ _ _ _ eR LTr eeR s j
 have h3 : ∀ (j : Nat) (hj : j < s.list.length) (H : Heap), call LE F ((.agg (eR s.list[j])) :: c) H = some (.bool (p s.list[j]), H) := fun j hj H => hF _ (List.getElem_mem hj) H
 refine runs_W (m := 19) Tryz.func124 rfl rfl (Nat.le_of_ble_eq_true rfl) ?_
 simp only [alOf]
 apply w_seq
 apply w_reg [0, 1] rfl; intro Q hQ
 simp (disch := omega) [wrap64, wrapU, leW, wrl, buildV, fillV, splice, h1, h2, h3, hi]
 apply after_some rfl; apply hQ; clear hQ Q
 apply w_seq
 apply w_seq
 apply w_reg [0, 1, 7, 8] rfl; intro Q hQ
 simp (disch := omega) [wrap64, wrapU, leW, wrl, buildV, fillV, splice, h1, h2, h3, hi]
 apply after_some rfl; apply hQ; clear hQ Q
 apply w_block
 refine w_loop (fun m al H => ∃ i : Nat, m = s.list.length - i ∧ i ≤ s.list.length ∧ ixF p i (s.list.drop i) = ixF p 0 s.list ∧ al = [(0, enc eR s), (1, .fn F [] c), (7, .int .i64 (s.list.length : Int)), (8, .int .i64 (i : Int))] ∧ H = []) (s.list.length) ?_ ?_
 ·exact ⟨0, by simp, by omega, rfl, rfl, rfl⟩
 rintro m al H ⟨i, hm, hi0, hs, rfl, rfl⟩
 apply w_seq
 apply w_reg [0, 1, 7, 8, 9] rfl; intro Q hQ
 simp (disch := omega) [wrap64, wrapU, leW, wrl, buildV, fillV, splice, h1, h2, h3, hi]
 apply after_some rfl; apply hQ; clear hQ Q
 apply w_seq
 apply w_cond _ rfl <;> intro hc
 ·first
  |(simp at hc; done)
  |try simp [Int.natCast_inj] at hc
   apply w_skip
   apply w_seq
   apply w_block
   apply w_seq
   apply w_reg [0, 1, 5, 7, 8] rfl; intro Q hQ
   simp (disch := omega) [wrap64, wrapU, leW, wrl, buildV, fillV, splice, h1, h2, h3, hi]
   apply after_some rfl; apply hQ; clear hQ Q
   apply w_seq
   apply w_reg [0, 1, 5, 7, 8, 16] rfl; intro Q hQ
   simp (disch := omega) [wrap64, wrapU, leW, wrl, buildV, fillV, splice, h1, h2, h3, hi]
   apply after_some rfl; apply hQ; clear hQ Q
   apply w_cond _ rfl <;> intro hc
   ·first
    |(simp at hc; done)
    |try simp [Int.natCast_inj] at hc
     apply w_seq
     apply w_reg [4] rfl; intro Q hQ
     simp (disch := omega) [wrap64, wrapU, leW, wrl, buildV, fillV, splice, h1, h2, h3, hi]
     apply after_some rfl; apply hQ; clear hQ Q
     apply w_ret
     repeat (with_reducible (first | apply kseq_ret | apply kloop_ret | apply kcut_ret | apply kblock_ret))
     apply fin_pure rfl
     ·have hci : i < s.list.length := by assumption
      rw [← hs, ixF_step hci, hc]
      rfl
     ·rfl
   ·first
    |(simp at hc; done)
    |try simp [Int.natCast_inj] at hc
     apply w_skip
     apply w_reg [0, 1, 7, 8] rfl; intro Q hQ
     simp (disch := omega) [wrap64, wrapU, leW, wrl, buildV, fillV, splice, h1, h2, h3, hi]
     apply after_some rfl; apply hQ; clear hQ Q
     repeat (with_reducible apply kblock_nrm)
     have hci : i < s.list.length := by assumption
     refine kloop_back (s.list.length - (i + 1)) (by omega) ⟨i + 1, rfl, by omega, ?_, rfl, rfl⟩
     rw [← hs, ixF_step hci, hc]
     rfl
 ·first
  |(simp at hc; done)
  |try simp [Int.natCast_inj] at hc
   apply w_exit
   repeat (first | with_reducible apply kseq_exit | with_reducible apply kloop_exit | with_reducible apply kcut_exit | with_reducible apply kblock_exit | with_reducible apply kblock_pass (by decide))
   apply w_seq
   apply w_reg [4] rfl; intro Q hQ
   simp (disch := omega) [wrap64, wrapU, leW, wrl, buildV, fillV, splice, h1, h2, h3, hi]
   apply after_some rfl; apply hQ; clear hQ Q
   apply w_ret
   repeat (with_reducible (first | apply kseq_ret | apply kloop_ret | apply kcut_ret | apply kblock_ret))
   apply fin_pure rfl
   ·have : i = s.list.length := by omega
    subst this
    rw [← hs, List.drop_length]
    rfl
   ·rfl

theorem ixeR {s : SL RuleT} {F : FuncId} {c : List V} {p : RuleT → Bool} (hi : (F == 163) = false) (hc : V.pureL c = true) (hl : s.list.length < 4611686018427387904) (hF : ∀ k ∈ s.list, ∀ H, call LE F ((.agg (eR k)) :: c) H = some (.bool (p k), H)) (H : Heap) : call LE 124 [enc eR s, .fn F [] c] H = some (.int .i64 (ixF p 0 s.list), H) :=
 call_pure rfl (.inl rfl) (pureL_cons (enc_pure eeR s) (pureL_cons (by simp [V.pure, hc, V.pureL]) rfl)) (ixeR_runs hi hl hF) H

/-- slices.IndexFunc[[]string,string] -/
theorem ixeS_runs {s : SL Str} {F : FuncId} {c : List V} {p : Str → Bool} (hi : (F == 163) = false) (hl : s.list.length < 4611686018427387904) (hF : ∀ k ∈ s.list, ∀ H, call LE F ((.str k) :: c) H = some (.bool (p k), H)) : Runs LE 161 [enc eS s, .fn F [] c] (.int .i64 (ixF p 0 s.list)) := by
 have h1 := enc_len (e := eS) LTs s
 have h2 := fun (j : Nat) => @enc_idx _ _ _ _ _ eS LTs eeS s j
 have h3 : ∀ (j : Nat) (hj : j < s.list.length) (H : Heap), call LE F ((.str s.list[j]) :: c) H = some (.bool (p s.list[j]), H) := fun j hj H => hF _ (List.getElem_mem hj) H
 refine runs_W (m := 19) Tryz.func161 rfl rfl (Nat.le_of_ble_eq_true rfl) ?_
 simp only [alOf]
 apply w_seq
 apply w_reg [0, 1] rfl; intro Q hQ
 simp (disch := omega) [wrap64, wrapU, leW, wrl, buildV, fillV, splice, h1, h2, h3, hi, eS]
 apply after_some rfl; apply hQ; clear hQ Q
 apply w_seq
 apply w_seq
 apply w_reg [0, 1, 7, 8] rfl; intro Q hQ
 simp (disch := omega) [wrap64, wrapU, leW, wrl, buildV, fillV, splice, h1, h2, h3, hi, eS]
 apply after_some rfl; apply hQ; clear hQ Q
 apply w_block
 refine w_loop (fun m al H => ∃ i : Nat, m = s.list.length - i ∧ i ≤ s.list.length ∧ ixF p i (s.list.drop i) = ixF p 0 s.list ∧ al = [(0, enc eS s), (1, .fn F [] c), (7, .int .i64 (s.list.length : Int)), (8, .int .i64 (i : Int))] ∧ H = []) (s.list.length) ?_ ?_
 ·exact ⟨0, by simp, by omega, rfl, rfl, rfl⟩
 rintro m al H ⟨i, hm, hi0, hs, rfl, rfl⟩
 apply w_seq
 apply w_reg [0, 1, 7, 8, 9] rfl; intro Q hQ
 simp (disch := omega) [wrap64, wrapU, leW, wrl, buildV, fillV, splice, h1, h2, h3, hi, eS]
 apply after_some rfl; apply hQ; clear hQ Q
 apply w_seq
 apply w_cond _ rfl <;> intro hc
 ·first
  |(simp at hc; done)
  |try simp [Int.natCast_inj] at hc
   apply w_skip
   apply w_seq
   apply w_block
   apply w_seq
   apply w_reg [0, 1, 5, 7, 8] rfl; intro Q hQ
   simp (disch := omega) [wrap64, wrapU, leW, wrl, buildV, fillV, splice, h1, h2, h3, hi, eS]
   apply after_some rfl; apply hQ; clear hQ Q
   apply w_seq
   apply w_reg [0, 1, 5, 7, 8, 16] rfl; intro Q hQ
   simp (disch := omega) [wrap64, wrapU, leW, wrl, buildV, fillV, splice, h1, h2, h3, hi, eS]
   apply after_some rfl; apply hQ; clear hQ Q
   apply w_cond _ rfl <;> intro hc
   ·first
    |(simp at hc; done)
    |try simp [Int.natCast_inj] at hc
     apply w_seq
     apply w_reg [4] rfl; intro Q hQ
     simp (disch := omega) [wrap64, wrapU, leW, wrl, buildV, fillV, splice, h1, h2, h3, hi, eS]
     apply after_some rfl; apply hQ; clear hQ Q
     apply w_ret
     repeat (with_reducible (first | apply kseq_ret | apply kloop_ret | apply kcut_ret | apply kblock_ret))
     apply fin_pure rfl
     ·have hci : i < s.list.length := by assumption
      rw [← hs, ixF_step hci, hc]
      rfl
     ·rfl
   ·first
    |(simp at hc; done)
    |try simp [Int.natCast_inj] at hc
     apply w_skip
     apply w_reg [0, 1, 7, 8] rfl; intro Q hQ
     simp (disch := omega) [wrap64, wrapU, leW, wrl, buildV, fillV, splice, h1, h2, h3, hi, eS]
     apply after_some rfl; apply hQ; clear hQ Q
     repeat (with_reducible apply kblock_nrm)
     have hci : i < s.list.length := by assumption
     refine kloop_back (s.list.length - (i + 1)) (by omega) ⟨i + 1, rfl, by omega, ?_, rfl, rfl⟩
     rw [← hs, ixF_step hci, hc]
     rfl
 ·first
  |(simp at hc; done)
  |try simp [Int.natCast_inj] at hc
   apply w_exit
   repeat (first | with_reducible apply kseq_exit | with_reducible apply kloop_exit | with_reducible apply kcut_exit | with_reducible apply kblock_exit | with_reducible apply kblock_pass (by decide))
   apply w_seq
   apply w_reg [4] rfl; intro Q hQ
   simp (disch := omega) [wrap64, wrapU, leW, wrl, buildV, fillV, splice, h1, h2, h3, hi, eS]
   apply after_some rfl; apply hQ; clear hQ Q
   apply w_ret
   repeat (with_reducible (first | apply kseq_ret | apply kloop_ret | apply kcut_ret | apply kblock_ret))
   apply fin_pure rfl
   ·have : i = s.list.length := by omega
    subst this
    rw [← hs, List.drop_length]
    rfl
   ·rfl

theorem ixeS {s : SL Str} {F : FuncId} {c : List V} {p : Str → Bool} (hi : (F == 163) = false) (hc : V.pureL c = true) (hl : s.list.length < 4611686018427387904) (hF : ∀ k ∈ s.list, ∀ H, call LE F ((.str k) :: c) H = some (.bool (p k), H)) (H : Heap) : call LE 161 [enc eS s, .fn F [] c] H = some (.int .i64 (ixF p 0 s.list), H) :=
 call_pure rfl (.inl rfl) (pureL_cons (enc_pure eeS s) (pureL_cons (by simp [V.pure, hc, V.pureL]) rfl)) (ixeS_runs hi hl hF) H

end Go.Ae.Zd

namespace Go.Ae.Zd
open Go.Proofs

theorem enc_idxI {α : Type} {P : Program} {ty et : TypeId} {i : TI} {e : α → List V} (T : LT P ty et i) (E : Ee e i.size) (s : SL α) {j : Int} (h0 : 0 ≤ j) (h1 : j < s.list.length) : indexAddrV P ty (enc e s) j = some (.rp (e (s.list[j.toNat]'(by omega)))) := by
 have h := enc_idx T E s (j := j.toNat) (by omega)
 rwa [Int.toNat_of_nonneg h0] at h

theorem lnK (s : SL KindT) : lenV Tryz.prog 30 (enc eK s) = some s.list.length := enc_len LTk s
theorem lnF (s : SL FieldT) : lenV Tryz.prog 45 (enc eF s) = some s.list.length := enc_len LTf s
theorem lnL (s : SL LifeT) : lenV Tryz.prog 31 (enc eL s) = some s.list.length := enc_len LTl s
theorem lnR (s : SL RuleT) : lenV Tryz.prog 32 (enc eR s) = some s.list.length := enc_len LTr s
theorem lnS (s : SL Str) : lenV Tryz.prog 38 (enc eS s) = some s.list.length := enc_len LTs s
theorem lnI (s : SL Int) : lenV Tryz.prog 22 (enc eI s) = some s.list.length := enc_len LTi s
theorem ixK {s : SL KindT} {j : Int} (h0 : 0 ≤ j) (h1 : j < s.list.length) : indexAddrV Tryz.prog 30 (enc eK s) j = some (.rp (eK (s.list[j.toNat]'(by omega)))) := enc_idxI LTk eeK s h0 h1
theorem ixFd {s : SL FieldT} {j : Int} (h0 : 0 ≤ j) (h1 : j < s.list.length) : indexAddrV Tryz.prog 45 (enc eF s) j = some (.rp (eF (s.list[j.toNat]'(by omega)))) := enc_idxI LTf eeF s h0 h1
theorem ixL {s : SL LifeT} {j : Int} (h0 : 0 ≤ j) (h1 : j < s.list.length) : indexAddrV Tryz.prog 31 (enc eL s) j = some (.rp (eL (s.list[j.toNat]'(by omega)))) := enc_idxI LTl eeL s h0 h1
theorem ixR {s : SL RuleT} {j : Int} (h0 : 0 ≤ j) (h1 : j < s.list.length) : indexAddrV Tryz.prog 32 (enc eR s) j = some (.rp (eR (s.list[j.toNat]'(by omega)))) := enc_idxI LTr eeR s h0 h1
theorem ixS {s : SL Str} {j : Int} (h0 : 0 ≤ j) (h1 : j < s.list.length) : indexAddrV Tryz.prog 38 (enc eS s) j = some (.rp (eS (s.list[j.toNat]'(by omega)))) := enc_idxI LTs eeS s h0 h1
theorem ixN {s : SL Int} {j : Int} (h0 : 0 ≤ j) (h1 : j < s.list.length) : indexAddrV Tryz.prog 22 (enc eI s) j = some (.rp (eI (s.list[j.toNat]'(by omega)))) := enc_idxI LTi eeI s h0 h1
theorem aoF (f : FieldT) : allOne (eF f) = true := eeF.one f
theorem aoK (f : KindT) : allOne (eK f) = true := eeK.one f
theorem aoL (f : LifeT) : allOne (eL f) = true := eeL.one f
theorem aoR (f : RuleT) : allOne (eR f) = true := eeR.one f
theorem aoX (f : SchemaT) : allOne (eX f) = true := eeX.one f
theorem plF (f : FieldT) : V.pureL (eF f) = true := eeF.pure f
theorem plK (f : KindT) : V.pureL (eK f) = true := eeK.pure f
theorem plL (f : LifeT) : V.pureL (eL f) = true := eeL.pure f
theorem plR (f : RuleT) : V.pureL (eR f) = true := eeR.pure f
theorem plX (f : SchemaT) : V.pureL (eX f) = true := eeX.pure f
attribute [simp] aoF aoK aoL aoR aoX plF plK plL plR plX lnK lnF lnL lnR lnS lnI ixK ixFd ixL ixR ixS ixN

/-- The index of the kind, of the field, with a name. -/
abbrev kIx (s : Str) (l : List KindT) : Int := ixF (fun k : KindT => decide (k.name = s)) 0 l
abbrev fIx (s : Str) (l : List FieldT) : Int := ixF (fun k : FieldT => decide (k.name = s)) 0 l

def fieldZ : FieldT := ⟨[], [], [], 0, 0, 0, .nil, .nil⟩
/-- A field of a schema. -/
def fldO (x : SchemaT) (k j : Int) : Option FieldT := if 0 ≤ k ∧ 0 ≤ j then (x.kinds.list[k.toNat]?).bind fun q => q.fields.list[j.toNat]? else none

/-- diorama/typing.Kind$1 -/
theorem cKind1_runs (k : KindT) (s : Str) : Runs LE 48 [.agg (eK k), .rp [.str s]] (.bool (decide (k.name = s))) := by
 refine runs_W (m := 8) Tryz.func48 rfl rfl (Nat.le_of_ble_eq_true rfl) ?_
 simp only [alOf]
 apply w_seq
 apply w_reg [1, 2] rfl; intro Q hQ
 simp (disch := omega) [wrap64, wrapU, leW, wrl, buildV, fillV, splice, eK]
 apply after_some rfl; apply hQ; clear hQ Q
 apply w_seq
 apply w_reg [3] rfl; intro Q hQ
 simp (disch := omega) [wrap64, wrapU, leW, wrl, buildV, fillV, splice, eK]
 apply after_some rfl; apply hQ; clear hQ Q
 apply w_ret
 repeat (with_reducible (first | apply kseq_ret | apply kloop_ret | apply kcut_ret | apply kblock_ret))
 apply fin_pure rfl
 ·rfl
 ·rfl

theorem cKind1 (k : KindT) (s : Str) (H : Heap) : call LE 48 [.agg (eK k), .rp [.str s]] H = some ((.bool (decide (k.name = s))), H) :=
 call_pure rfl (by first | exact .inl rfl | exact .inr rfl) (by simp [V.pure, enc_pure eeK, enc_pure eeF, enc_pure eeL, enc_pure eeR, enc_pure eeS, enc_pure eeI, enc_pure eeP, V.pureL, eK, eF, eX, eL, eR]) (cKind1_runs k s) H

/-- diorama/typing.Field$1 -/
theorem cField1_runs (k : FieldT) (s : Str) : Runs LE 50 [.agg (eF k), .rp [.str s]] (.bool (decide (k.name = s))) := by
 refine runs_W (m := 8) Tryz.func50 rfl rfl (Nat.le_of_ble_eq_true rfl) ?_
 simp only [alOf]
 apply w_seq
 apply w_reg [1, 2] rfl; intro Q hQ
 simp (disch := omega) [wrap64, wrapU, leW, wrl, buildV, fillV, splice, eF]
 apply after_some rfl; apply hQ; clear hQ Q
 apply w_seq
 apply w_reg [3] rfl; intro Q hQ
 simp (disch := omega) [wrap64, wrapU, leW, wrl, buildV, fillV, splice, eF]
 apply after_some rfl; apply hQ; clear hQ Q
 apply w_ret
 repeat (with_reducible (first | apply kseq_ret | apply kloop_ret | apply kcut_ret | apply kblock_ret))
 apply fin_pure rfl
 ·rfl
 ·rfl

theorem cField1 (k : FieldT) (s : Str) (H : Heap) : call LE 50 [.agg (eF k), .rp [.str s]] H = some ((.bool (decide (k.name = s))), H) :=
 call_pure rfl (by first | exact .inl rfl | exact .inr rfl) (by simp [V.pure, enc_pure eeK, enc_pure eeF, enc_pure eeL, enc_pure eeR, enc_pure eeS, enc_pure eeI, enc_pure eeP, V.pureL, eK, eF, eX, eL, eR]) (cField1_runs k s) H

/-- diorama/typing.Kind -/
theorem cKind_runs (x : SchemaT) (s : Str) (hl : x.kinds.list.length < 4611686018427387904) : Runs LE 18 [.agg (eX x), .str s] (.int .i64 (kIx s x.kinds.list)) := by
 have hK := fun H => ixeK (c := [.rp [.str s]]) (p := fun k => decide (k.name = s)) rfl rfl hl (fun k _ H => cKind1 k s H) H
 refine runs_W (m := 9) Tryz.func18 rfl rfl (Nat.le_of_ble_eq_true rfl) ?_
 simp only [alOf]
 apply w_seq
 apply w_reg [2, 3] rfl; intro Q hQ
 simp (disch := omega) [wrap64, wrapU, leW, wrl, buildV, fillV, splice, eX, hK]
 apply after_some rfl; apply hQ; clear hQ Q
 apply w_seq
 apply w_reg [4] rfl; intro Q hQ
 simp (disch := omega) [wrap64, wrapU, leW, wrl, buildV, fillV, splice, eX, hK]
 apply after_some rfl; apply hQ; clear hQ Q
 apply w_ret
 repeat (with_reducible (first | apply kseq_ret | apply kloop_ret | apply kcut_ret | apply kblock_ret))
 apply fin_pure rfl
 ·rfl
 ·rfl

theorem cKind (x : SchemaT) (s : Str) (hl : x.kinds.list.length < 4611686018427387904) (H : Heap) : call LE 18 [.agg (eX x), .str s] H = some ((.int .i64 (kIx s x.kinds.list)), H) :=
 call_pure rfl (by first | exact .inl rfl | exact .inr rfl) (by simp [V.pure, enc_pure eeK, enc_pure eeF, enc_pure eeL, enc_pure eeR, enc_pure eeS, enc_pure eeI, enc_pure eeP, V.pureL, eK, eF, eX, eL, eR]) (cKind_runs x s hl) H

/-- diorama/typing.Field -/
theorem cField_runs (x : KindT) (s : Str) (hl : x.fields.list.length < 4611686018427387904) : Runs LE 20 [.agg (eK x), .str s] (.int .i64 (fIx s x.fields.list)) := by
 have hK := fun H => ixeF (c := [.rp [.str s]]) (p := fun k => decide (k.name = s)) rfl rfl hl (fun k _ H => cField1 k s H) H
 refine runs_W (m := 9) Tryz.func20 rfl rfl (Nat.le_of_ble_eq_true rfl) ?_
 simp only [alOf]
 apply w_seq
 apply w_reg [2, 3] rfl; intro Q hQ
 simp (disch := omega) [wrap64, wrapU, leW, wrl, buildV, fillV, splice, eK, hK]
 apply after_some rfl; apply hQ; clear hQ Q
 apply w_seq
 apply w_reg [4] rfl; intro Q hQ
 simp (disch := omega) [wrap64, wrapU, leW, wrl, buildV, fillV, splice, eK, hK]
 apply after_some rfl; apply hQ; clear hQ Q
 apply w_ret
 repeat (with_reducible (first | apply kseq_ret | apply kloop_ret | apply kcut_ret | apply kblock_ret))
 apply fin_pure rfl
 ·rfl
 ·rfl

theorem cField (x : KindT) (s : Str) (hl : x.fields.list.length < 4611686018427387904) (H : Heap) : call LE 20 [.agg (eK x), .str s] H = some ((.int .i64 (fIx s x.fields.list)), H) :=
 call_pure rfl (by first | exact .inl rfl | exact .inr rfl) (by simp [V.pure, enc_pure eeK, enc_pure eeF, enc_pure eeL, enc_pure eeR, enc_pure eeS, enc_pure eeI, enc_pure eeP, V.pureL, eK, eF, eX, eL, eR]) (cField_runs x s hl) H

/-- diorama/dioramaref10.Kind -/
theorem rKind_runs (x : SchemaT) (s : Str) (hl : x.kinds.list.length < 4611686018427387904) : Runs LE 19 [.agg (eX x), .str s] (.int .i64 (kIx s x.kinds.list)) := by
 refine runs_W (m := 22) Tryz.func19 rfl rfl (Nat.le_of_ble_eq_true rfl) ?_
 simp only [alOf]
 apply w_seq
 apply w_reg [1, 2] rfl; intro Q hQ
 simp (disch := omega) [wrap64, wrapU, leW, wrl, buildV, fillV, splice, eX, eK]
 apply after_some rfl; apply hQ; clear hQ Q
 apply w_seq
 apply w_seq
 apply w_reg [1, 2, 5] rfl; intro Q hQ
 simp (disch := omega) [wrap64, wrapU, leW, wrl, buildV, fillV, splice, eX, eK]
 apply after_some rfl; apply hQ; clear hQ Q
 apply w_block
 refine w_loop (fun m al H => ∃ i : Nat, m = x.kinds.list.length - i ∧ i ≤ x.kinds.list.length ∧ ixF (fun k : KindT => decide (k.name = s)) i (x.kinds.list.drop i) = kIx s x.kinds.list ∧ al = [(1, .str s), (2, .rp (eX x)), (5, .int .i64 (i : Int))] ∧ H = []) (x.kinds.list.length) ?_ ?_
 ·exact ⟨0, by simp, by omega, rfl, rfl, rfl⟩
 rintro m al H ⟨i, hm, hi0, hs, rfl, rfl⟩
 apply w_seq
 apply w_seq
 apply w_reg [1, 2, 5, 10] rfl; intro Q hQ
 simp (disch := omega) [wrap64, wrapU, leW, wrl, buildV, fillV, splice, eX, eK]
 apply after_some rfl; apply hQ; clear hQ Q
 apply w_cond _ rfl <;> intro hc
 ·first
  |(simp at hc; done)
  |try simp [Int.natCast_inj] at hc
   apply w_skip
   apply w_seq
   apply w_block
   apply w_seq
   apply w_reg [1, 2, 5, 20] rfl; intro Q hQ
   simp (disch := omega) [wrap64, wrapU, leW, wrl, buildV, fillV, splice, eX, eK]
   apply after_some rfl; apply hQ; clear hQ Q
   apply w_cond _ rfl <;> intro hc
   ·first
    |(simp at hc; done)
    |try simp [Int.natCast_inj] at hc
     apply w_seq
     apply w_reg [4] rfl; intro Q hQ
     simp (disch := omega) [wrap64, wrapU, leW, wrl, buildV, fillV, splice, eX, eK]
     apply after_some rfl; apply hQ; clear hQ Q
     apply w_ret
     repeat (with_reducible (first | apply kseq_ret | apply kloop_ret | apply kcut_ret | apply kblock_ret))
     apply fin_pure rfl
     ·have hci : i < x.kinds.list.length := by assumption
      rw [← hs, ixF_step hci]
      simp [hc]
     ·rfl
   ·first
    |(simp at hc; done)
    |try simp [Int.natCast_inj] at hc
     apply w_skip
     apply w_reg [1, 2, 5] rfl; intro Q hQ
     simp (disch := omega) [wrap64, wrapU, leW, wrl, buildV, fillV, splice, eX, eK]
     apply after_some rfl; apply hQ; clear hQ Q
     repeat (with_reducible apply kblock_nrm)
     have hci : i < x.kinds.list.length := by assumption
     refine kloop_back (x.kinds.list.length - (i + 1)) (by omega) ⟨i + 1, rfl, by omega, ?_, rfl, rfl⟩
     rw [← hs, ixF_step hci]
     simp [hc]
 ·first
  |(simp at hc; done)
  |try simp [Int.natCast_inj] at hc
   apply w_exit
   repeat (first | with_reducible apply kseq_exit | with_reducible apply kloop_exit | with_reducible apply kcut_exit | with_reducible apply kblock_exit | with_reducible apply kblock_pass (by decide))
   apply w_seq
   apply w_reg [4] rfl; intro Q hQ
   simp (disch := omega) [wrap64, wrapU, leW, wrl, buildV, fillV, splice, eX, eK]
   apply after_some rfl; apply hQ; clear hQ Q
   apply w_ret
   repeat (with_reducible (first | apply kseq_ret | apply kloop_ret | apply kcut_ret | apply kblock_ret))
   apply fin_pure rfl
   ·have : i = x.kinds.list.length := by omega
    subst this
    rw [← hs, List.drop_length]
    rfl
   ·rfl

theorem rKind (x : SchemaT) (s : Str) (hl : x.kinds.list.length < 4611686018427387904) (H : Heap) : call LE 19 [.agg (eX x), .str s] H = some ((.int .i64 (kIx s x.kinds.list)), H) :=
 call_pure rfl (by first | exact .inl rfl | exact .inr rfl) (by simp [V.pure, enc_pure eeK, enc_pure eeF, enc_pure eeL, enc_pure eeR, enc_pure eeS, enc_pure eeI, enc_pure eeP, V.pureL, eK, eF, eX, eL, eR]) (rKind_runs x s hl) H

/-- diorama/dioramaref10.Field -/
theorem rField_runs (x : KindT) (s : Str) (hl : x.fields.list.length < 4611686018427387904) : Runs LE 21 [.agg (eK x), .str s] (.int .i64 (fIx s x.fields.list)) := by
 refine runs_W (m := 22) Tryz.func21 rfl rfl (Nat.le_of_ble_eq_true rfl) ?_
 simp only [alOf]
 apply w_seq
 apply w_reg [1, 2] rfl; intro Q hQ
 simp (disch := omega) [wrap64, wrapU, leW, wrl, buildV, fillV, splice, eK, eF]
 apply after_some rfl; apply hQ; clear hQ Q
 apply w_seq
 apply w_seq
 apply w_reg [1, 2, 5] rfl; intro Q hQ
 simp (disch := omega) [wrap64, wrapU, leW, wrl, buildV, fillV, splice, eK, eF]
 apply after_some rfl; apply hQ; clear hQ Q
 apply w_block
 refine w_loop (fun m al H => ∃ i : Nat, m = x.fields.list.length - i ∧ i ≤ x.fields.list.length ∧ ixF (fun k : FieldT => decide (k.name = s)) i (x.fields.list.drop i) = fIx s x.fields.list ∧ al = [(1, .str s), (2, .rp (eK x)), (5, .int .i64 (i : Int))] ∧ H = []) (x.fields.list.length) ?_ ?_
 ·exact ⟨0, by simp, by omega, rfl, rfl, rfl⟩
 rintro m al H ⟨i, hm, hi0, hs, rfl, rfl⟩
 apply w_seq
 apply w_seq
 apply w_reg [1, 2, 5, 10] rfl; intro Q hQ
 simp (disch := omega) [wrap64, wrapU, leW, wrl, buildV, fillV, splice, eK, eF]
 apply after_some rfl; apply hQ; clear hQ Q
 apply w_cond _ rfl <;> intro hc
 ·first
  |(simp at hc; done)
  |try simp [Int.natCast_inj] at hc
   apply w_skip
   apply w_seq
   apply w_block
   apply w_seq
   apply w_reg [1, 2, 5, 20] rfl; intro Q hQ
   simp (disch := omega) [wrap64, wrapU, leW, wrl, buildV, fillV, splice, eK, eF]
   apply after_some rfl; apply hQ; clear hQ Q
   apply w_cond _ rfl <;> intro hc
   ·first
    |(simp at hc; done)
    |try simp [Int.natCast_inj] at hc
     apply w_seq
     apply w_reg [4] rfl; intro Q hQ
     simp (disch := omega) [wrap64, wrapU, leW, wrl, buildV, fillV, splice, eK, eF]
     apply after_some rfl; apply hQ; clear hQ Q
     apply w_ret
     repeat (with_reducible (first | apply kseq_ret | apply kloop_ret | apply kcut_ret | apply kblock_ret))
     apply fin_pure rfl
     ·have hci : i < x.fields.list.length := by assumption
      rw [← hs, ixF_step hci]
      simp [hc]
     ·rfl
   ·first
    |(simp at hc; done)
    |try simp [Int.natCast_inj] at hc
     apply w_skip
     apply w_reg [1, 2, 5] rfl; intro Q hQ
     simp (disch := omega) [wrap64, wrapU, leW, wrl, buildV, fillV, splice, eK, eF]
     apply after_some rfl; apply hQ; clear hQ Q
     repeat (with_reducible apply kblock_nrm)
     have hci : i < x.fields.list.length := by assumption
     refine kloop_back (x.fields.list.length - (i + 1)) (by omega) ⟨i + 1, rfl, by omega, ?_, rfl, rfl⟩
     rw [← hs, ixF_step hci]
     simp [hc]
 ·first
  |(simp at hc; done)
  |try simp [Int.natCast_inj] at hc
   apply w_exit
   repeat (first | with_reducible apply kseq_exit | with_reducible apply kloop_exit | with_reducible apply kcut_exit | with_reducible apply kblock_exit | with_reducible apply kblock_pass (by decide))
   apply w_seq
   apply w_reg [4] rfl; intro Q hQ
   simp (disch := omega) [wrap64, wrapU, leW, wrl, buildV, fillV, splice, eK, eF]
   apply after_some rfl; apply hQ; clear hQ Q
   apply w_ret
   repeat (with_reducible (first | apply kseq_ret | apply kloop_ret | apply kcut_ret | apply kblock_ret))
   apply fin_pure rfl
   ·have : i = x.fields.list.length := by omega
    subst this
    rw [← hs, List.drop_length]
    rfl
   ·rfl

theorem rField (x : KindT) (s : Str) (hl : x.fields.list.length < 4611686018427387904) (H : Heap) : call LE 21 [.agg (eK x), .str s] H = some ((.int .i64 (fIx s x.fields.list)), H) :=
 call_pure rfl (by first | exact .inl rfl | exact .inr rfl) (by simp [V.pure, enc_pure eeK, enc_pure eeF, enc_pure eeL, enc_pure eeR, enc_pure eeS, enc_pure eeI, enc_pure eeP, V.pureL, eK, eF, eX, eL, eR]) (rField_runs x s hl) H

end Go.Ae.Zd

namespace Go.Ae.Zd
open Go.Proofs

theorem fldO_some {x : SchemaT} {k j : Int} (h0 : 0 ≤ k) (h1 : k < x.kinds.list.length) (h2 : 0 ≤ j) (h3 : j < (x.kinds.list[k.toNat]'(by omega)).fields.list.length) : fldO x k j = some ((x.kinds.list[k.toNat]'(by omega)).fields.list[j.toNat]'(by omega)) := by
 unfold fldO
 have a : k.toNat < x.kinds.list.length := by omega
 rw [if_pos ⟨h0, h2⟩, List.getElem?_eq_getElem a, Option.bind_some, List.getElem?_eq_getElem]
theorem fldO_no1 {x : SchemaT} {k j : Int} (h : k < 0 ∨ j < 0) : fldO x k j = none := by
 unfold fldO; rw [if_neg (by omega)]
theorem fldO_no2 {x : SchemaT} {k j : Int} (h0 : 0 ≤ k) (h1 : (x.kinds.list.length : Int) ≤ k) : fldO x k j = none := by
 unfold fldO
 split
 ·rw [List.getElem?_eq_none (by omega)]; rfl
 ·rfl
theorem fldO_no3 {x : SchemaT} {k j : Int} (h0 : 0 ≤ k) (h1 : k < x.kinds.list.length) (h2 : 0 ≤ j) (h3 : ((x.kinds.list[k.toNat]'(by omega)).fields.list.length : Int) ≤ j) : fldO x k j = none := by
 unfold fldO
 have a : k.toNat < x.kinds.list.length := by omega
 rw [if_pos ⟨h0, h2⟩, List.getElem?_eq_getElem a, Option.bind_some, List.getElem?_eq_none (by omega)]
theorem fldO_has {x : SchemaT} {k j : Int} (h0 : 0 ≤ k) (h1 : k < x.kinds.list.length) (h2 : 0 ≤ j) : (fldO x k j).isSome = decide (j < ((x.kinds.list[k.toNat]'(by omega)).fields.list.length : Int)) := by
 by_cases h : j < ((x.kinds.list[k.toNat]'(by omega)).fields.list.length : Int)
 ·rw [fldO_some h0 h1 h2 h]; simp [h]
 ·rw [fldO_no3 h0 h1 h2 (by omega)]; simp [h]

/-- diorama/dioramaref10.Has -/
theorem rHas_runs (x : SchemaT) (k j : Int) : Runs LE 17 [.agg (eX x), .int .i64 k, .int .i64 j] (.bool (fldO x k j).isSome) := by
 refine runs_W (m := 29) Tryz.func17 rfl rfl (Nat.le_of_ble_eq_true rfl) ?_
 simp only [alOf]
 apply w_seq
 apply w_reg [1, 2, 3] rfl; intro Q hQ
 simp (disch := omega) [wrap64, wrapU, leW, wrl, buildV, fillV, splice, eX, eK]
 apply after_some rfl; apply hQ; clear hQ Q
 apply w_seq
 apply w_seq
 apply w_reg [1, 2, 3, 19] rfl; intro Q hQ
 simp (disch := omega) [wrap64, wrapU, leW, wrl, buildV, fillV, splice, eX, eK]
 repeat' ((first | with_reducible apply after_guard | with_reducible apply after_guardD) <;> (intro hg; have hg' := hg; try simp at hg') <;> simp (disch := omega) [wrap64, wrapU, leW, wrl, buildV, fillV, splice, eX, eK, *])
 all_goals (apply after_some rfl; apply hQ; clear hQ Q)
 all_goals
  skip
  apply w_cond _ rfl <;> intro hc
  ·first
   |(simp at hc; done)
   |try simp [Int.natCast_inj] at hc
    apply w_seq
    apply w_reg [6] rfl; intro Q hQ
    simp (disch := omega) [wrap64, wrapU, leW, wrl, buildV, fillV, splice, eX, eK]
    apply after_some rfl; apply hQ; clear hQ Q
    apply w_ret
    repeat (with_reducible (first | apply kseq_ret | apply kloop_ret | apply kcut_ret | apply kblock_ret))
    apply fin_pure rfl
    ·first
      |(rw [fldO_no1 (by omega)]; rfl)
      |(rw [fldO_no2 (by omega) (by omega)]; rfl)
      |(rw [fldO_no3 (by omega) (by omega) (by omega) (by omega)]; rfl)
      |(rw [fldO_some (by omega) (by omega) (by omega) (by omega)]; rfl)
      |(rw [fldO_has (by omega) (by omega) (by omega)])
    ·rfl
  ·first
   |(simp at hc; done)
   |try simp [Int.natCast_inj] at hc
    apply w_skip
    apply w_seq
    apply w_reg [6] rfl; intro Q hQ
    simp (disch := omega) [wrap64, wrapU, leW, wrl, buildV, fillV, splice, eX, eK]
    apply after_some rfl; apply hQ; clear hQ Q
    apply w_ret
    repeat (with_reducible (first | apply kseq_ret | apply kloop_ret | apply kcut_ret | apply kblock_ret))
    apply fin_pure rfl
    ·first
      |(rw [fldO_no1 (by omega)]; rfl)
      |(rw [fldO_no2 (by omega) (by omega)]; rfl)
      |(rw [fldO_no3 (by omega) (by omega) (by omega) (by omega)]; rfl)
      |(rw [fldO_some (by omega) (by omega) (by omega) (by omega)]; rfl)
      |(rw [fldO_has (by omega) (by omega) (by omega)])
    ·rfl

theorem rHas (x : SchemaT) (k j : Int) (H : Heap) : call LE 17 [.agg (eX x), .int .i64 k, .int .i64 j] H = some ((.bool (fldO x k j).isSome), H) :=
 call_pure rfl (by first | exact .inl rfl | exact .inr rfl) (by simp [V.pure, enc_pure eeK, enc_pure eeF, enc_pure eeL, enc_pure eeR, enc_pure eeS, enc_pure eeI, enc_pure eeP, V.pureL, eK, eF, eX, eL, eR]) (rHas_runs x k j) H

/-- diorama/typing.at -/
theorem cAt_runs (x : SchemaT) (k j : Int) : Runs LE 44 [.agg (eX x), .int .i64 k, .int .i64 j] (.tup [.agg (eF ((fldO x k j).getD fieldZ)), .bool (fldO x k j).isSome]) := by
 refine runs_W (m := 42) Tryz.func44 rfl rfl (Nat.le_of_ble_eq_true rfl) ?_
 simp only [alOf]
 apply w_seq
 apply w_reg [1, 2, 3, 6] rfl; intro Q hQ
 simp (disch := omega) [wrap64, wrapU, leW, wrl, buildV, fillV, splice, eX, eK]
 apply after_some rfl; apply hQ; clear hQ Q
 apply w_seq
 apply w_seq
 apply w_reg [1, 2, 3, 6, 31] rfl; intro Q hQ
 simp (disch := omega) [wrap64, wrapU, leW, wrl, buildV, fillV, splice, eX, eK]
 repeat' ((first | with_reducible apply after_guard | with_reducible apply after_guardD) <;> (intro hg; have hg' := hg; try simp at hg') <;> simp (disch := omega) [wrap64, wrapU, leW, wrl, buildV, fillV, splice, eX, eK, *])
 all_goals (apply after_some rfl; apply hQ; clear hQ Q)
 all_goals
  skip
  apply w_cond _ rfl <;> intro hc
  ·first
   |(simp at hc; done)
   |try simp [Int.natCast_inj] at hc
    apply w_seq
    apply w_reg [6, 7] rfl; intro Q hQ
    simp (disch := omega) [wrap64, wrapU, leW, wrl, buildV, fillV, splice, eX, eK]
    apply after_some rfl; apply hQ; clear hQ Q
    apply w_ret
    repeat (with_reducible (first | apply kseq_ret | apply kloop_ret | apply kcut_ret | apply kblock_ret))
    refine fin_res (rs := [.cell 6 44, .tmp 7]) rfl ?_ ?_
    ·simp (disch := omega) [resultsB, resultA, wrap64, wrapU, leW, wrl, buildV, fillV, splice, eX, eK]
     first
      |(rw [fldO_no1 (by omega)]; first | rfl | exact ⟨rfl, rfl⟩ | simp [eF, fieldZ])
      |(rw [fldO_no2 (by omega) (by omega)]; first | rfl | exact ⟨rfl, rfl⟩ | simp [eF, fieldZ])
      |(rw [fldO_no3 (by omega) (by omega) (by omega) (by omega)]; first | rfl | exact ⟨rfl, rfl⟩ | simp [eF, fieldZ])
      |(rw [fldO_some (by omega) (by omega) (by omega) (by omega)]; first | rfl | exact ⟨rfl, rfl⟩ | simp [eF, fieldZ])
    ·simp [V.pure, V.pureL, eeF.pure]
  ·first
   |(simp at hc; done)
   |try simp [Int.natCast_inj] at hc
    apply w_skip
    apply w_seq
    apply w_reg [6, 7] rfl; intro Q hQ
    simp (disch := omega) [wrap64, wrapU, leW, wrl, buildV, fillV, splice, eX, eK]
    apply after_some rfl; apply hQ; clear hQ Q
    apply w_ret
    repeat (with_reducible (first | apply kseq_ret | apply kloop_ret | apply kcut_ret | apply kblock_ret))
    refine fin_res (rs := [.cell 6 44, .tmp 7]) rfl ?_ ?_
    ·simp (disch := omega) [resultsB, resultA, wrap64, wrapU, leW, wrl, buildV, fillV, splice, eX, eK]
     first
      |(rw [fldO_no1 (by omega)]; first | rfl | exact ⟨rfl, rfl⟩ | simp [eF, fieldZ])
      |(rw [fldO_no2 (by omega) (by omega)]; first | rfl | exact ⟨rfl, rfl⟩ | simp [eF, fieldZ])
      |(rw [fldO_no3 (by omega) (by omega) (by omega) (by omega)]; first | rfl | exact ⟨rfl, rfl⟩ | simp [eF, fieldZ])
      |(rw [fldO_some (by omega) (by omega) (by omega) (by omega)]; first | rfl | exact ⟨rfl, rfl⟩ | simp [eF, fieldZ])
    ·simp [V.pure, V.pureL, eeF.pure]

theorem cAt (x : SchemaT) (k j : Int) (H : Heap) : call LE 44 [.agg (eX x), .int .i64 k, .int .i64 j] H = some ((.tup [.agg (eF ((fldO x k j).getD fieldZ)), .bool (fldO x k j).isSome]), H) :=
 call_pure rfl (by first | exact .inl rfl | exact .inr rfl) (by simp [V.pure, enc_pure eeK, enc_pure eeF, enc_pure eeL, enc_pure eeR, enc_pure eeS, enc_pure eeI, enc_pure eeP, V.pureL, eK, eF, eX, eL, eR]) (cAt_runs x k j) H

end Go.Ae.Zd

namespace Go.Ae.Zd
open Go.Proofs

theorem deF1 (f : FieldT) : (eF f).drop 1 = [.str f.of_, .str f.up, .int .i64 f.kind, .int .i64 f.lo, .int .i64 f.hi, enc eS f.words, enc eI f.weights] := rfl
theorem deF2 (f : FieldT) : (eF f).drop 2 = [.str f.up, .int .i64 f.kind, .int .i64 f.lo, .int .i64 f.hi, enc eS f.words, enc eI f.weights] := rfl
theorem deF3 (f : FieldT) : (eF f).drop 3 = [.int .i64 f.kind, .int .i64 f.lo, .int .i64 f.hi, enc eS f.words, enc eI f.weights] := rfl
theorem deF4 (f : FieldT) : (eF f).drop 4 = [.int .i64 f.lo, .int .i64 f.hi, enc eS f.words, enc eI f.weights] := rfl
theorem deF5 (f : FieldT) : (eF f).drop 5 = [.int .i64 f.hi, enc eS f.words, enc eI f.weights] := rfl
theorem deF6 (f : FieldT) : (eF f).drop 6 = [enc eS f.words, enc eI f.weights] := rfl
theorem deF7 (f : FieldT) : (eF f).drop 7 = [enc eI f.weights] := rfl
theorem tleF (f : FieldT) : (eF f).tail = [.str f.of_, .str f.up, .int .i64 f.kind, .int .i64 f.lo, .int .i64 f.hi, enc eS f.words, enc eI f.weights] := rfl
theorem deK1 (f : KindT) : (eK f).drop 1 = [.int .i64 f.lo, .int .i64 f.hi, enc eF f.fields] := rfl
theorem deK2 (f : KindT) : (eK f).drop 2 = [.int .i64 f.hi, enc eF f.fields] := rfl
theorem deK3 (f : KindT) : (eK f).drop 3 = [enc eF f.fields] := rfl
theorem tleK (f : KindT) : (eK f).tail = [.int .i64 f.lo, .int .i64 f.hi, enc eF f.fields] := rfl
theorem deL1 (f : LifeT) : (eL f).drop 1 = [enc eS f.states, enc eP f.moves] := rfl
theorem deL2 (f : LifeT) : (eL f).drop 2 = [enc eP f.moves] := rfl
theorem tleL (f : LifeT) : (eL f).tail = [enc eS f.states, enc eP f.moves] := rfl
theorem deR1 (f : RuleT) : (eR f).drop 1 = [.str f.kind, .str f.a, .str f.b, .int .i64 f.n] := rfl
theorem deR2 (f : RuleT) : (eR f).drop 2 = [.str f.a, .str f.b, .int .i64 f.n] := rfl
theorem deR3 (f : RuleT) : (eR f).drop 3 = [.str f.b, .int .i64 f.n] := rfl
theorem deR4 (f : RuleT) : (eR f).drop 4 = [.int .i64 f.n] := rfl
theorem tleR (f : RuleT) : (eR f).tail = [.str f.kind, .str f.a, .str f.b, .int .i64 f.n] := rfl
theorem deX1 (f : SchemaT) : (eX f).drop 1 = [enc eK f.kinds, enc eL f.lives, enc eR f.rules] := rfl
theorem deX2 (f : SchemaT) : (eX f).drop 2 = [enc eL f.lives, enc eR f.rules] := rfl
theorem deX3 (f : SchemaT) : (eX f).drop 3 = [enc eR f.rules] := rfl
theorem tleX (f : SchemaT) : (eX f).tail = [enc eK f.kinds, enc eL f.lives, enc eR f.rules] := rfl
theorem gt0 {a : V} {r : List V} : (a :: r)[0]? = some a := rfl
theorem gt1 {a b : V} {r : List V} : (a :: b :: r)[1]? = some b := rfl
theorem so_extract0 {E : Env} {cl : Call} {f : FuncId} {al : AL} {H : Heap} {d : Option Tmp} {x : Operand} {i : Nat} : stepO E cl f d (.extract x i) al H = match rhoA E al x with
  |some (.tup vs) => (vs[i]?).map fun v => (v, H)
  |_ => none := by
 rw [so_extract]
 cases rhoA E al x with
 |none => rfl
 |some v => cases v <;> rfl
theorem ldF0 {sz by_ : Nat} {z : V} (f : FieldT) : loadCs ⟨.string, sz, by_, z⟩ (eF f) = some (.str f.name) := rfl
theorem ldK0 {sz by_ : Nat} {z : V} (f : KindT) : loadCs ⟨.string, sz, by_, z⟩ (eK f) = some (.str f.name) := rfl
theorem ldL0 {sz by_ : Nat} {z : V} (f : LifeT) : loadCs ⟨.string, sz, by_, z⟩ (eL f) = some (.str f.name) := rfl
theorem ldR0 {sz by_ : Nat} {z : V} (f : RuleT) : loadCs ⟨.string, sz, by_, z⟩ (eR f) = some (.str f.name) := rfl
theorem ldX0 {sz by_ : Nat} {z : V} {k : IntKind} (f : SchemaT) : loadCs ⟨.int k, sz, by_, z⟩ (eX f) = some (.int .i64 f.version) := rfl
attribute [simp] gt0 gt1 deF1 deF2 deF3 deF4 deF5 deF6 deF7 tleF deK1 deK2 deK3 tleK deL1 deL2 tleL deR1 deR2 deR3 deR4 tleR deX1 deX2 deX3 tleX ldF0 ldK0 ldL0 ldR0 ldX0

theorem fldO_of {x : SchemaT} {k j : Int} {f : FieldT} (h : fldO x k j = some f) : 0 ≤ k ∧ k < x.kinds.list.length ∧ 0 ≤ j ∧ ∃ q : KindT, x.kinds.list[k.toNat]? = some q ∧ j < q.fields.list.length ∧ q.fields.list[j.toNat]? = some f := by
 unfold fldO at h
 split at h
 ·rename_i hq
  cases hk : x.kinds.list[k.toNat]? with
  |none => rw [hk] at h; cases h
  |some q =>
   rw [hk] at h
   have h1 := (List.getElem?_eq_some_iff.1 hk).1
   have h2 : q.fields.list[j.toNat]? = some f := h
   have h3 := (List.getElem?_eq_some_iff.1 h2).1
   exact ⟨hq.1, by omega, hq.2, q, rfl, by omega, h2⟩
 ·cases h

/-- The kind before k that has a name; -1: there is none. -/
def ledTo (x : SchemaT) (s : Str) (k : Int) : Int := if kIx s x.kinds.list < k then kIx s x.kinds.list else -1

abbrev Small (x : SchemaT) : Prop := x.kinds.list.length < 4611686018427387904 ∧ ∀ q ∈ x.kinds.list, q.fields.list.length < 4611686018427387904

/-- diorama/typing.Up -/
theorem cUp0_runs (x : SchemaT) (k j : Int) (hf : fldO x k j = none) : Runs LE 15 [.agg (eX x), .int .i64 k, .int .i64 j] (.int .i64 (-1)) := by
 have hA := cAt x k j
 refine runs_W (m := 74) Tryz.func15 rfl rfl (Nat.le_of_ble_eq_true rfl) ?_
 simp only [alOf]
 apply w_seq
 apply w_reg [1, 2, 3] rfl; intro Q hQ
 simp (disch := omega) [wrap64, wrapU, leW, wrl, buildV, fillV, splice, hA, hf]
 apply after_some rfl; apply hQ; clear hQ Q
 apply w_seq
 apply w_reg [1, 2, 3, 7, 8] rfl; intro Q hQ
 simp (disch := omega) [wrap64, wrapU, leW, wrl, buildV, fillV, splice, hA, hf]
 apply after_some rfl; apply hQ; clear hQ Q
 apply w_seq
 apply w_block
 apply w_seq
 apply w_reg [1, 2, 3, 7, 20] rfl; intro Q hQ
 simp (disch := omega) [wrap64, wrapU, leW, wrl, buildV, fillV, splice, hA, hf]
 apply after_some rfl; apply hQ; clear hQ Q
 apply w_cond _ rfl <;> intro hc
 ·first
  |(simp at hc; done)
  |(exfalso; simp at hc; omega)
  |try simp [Int.natCast_inj] at hc
   apply w_seq
   apply w_reg [6] rfl; intro Q hQ
   simp (disch := omega) [wrap64, wrapU, leW, wrl, buildV, fillV, splice, hA, hf]
   apply after_some rfl; apply hQ; clear hQ Q
   apply w_ret
   repeat (with_reducible (first | apply kseq_ret | apply kloop_ret | apply kcut_ret | apply kblock_ret))
   apply fin_pure rfl
   ·rfl
   ·rfl
 ·first
  |(simp at hc; done)
  |(exfalso; simp at hc; omega)

theorem cUp0 (x : SchemaT) (k j : Int) (hf : fldO x k j = none) (H : Heap) : call LE 15 [.agg (eX x), .int .i64 k, .int .i64 j] H = some ((.int .i64 (-1)), H) :=
 call_pure rfl (by first | exact .inl rfl | exact .inr rfl) (by simp [V.pure, enc_pure eeK, enc_pure eeF, enc_pure eeL, enc_pure eeR, enc_pure eeS, enc_pure eeI, enc_pure eeP, V.pureL, eK, eF, eX, eL, eR]) (cUp0_runs x k j hf) H

/-- diorama/typing.Up -/
theorem cUp1_runs (x : SchemaT) (k j : Int) (f : FieldT) (hl : x.kinds.list.length < 4611686018427387904) (hf : fldO x k j = some f) (hk : f.kind = 1) : Runs LE 15 [.agg (eX x), .int .i64 k, .int .i64 j] (.int .i64 (ledTo x f.of_ k)) := by
 have hA := cAt x k j
 have hK := cKind x f.of_ hl
 refine runs_W (m := 74) Tryz.func15 rfl rfl (Nat.le_of_ble_eq_true rfl) ?_
 simp only [alOf]
 apply w_seq
 apply w_reg [1, 2, 3] rfl; intro Q hQ
 simp (disch := omega) [wrap64, wrapU, leW, wrl, buildV, fillV, splice, hA, hf, hk, hK]
 apply after_some rfl; apply hQ; clear hQ Q
 apply w_seq
 apply w_reg [1, 2, 3, 7, 8] rfl; intro Q hQ
 simp (disch := omega) [wrap64, wrapU, leW, wrl, buildV, fillV, splice, hA, hf, hk, hK]
 apply after_some rfl; apply hQ; clear hQ Q
 apply w_seq
 apply w_block
 apply w_seq
 apply w_reg [1, 2, 3, 7, 20] rfl; intro Q hQ
 simp (disch := omega) [wrap64, wrapU, leW, wrl, buildV, fillV, splice, hA, hf, hk, hK]
 apply after_some rfl; apply hQ; clear hQ Q
 apply w_cond _ rfl <;> intro hc
 ·first
  |(simp at hc; done)
  |(exfalso; simp at hc; omega)
 ·first
  |(simp at hc; done)
  |(exfalso; simp at hc; omega)
  |try simp [Int.natCast_inj] at hc
   apply w_seq
   apply w_reg [1, 2, 3, 7, 23] rfl; intro Q hQ
   simp (disch := omega) [wrap64, wrapU, leW, wrl, buildV, fillV, splice, hA, hf, hk, hK]
   repeat' ((first | with_reducible apply after_guard | with_reducible apply after_guardD) <;> (intro hg; have hg' := hg; try simp at hg') <;> simp (disch := omega) [wrap64, wrapU, leW, wrl, buildV, fillV, splice, hA, hf, hk, hK, *])
   all_goals (apply after_some rfl; apply hQ; clear hQ Q)
   all_goals
    skip
    apply w_cond _ rfl <;> intro hc
    ·first
     |(simp at hc; done)
     |(exfalso; simp at hc; omega)
    ·first
     |(simp at hc; done)
     |(exfalso; simp at hc; omega)
     |try simp [Int.natCast_inj] at hc
      apply w_seq
      apply w_reg [1, 3, 7, 62] rfl; intro Q hQ
      simp (disch := omega) [wrap64, wrapU, leW, wrl, buildV, fillV, splice, hA, hf, hk, hK]
      apply after_some rfl; apply hQ; clear hQ Q
      apply w_cond _ rfl <;> intro hc
      ·first
       |(simp at hc; done)
       |(exfalso; simp at hc; omega)
      ·first
       |(simp at hc; done)
       |(exfalso; simp at hc; omega)
       |try simp [Int.natCast_inj] at hc
        apply w_skip
        apply w_seq
        apply w_seq
        apply w_reg [1, 12] rfl; intro Q hQ
        simp (disch := omega) [wrap64, wrapU, leW, wrl, buildV, fillV, splice, hA, hf, hk, hK]
        apply after_some rfl; apply hQ; clear hQ Q
        apply w_seq
        apply w_reg [12, 72] rfl; intro Q hQ
        simp (disch := omega) [wrap64, wrapU, leW, wrl, buildV, fillV, splice, hA, hf, hk, hK]
        apply after_some rfl; apply hQ; clear hQ Q
        apply w_cond _ rfl <;> intro hc
        ·first
         |(simp at hc; done)
         |(exfalso; simp at hc; omega)
         |try simp [Int.natCast_inj] at hc
          apply w_seq
          apply w_reg [6] rfl; intro Q hQ
          simp (disch := omega) [wrap64, wrapU, leW, wrl, buildV, fillV, splice, hA, hf, hk, hK]
          apply after_some rfl; apply hQ; clear hQ Q
          apply w_ret
          repeat (with_reducible (first | apply kseq_ret | apply kloop_ret | apply kcut_ret | apply kblock_ret))
          apply fin_pure rfl
          ·unfold ledTo
           first
            |rw [if_pos hc]
            |rw [if_neg (by omega)]
          ·rfl
        ·first
         |(simp at hc; done)
         |(exfalso; simp at hc; omega)
         |try simp [Int.natCast_inj] at hc
          apply w_skip
          apply w_seq
          apply w_reg [6] rfl; intro Q hQ
          simp (disch := omega) [wrap64, wrapU, leW, wrl, buildV, fillV, splice, hA, hf, hk, hK]
          apply after_some rfl; apply hQ; clear hQ Q
          apply w_ret
          repeat (with_reducible (first | apply kseq_ret | apply kloop_ret | apply kcut_ret | apply kblock_ret))
          apply fin_pure rfl
          ·unfold ledTo
           first
            |rw [if_pos hc]
            |rw [if_neg (by omega)]
          ·rfl

theorem cUp1 (x : SchemaT) (k j : Int) (f : FieldT) (hl : x.kinds.list.length < 4611686018427387904) (hf : fldO x k j = some f) (hk : f.kind = 1) (H : Heap) : call LE 15 [.agg (eX x), .int .i64 k, .int .i64 j] H = some ((.int .i64 (ledTo x f.of_ k)), H) :=
 call_pure rfl (by first | exact .inl rfl | exact .inr rfl) (by simp [V.pure, enc_pure eeK, enc_pure eeF, enc_pure eeL, enc_pure eeR, enc_pure eeS, enc_pure eeI, enc_pure eeP, V.pureL, eK, eF, eX, eL, eR]) (cUp1_runs x k j f hl hf hk) H

/-- diorama/typing.Up -/
theorem cUp2_runs (x : SchemaT) (k j : Int) (f : FieldT) (hf : fldO x k j = some f) (hk : f.kind ≠ 1 ∧ f.kind ≠ 7 ∧ f.kind ≠ 8) : Runs LE 15 [.agg (eX x), .int .i64 k, .int .i64 j] (.int .i64 (-1)) := by
 have hA := cAt x k j
 obtain ⟨hk1, hk7, hk8⟩ := hk
 refine runs_W (m := 74) Tryz.func15 rfl rfl (Nat.le_of_ble_eq_true rfl) ?_
 simp only [alOf]
 apply w_seq
 apply w_reg [1, 2, 3] rfl; intro Q hQ
 simp (disch := omega) [wrap64, wrapU, leW, wrl, buildV, fillV, splice, hA, hf, hk1, hk7, hk8]
 apply after_some rfl; apply hQ; clear hQ Q
 apply w_seq
 apply w_reg [1, 2, 3, 7, 8] rfl; intro Q hQ
 simp (disch := omega) [wrap64, wrapU, leW, wrl, buildV, fillV, splice, hA, hf, hk1, hk7, hk8]
 apply after_some rfl; apply hQ; clear hQ Q
 apply w_seq
 apply w_block
 apply w_seq
 apply w_reg [1, 2, 3, 7, 20] rfl; intro Q hQ
 simp (disch := omega) [wrap64, wrapU, leW, wrl, buildV, fillV, splice, hA, hf, hk1, hk7, hk8]
 apply after_some rfl; apply hQ; clear hQ Q
 apply w_cond _ rfl <;> intro hc
 ·first
  |(simp at hc; done)
  |(exfalso; simp at hc; omega)
 ·first
  |(simp at hc; done)
  |(exfalso; simp at hc; omega)
  |try simp [Int.natCast_inj] at hc
   apply w_seq
   apply w_reg [1, 2, 3, 7, 23] rfl; intro Q hQ
   simp (disch := omega) [wrap64, wrapU, leW, wrl, buildV, fillV, splice, hA, hf, hk1, hk7, hk8]
   repeat' ((first | with_reducible apply after_guard | with_reducible apply after_guardD) <;> (intro hg; have hg' := hg; try simp at hg') <;> simp (disch := omega) [wrap64, wrapU, leW, wrl, buildV, fillV, splice, hA, hf, hk1, hk7, hk8, *])
   all_goals (apply after_some rfl; apply hQ; clear hQ Q)
   all_goals
    skip
    apply w_cond _ rfl <;> intro hc
    ·first
     |(simp at hc; done)
     |(exfalso; simp at hc; omega)
    ·first
     |(simp at hc; done)
     |(exfalso; simp at hc; omega)
     |try simp [Int.natCast_inj] at hc
      apply w_seq
      apply w_reg [1, 3, 7, 62] rfl; intro Q hQ
      simp (disch := omega) [wrap64, wrapU, leW, wrl, buildV, fillV, splice, hA, hf, hk1, hk7, hk8]
      apply after_some rfl; apply hQ; clear hQ Q
      apply w_cond _ rfl <;> intro hc
      ·first
       |(simp at hc; done)
       |(exfalso; simp at hc; omega)
       |try simp [Int.natCast_inj] at hc
        apply w_seq
        apply w_reg [6] rfl; intro Q hQ
        simp (disch := omega) [wrap64, wrapU, leW, wrl, buildV, fillV, splice, hA, hf, hk1, hk7, hk8]
        apply after_some rfl; apply hQ; clear hQ Q
        apply w_ret
        repeat (with_reducible (first | apply kseq_ret | apply kloop_ret | apply kcut_ret | apply kblock_ret))
        apply fin_pure rfl
        ·rfl
        ·rfl
      ·first
       |(simp at hc; done)
       |(exfalso; simp at hc; omega)

theorem cUp2 (x : SchemaT) (k j : Int) (f : FieldT) (hf : fldO x k j = some f) (hk : f.kind ≠ 1 ∧ f.kind ≠ 7 ∧ f.kind ≠ 8) (H : Heap) : call LE 15 [.agg (eX x), .int .i64 k, .int .i64 j] H = some ((.int .i64 (-1)), H) :=
 call_pure rfl (by first | exact .inl rfl | exact .inr rfl) (by simp [V.pure, enc_pure eeK, enc_pure eeF, enc_pure eeL, enc_pure eeR, enc_pure eeS, enc_pure eeI, enc_pure eeP, V.pureL, eK, eF, eX, eL, eR]) (cUp2_runs x k j f hf hk) H

/-- diorama/typing.Up -/
theorem cUp7a_runs (x : SchemaT) (k j : Int) (f : FieldT) (q : KindT) (hl : x.kinds.list.length < 4611686018427387904) (hf : fldO x k j = some f) (hq : x.kinds.list[k.toNat]? = some q) (hq2 : q.fields.list.length < 4611686018427387904) (hk : f.kind = 7) (hg : fldO x k (fIx f.up q.fields.list) = none) : Runs LE 15 [.agg (eX x), .int .i64 k, .int .i64 j] (.int .i64 (-1)) := by
 obtain ⟨h0, h1, h2, _⟩ := fldO_of hf
 have hb : k.toNat < x.kinds.list.length := by omega
 have hqe : x.kinds.list[k.toNat] = q := by rw [List.getElem?_eq_getElem hb] at hq; injection hq
 have hA := cAt x k j
 have hF := cField q f.up hq2
 have hB := cAt x k (fIx f.up q.fields.list)
 refine runs_W (m := 74) Tryz.func15 rfl rfl (Nat.le_of_ble_eq_true rfl) ?_
 simp only [alOf]
 apply w_seq
 apply w_reg [1, 2, 3] rfl; intro Q hQ
 simp (disch := omega) [wrap64, wrapU, leW, wrl, buildV, fillV, splice, hA, hf, hk, hqe, hF, hB, hg]
 apply after_some rfl; apply hQ; clear hQ Q
 apply w_seq
 apply w_reg [1, 2, 3, 7, 8] rfl; intro Q hQ
 simp (disch := omega) [wrap64, wrapU, leW, wrl, buildV, fillV, splice, hA, hf, hk, hqe, hF, hB, hg]
 apply after_some rfl; apply hQ; clear hQ Q
 apply w_seq
 apply w_block
 apply w_seq
 apply w_reg [1, 2, 3, 7, 20] rfl; intro Q hQ
 simp (disch := omega) [wrap64, wrapU, leW, wrl, buildV, fillV, splice, hA, hf, hk, hqe, hF, hB, hg]
 apply after_some rfl; apply hQ; clear hQ Q
 apply w_cond _ rfl <;> intro hc
 ·first
  |(simp at hc; done)
  |(exfalso; simp at hc; omega)
 ·first
  |(simp at hc; done)
  |(exfalso; simp at hc; omega)
  |try simp [Int.natCast_inj] at hc
   apply w_seq
   apply w_reg [1, 2, 3, 7, 23] rfl; intro Q hQ
   simp (disch := omega) [wrap64, wrapU, leW, wrl, buildV, fillV, splice, hA, hf, hk, hqe, hF, hB, hg]
   repeat' ((first | with_reducible apply after_guard | with_reducible apply after_guardD) <;> (intro hg; have hg' := hg; try simp at hg') <;> simp (disch := omega) [wrap64, wrapU, leW, wrl, buildV, fillV, splice, hA, hf, hk, hqe, hF, hB, hg, *])
   all_goals (apply after_some rfl; apply hQ; clear hQ Q)
   all_goals
    skip
    apply w_cond _ rfl <;> intro hc
    ·first
     |(simp at hc; done)
     |(exfalso; simp at hc; omega)
     |try simp [Int.natCast_inj] at hc
      apply w_seq
      apply w_drw [1, 2, 3, 9] rfl rfl (by kernel_rfl) 0 rfl; intro Q hQ
      simp (disch := omega) [wrap64, wrapU, leW, wrl, buildV, fillV, splice, hA, hf, hk, hqe, hF, hB, hg]
      apply after_some rfl; apply hQ; clear hQ Q
      apply w_seq
      apply w_seq
      apply w_reg [1, 2, 3, 9, 10, 11] rfl; intro Q hQ
      simp (disch := omega) [wrap64, wrapU, leW, wrl, buildV, fillV, splice, hA, hf, hk, hqe, hF, hB, hg]
      apply after_some rfl; apply hQ; clear hQ Q
      apply w_seq
      apply w_reg [1, 3, 9, 57] rfl; intro Q hQ
      simp (disch := omega) [wrap64, wrapU, leW, wrl, buildV, fillV, splice, hA, hf, hk, hqe, hF, hB, hg]
      repeat' ((first | with_reducible apply after_guard | with_reducible apply after_guardD) <;> (intro hg; have hg' := hg; try simp at hg') <;> simp (disch := omega) [wrap64, wrapU, leW, wrl, buildV, fillV, splice, hA, hf, hk, hqe, hF, hB, hg, *])
      all_goals (apply after_some rfl; apply hQ; clear hQ Q)
      all_goals
       skip
       apply w_cond _ rfl <;> intro hc
       ·first
        |(simp at hc; done)
        |(exfalso; simp at hc; omega)
       ·first
        |(simp at hc; done)
        |(exfalso; simp at hc; omega)
        |try simp [Int.natCast_inj] at hc
         apply w_skip
         apply w_seq
         apply w_reg [6] rfl; intro Q hQ
         simp (disch := omega) [wrap64, wrapU, leW, wrl, buildV, fillV, splice, hA, hf, hk, hqe, hF, hB, hg]
         apply after_some rfl; apply hQ; clear hQ Q
         apply w_ret
         repeat (with_reducible (first | apply kseq_ret | apply kloop_ret | apply kcut_ret | apply kblock_ret))
         apply fin_pure rfl
         ·rfl
         ·rfl
    ·first
     |(simp at hc; done)
     |(exfalso; simp at hc; omega)

theorem cUp7a (x : SchemaT) (k j : Int) (f : FieldT) (q : KindT) (hl : x.kinds.list.length < 4611686018427387904) (hf : fldO x k j = some f) (hq : x.kinds.list[k.toNat]? = some q) (hq2 : q.fields.list.length < 4611686018427387904) (hk : f.kind = 7) (hg : fldO x k (fIx f.up q.fields.list) = none) (H : Heap) : call LE 15 [.agg (eX x), .int .i64 k, .int .i64 j] H = some ((.int .i64 (-1)), H) :=
 call_pure rfl (by first | exact .inl rfl | exact .inr rfl) (by simp [V.pure, enc_pure eeK, enc_pure eeF, enc_pure eeL, enc_pure eeR, enc_pure eeS, enc_pure eeI, enc_pure eeP, V.pureL, eK, eF, eX, eL, eR]) (cUp7a_runs x k j f q hl hf hq hq2 hk hg) H

/-- diorama/typing.Up -/
theorem cUp7b_runs (x : SchemaT) (k j : Int) (f g : FieldT) (q : KindT) (hl : x.kinds.list.length < 4611686018427387904) (hf : fldO x k j = some f) (hq : x.kinds.list[k.toNat]? = some q) (hq2 : q.fields.list.length < 4611686018427387904) (hk : f.kind = 7) (hg : fldO x k (fIx f.up q.fields.list) = some g) (hk1 : g.kind = 1) : Runs LE 15 [.agg (eX x), .int .i64 k, .int .i64 j] (.int .i64 (if fIx f.up q.fields.list < j then ledTo x g.of_ k else -1)) := by
 obtain ⟨h0, h1, h2, _⟩ := fldO_of hf
 have hb : k.toNat < x.kinds.list.length := by omega
 have hqe : x.kinds.list[k.toNat] = q := by rw [List.getElem?_eq_getElem hb] at hq; injection hq
 have hA := cAt x k j
 have hF := cField q f.up hq2
 have hB := cAt x k (fIx f.up q.fields.list)
 have hU := cUp1 x k (fIx f.up q.fields.list) g hl hg hk1
 refine runs_W (m := 74) Tryz.func15 rfl rfl (Nat.le_of_ble_eq_true rfl) ?_
 simp only [alOf]
 apply w_seq
 apply w_reg [1, 2, 3] rfl; intro Q hQ
 simp (disch := omega) [wrap64, wrapU, leW, wrl, buildV, fillV, splice, hA, hf, hk, hqe, hF, hB, hg, hk1, hU]
 apply after_some rfl; apply hQ; clear hQ Q
 apply w_seq
 apply w_reg [1, 2, 3, 7, 8] rfl; intro Q hQ
 simp (disch := omega) [wrap64, wrapU, leW, wrl, buildV, fillV, splice, hA, hf, hk, hqe, hF, hB, hg, hk1, hU]
 apply after_some rfl; apply hQ; clear hQ Q
 apply w_seq
 apply w_block
 apply w_seq
 apply w_reg [1, 2, 3, 7, 20] rfl; intro Q hQ
 simp (disch := omega) [wrap64, wrapU, leW, wrl, buildV, fillV, splice, hA, hf, hk, hqe, hF, hB, hg, hk1, hU]
 apply after_some rfl; apply hQ; clear hQ Q
 apply w_cond _ rfl <;> intro hc
 ·first
  |(simp at hc; done)
  |(exfalso; simp at hc; omega)
 ·first
  |(simp at hc; done)
  |(exfalso; simp at hc; omega)
  |try simp [Int.natCast_inj] at hc
   apply w_seq
   apply w_reg [1, 2, 3, 7, 23] rfl; intro Q hQ
   simp (disch := omega) [wrap64, wrapU, leW, wrl, buildV, fillV, splice, hA, hf, hk, hqe, hF, hB, hg, hk1, hU]
   repeat' ((first | with_reducible apply after_guard | with_reducible apply after_guardD) <;> (intro hg; have hg' := hg; try simp at hg') <;> simp (disch := omega) [wrap64, wrapU, leW, wrl, buildV, fillV, splice, hA, hf, hk, hqe, hF, hB, hg, hk1, hU, *])
   all_goals (apply after_some rfl; apply hQ; clear hQ Q)
   all_goals
    skip
    apply w_cond _ rfl <;> intro hc
    ·first
     |(simp at hc; done)
     |(exfalso; simp at hc; omega)
     |try simp [Int.natCast_inj] at hc
      apply w_seq
      apply w_drw [1, 2, 3, 9] rfl rfl (by kernel_rfl) 0 rfl; intro Q hQ
      simp (disch := omega) [wrap64, wrapU, leW, wrl, buildV, fillV, splice, hA, hf, hk, hqe, hF, hB, hg, hk1, hU]
      apply after_some rfl; apply hQ; clear hQ Q
      apply w_seq
      apply w_seq
      apply w_reg [1, 2, 3, 9, 10, 11] rfl; intro Q hQ
      simp (disch := omega) [wrap64, wrapU, leW, wrl, buildV, fillV, splice, hA, hf, hk, hqe, hF, hB, hg, hk1, hU]
      apply after_some rfl; apply hQ; clear hQ Q
      apply w_seq
      apply w_reg [1, 3, 9, 57] rfl; intro Q hQ
      simp (disch := omega) [wrap64, wrapU, leW, wrl, buildV, fillV, splice, hA, hf, hk, hqe, hF, hB, hg, hk1, hU]
      repeat' ((first | with_reducible apply after_guard | with_reducible apply after_guardD) <;> (intro hg; have hg' := hg; try simp at hg') <;> simp (disch := omega) [wrap64, wrapU, leW, wrl, buildV, fillV, splice, hA, hf, hk, hqe, hF, hB, hg, hk1, hU, *])
      all_goals (apply after_some rfl; apply hQ; clear hQ Q)
      all_goals
       skip
       apply w_cond _ rfl <;> intro hc
       ·first
        |(simp at hc; done)
        |(exfalso; simp at hc; omega)
        |try simp [Int.natCast_inj] at hc
         apply w_seq
         apply w_reg [6] rfl; intro Q hQ
         simp (disch := omega) [wrap64, wrapU, leW, wrl, buildV, fillV, splice, hA, hf, hk, hqe, hF, hB, hg, hk1, hU]
         apply after_some rfl; apply hQ; clear hQ Q
         apply w_ret
         repeat (with_reducible (first | apply kseq_ret | apply kloop_ret | apply kcut_ret | apply kblock_ret))
         apply fin_pure rfl
         ·first
           |rfl
           |rw [if_pos (by assumption)]
           |rw [if_neg (by omega)]
         ·rfl
       ·first
        |(simp at hc; done)
        |(exfalso; simp at hc; omega)
        |try simp [Int.natCast_inj] at hc
         apply w_skip
         apply w_seq
         apply w_reg [6] rfl; intro Q hQ
         simp (disch := omega) [wrap64, wrapU, leW, wrl, buildV, fillV, splice, hA, hf, hk, hqe, hF, hB, hg, hk1, hU]
         apply after_some rfl; apply hQ; clear hQ Q
         apply w_ret
         repeat (with_reducible (first | apply kseq_ret | apply kloop_ret | apply kcut_ret | apply kblock_ret))
         apply fin_pure rfl
         ·first
           |rfl
           |rw [if_pos (by assumption)]
           |rw [if_neg (by omega)]
         ·rfl
    ·first
     |(simp at hc; done)
     |(exfalso; simp at hc; omega)

theorem cUp7b (x : SchemaT) (k j : Int) (f g : FieldT) (q : KindT) (hl : x.kinds.list.length < 4611686018427387904) (hf : fldO x k j = some f) (hq : x.kinds.list[k.toNat]? = some q) (hq2 : q.fields.list.length < 4611686018427387904) (hk : f.kind = 7) (hg : fldO x k (fIx f.up q.fields.list) = some g) (hk1 : g.kind = 1) (H : Heap) : call LE 15 [.agg (eX x), .int .i64 k, .int .i64 j] H = some ((.int .i64 (if fIx f.up q.fields.list < j then ledTo x g.of_ k else -1)), H) :=
 call_pure rfl (by first | exact .inl rfl | exact .inr rfl) (by simp [V.pure, enc_pure eeK, enc_pure eeF, enc_pure eeL, enc_pure eeR, enc_pure eeS, enc_pure eeI, enc_pure eeP, V.pureL, eK, eF, eX, eL, eR]) (cUp7b_runs x k j f g q hl hf hq hq2 hk hg hk1) H

/-- diorama/typing.Up -/
theorem cUp7c_runs (x : SchemaT) (k j : Int) (f g : FieldT) (q : KindT) (hl : x.kinds.list.length < 4611686018427387904) (hf : fldO x k j = some f) (hq : x.kinds.list[k.toNat]? = some q) (hq2 : q.fields.list.length < 4611686018427387904) (hk : f.kind = 7) (hg : fldO x k (fIx f.up q.fields.list) = some g) (hk1 : g.kind ≠ 1) : Runs LE 15 [.agg (eX x), .int .i64 k, .int .i64 j] (.int .i64 (-1)) := by
 obtain ⟨h0, h1, h2, _⟩ := fldO_of hf
 have hb : k.toNat < x.kinds.list.length := by omega
 have hqe : x.kinds.list[k.toNat] = q := by rw [List.getElem?_eq_getElem hb] at hq; injection hq
 have hA := cAt x k j
 have hF := cField q f.up hq2
 have hB := cAt x k (fIx f.up q.fields.list)
 refine runs_W (m := 74) Tryz.func15 rfl rfl (Nat.le_of_ble_eq_true rfl) ?_
 simp only [alOf]
 apply w_seq
 apply w_reg [1, 2, 3] rfl; intro Q hQ
 simp (disch := omega) [wrap64, wrapU, leW, wrl, buildV, fillV, splice, hA, hf, hk, hqe, hF, hB, hg, hk1]
 apply after_some rfl; apply hQ; clear hQ Q
 apply w_seq
 apply w_reg [1, 2, 3, 7, 8] rfl; intro Q hQ
 simp (disch := omega) [wrap64, wrapU, leW, wrl, buildV, fillV, splice, hA, hf, hk, hqe, hF, hB, hg, hk1]
 apply after_some rfl; apply hQ; clear hQ Q
 apply w_seq
 apply w_block
 apply w_seq
 apply w_reg [1, 2, 3, 7, 20] rfl; intro Q hQ
 simp (disch := omega) [wrap64, wrapU, leW, wrl, buildV, fillV, splice, hA, hf, hk, hqe, hF, hB, hg, hk1]
 apply after_some rfl; apply hQ; clear hQ Q
 apply w_cond _ rfl <;> intro hc
 ·first
  |(simp at hc; done)
  |(exfalso; simp at hc; omega)
 ·first
  |(simp at hc; done)
  |(exfalso; simp at hc; omega)
  |try simp [Int.natCast_inj] at hc
   apply w_seq
   apply w_reg [1, 2, 3, 7, 23] rfl; intro Q hQ
   simp (disch := omega) [wrap64, wrapU, leW, wrl, buildV, fillV, splice, hA, hf, hk, hqe, hF, hB, hg, hk1]
   repeat' ((first | with_reducible apply after_guard | with_reducible apply after_guardD) <;> (intro hg; have hg' := hg; try simp at hg') <;> simp (disch := omega) [wrap64, wrapU, leW, wrl, buildV, fillV, splice, hA, hf, hk, hqe, hF, hB, hg, hk1, *])
   all_goals (apply after_some rfl; apply hQ; clear hQ Q)
   all_goals
    skip
    apply w_cond _ rfl <;> intro hc
    ·first
     |(simp at hc; done)
     |(exfalso; simp at hc; omega)
     |try simp [Int.natCast_inj] at hc
      apply w_seq
      apply w_drw [1, 2, 3, 9] rfl rfl (by kernel_rfl) 0 rfl; intro Q hQ
      simp (disch := omega) [wrap64, wrapU, leW, wrl, buildV, fillV, splice, hA, hf, hk, hqe, hF, hB, hg, hk1]
      apply after_some rfl; apply hQ; clear hQ Q
      apply w_seq
      apply w_seq
      apply w_reg [1, 2, 3, 9, 10, 11] rfl; intro Q hQ
      simp (disch := omega) [wrap64, wrapU, leW, wrl, buildV, fillV, splice, hA, hf, hk, hqe, hF, hB, hg, hk1]
      apply after_some rfl; apply hQ; clear hQ Q
      apply w_seq
      apply w_reg [1, 3, 9, 57] rfl; intro Q hQ
      simp (disch := omega) [wrap64, wrapU, leW, wrl, buildV, fillV, splice, hA, hf, hk, hqe, hF, hB, hg, hk1]
      repeat' ((first | with_reducible apply after_guard | with_reducible apply after_guardD) <;> (intro hg; have hg' := hg; try simp at hg') <;> simp (disch := omega) [wrap64, wrapU, leW, wrl, buildV, fillV, splice, hA, hf, hk, hqe, hF, hB, hg, hk1, *])
      all_goals (apply after_some rfl; apply hQ; clear hQ Q)
      all_goals
       skip
       apply w_cond _ rfl <;> intro hc
       ·first
        |(simp at hc; done)
        |(exfalso; simp at hc; omega)
       ·first
        |(simp at hc; done)
        |(exfalso; simp at hc; omega)
        |try simp [Int.natCast_inj] at hc
         apply w_skip
         apply w_seq
         apply w_reg [6] rfl; intro Q hQ
         simp (disch := omega) [wrap64, wrapU, leW, wrl, buildV, fillV, splice, hA, hf, hk, hqe, hF, hB, hg, hk1]
         apply after_some rfl; apply hQ; clear hQ Q
         apply w_ret
         repeat (with_reducible (first | apply kseq_ret | apply kloop_ret | apply kcut_ret | apply kblock_ret))
         apply fin_pure rfl
         ·rfl
         ·rfl
    ·first
     |(simp at hc; done)
     |(exfalso; simp at hc; omega)

theorem cUp7c (x : SchemaT) (k j : Int) (f g : FieldT) (q : KindT) (hl : x.kinds.list.length < 4611686018427387904) (hf : fldO x k j = some f) (hq : x.kinds.list[k.toNat]? = some q) (hq2 : q.fields.list.length < 4611686018427387904) (hk : f.kind = 7) (hg : fldO x k (fIx f.up q.fields.list) = some g) (hk1 : g.kind ≠ 1) (H : Heap) : call LE 15 [.agg (eX x), .int .i64 k, .int .i64 j] H = some ((.int .i64 (-1)), H) :=
 call_pure rfl (by first | exact .inl rfl | exact .inr rfl) (by simp [V.pure, enc_pure eeK, enc_pure eeF, enc_pure eeL, enc_pure eeR, enc_pure eeS, enc_pure eeI, enc_pure eeP, V.pureL, eK, eF, eX, eL, eR]) (cUp7c_runs x k j f g q hl hf hq hq2 hk hg hk1) H

/-- diorama/typing.Up -/
theorem cUp8a_runs (x : SchemaT) (k j : Int) (f : FieldT) (q : KindT) (hl : x.kinds.list.length < 4611686018427387904) (hf : fldO x k j = some f) (hq : x.kinds.list[k.toNat]? = some q) (hq2 : q.fields.list.length < 4611686018427387904) (hk : f.kind = 8) (hg : fldO x k (fIx f.up q.fields.list) = none) : Runs LE 15 [.agg (eX x), .int .i64 k, .int .i64 j] (.int .i64 (-1)) := by
 obtain ⟨h0, h1, h2, _⟩ := fldO_of hf
 have hb : k.toNat < x.kinds.list.length := by omega
 have hqe : x.kinds.list[k.toNat] = q := by rw [List.getElem?_eq_getElem hb] at hq; injection hq
 have hA := cAt x k j
 have hF := cField q f.up hq2
 have hB := cAt x k (fIx f.up q.fields.list)
 refine runs_W (m := 74) Tryz.func15 rfl rfl (Nat.le_of_ble_eq_true rfl) ?_
 simp only [alOf]
 apply w_seq
 apply w_reg [1, 2, 3] rfl; intro Q hQ
 simp (disch := omega) [wrap64, wrapU, leW, wrl, buildV, fillV, splice, hA, hf, hk, hqe, hF, hB, hg]
 apply after_some rfl; apply hQ; clear hQ Q
 apply w_seq
 apply w_reg [1, 2, 3, 7, 8] rfl; intro Q hQ
 simp (disch := omega) [wrap64, wrapU, leW, wrl, buildV, fillV, splice, hA, hf, hk, hqe, hF, hB, hg]
 apply after_some rfl; apply hQ; clear hQ Q
 apply w_seq
 apply w_block
 apply w_seq
 apply w_reg [1, 2, 3, 7, 20] rfl; intro Q hQ
 simp (disch := omega) [wrap64, wrapU, leW, wrl, buildV, fillV, splice, hA, hf, hk, hqe, hF, hB, hg]
 apply after_some rfl; apply hQ; clear hQ Q
 apply w_cond _ rfl <;> intro hc
 ·first
  |(simp at hc; done)
  |(exfalso; simp at hc; omega)
 ·first
  |(simp at hc; done)
  |(exfalso; simp at hc; omega)
  |try simp [Int.natCast_inj] at hc
   apply w_seq
   apply w_reg [1, 2, 3, 7, 23] rfl; intro Q hQ
   simp (disch := omega) [wrap64, wrapU, leW, wrl, buildV, fillV, splice, hA, hf, hk, hqe, hF, hB, hg]
   repeat' ((first | with_reducible apply after_guard | with_reducible apply after_guardD) <;> (intro hg; have hg' := hg; try simp at hg') <;> simp (disch := omega) [wrap64, wrapU, leW, wrl, buildV, fillV, splice, hA, hf, hk, hqe, hF, hB, hg, *])
   all_goals (apply after_some rfl; apply hQ; clear hQ Q)
   all_goals
    skip
    apply w_cond _ rfl <;> intro hc
    ·first
     |(simp at hc; done)
     |(exfalso; simp at hc; omega)
     |try simp [Int.natCast_inj] at hc
      apply w_seq
      apply w_drw [1, 2, 3, 9] rfl rfl (by kernel_rfl) 0 rfl; intro Q hQ
      simp (disch := omega) [wrap64, wrapU, leW, wrl, buildV, fillV, splice, hA, hf, hk, hqe, hF, hB, hg]
      apply after_some rfl; apply hQ; clear hQ Q
      apply w_seq
      apply w_seq
      apply w_reg [1, 2, 3, 9, 10, 11] rfl; intro Q hQ
      simp (disch := omega) [wrap64, wrapU, leW, wrl, buildV, fillV, splice, hA, hf, hk, hqe, hF, hB, hg]
      apply after_some rfl; apply hQ; clear hQ Q
      apply w_seq
      apply w_reg [1, 3, 9, 57] rfl; intro Q hQ
      simp (disch := omega) [wrap64, wrapU, leW, wrl, buildV, fillV, splice, hA, hf, hk, hqe, hF, hB, hg]
      repeat' ((first | with_reducible apply after_guard | with_reducible apply after_guardD) <;> (intro hg; have hg' := hg; try simp at hg') <;> simp (disch := omega) [wrap64, wrapU, leW, wrl, buildV, fillV, splice, hA, hf, hk, hqe, hF, hB, hg, *])
      all_goals (apply after_some rfl; apply hQ; clear hQ Q)
      all_goals
       skip
       apply w_cond _ rfl <;> intro hc
       ·first
        |(simp at hc; done)
        |(exfalso; simp at hc; omega)
       ·first
        |(simp at hc; done)
        |(exfalso; simp at hc; omega)
        |try simp [Int.natCast_inj] at hc
         apply w_skip
         apply w_seq
         apply w_reg [6] rfl; intro Q hQ
         simp (disch := omega) [wrap64, wrapU, leW, wrl, buildV, fillV, splice, hA, hf, hk, hqe, hF, hB, hg]
         apply after_some rfl; apply hQ; clear hQ Q
         apply w_ret
         repeat (with_reducible (first | apply kseq_ret | apply kloop_ret | apply kcut_ret | apply kblock_ret))
         apply fin_pure rfl
         ·rfl
         ·rfl
    ·first
     |(simp at hc; done)
     |(exfalso; simp at hc; omega)

theorem cUp8a (x : SchemaT) (k j : Int) (f : FieldT) (q : KindT) (hl : x.kinds.list.length < 4611686018427387904) (hf : fldO x k j = some f) (hq : x.kinds.list[k.toNat]? = some q) (hq2 : q.fields.list.length < 4611686018427387904) (hk : f.kind = 8) (hg : fldO x k (fIx f.up q.fields.list) = none) (H : Heap) : call LE 15 [.agg (eX x), .int .i64 k, .int .i64 j] H = some ((.int .i64 (-1)), H) :=
 call_pure rfl (by first | exact .inl rfl | exact .inr rfl) (by simp [V.pure, enc_pure eeK, enc_pure eeF, enc_pure eeL, enc_pure eeR, enc_pure eeS, enc_pure eeI, enc_pure eeP, V.pureL, eK, eF, eX, eL, eR]) (cUp8a_runs x k j f q hl hf hq hq2 hk hg) H

/-- diorama/typing.Up -/
theorem cUp8b_runs (x : SchemaT) (k j : Int) (f g : FieldT) (q : KindT) (hl : x.kinds.list.length < 4611686018427387904) (hf : fldO x k j = some f) (hq : x.kinds.list[k.toNat]? = some q) (hq2 : q.fields.list.length < 4611686018427387904) (hk : f.kind = 8) (hg : fldO x k (fIx f.up q.fields.list) = some g) (hk1 : g.kind = 1) : Runs LE 15 [.agg (eX x), .int .i64 k, .int .i64 j] (.int .i64 (if fIx f.up q.fields.list < j then ledTo x g.of_ k else -1)) := by
 obtain ⟨h0, h1, h2, _⟩ := fldO_of hf
 have hb : k.toNat < x.kinds.list.length := by omega
 have hqe : x.kinds.list[k.toNat] = q := by rw [List.getElem?_eq_getElem hb] at hq; injection hq
 have hA := cAt x k j
 have hF := cField q f.up hq2
 have hB := cAt x k (fIx f.up q.fields.list)
 have hU := cUp1 x k (fIx f.up q.fields.list) g hl hg hk1
 refine runs_W (m := 74) Tryz.func15 rfl rfl (Nat.le_of_ble_eq_true rfl) ?_
 simp only [alOf]
 apply w_seq
 apply w_reg [1, 2, 3] rfl; intro Q hQ
 simp (disch := omega) [wrap64, wrapU, leW, wrl, buildV, fillV, splice, hA, hf, hk, hqe, hF, hB, hg, hk1, hU]
 apply after_some rfl; apply hQ; clear hQ Q
 apply w_seq
 apply w_reg [1, 2, 3, 7, 8] rfl; intro Q hQ
 simp (disch := omega) [wrap64, wrapU, leW, wrl, buildV, fillV, splice, hA, hf, hk, hqe, hF, hB, hg, hk1, hU]
 apply after_some rfl; apply hQ; clear hQ Q
 apply w_seq
 apply w_block
 apply w_seq
 apply w_reg [1, 2, 3, 7, 20] rfl; intro Q hQ
 simp (disch := omega) [wrap64, wrapU, leW, wrl, buildV, fillV, splice, hA, hf, hk, hqe, hF, hB, hg, hk1, hU]
 apply after_some rfl; apply hQ; clear hQ Q
 apply w_cond _ rfl <;> intro hc
 ·first
  |(simp at hc; done)
  |(exfalso; simp at hc; omega)
 ·first
  |(simp at hc; done)
  |(exfalso; simp at hc; omega)
  |try simp [Int.natCast_inj] at hc
   apply w_seq
   apply w_reg [1, 2, 3, 7, 23] rfl; intro Q hQ
   simp (disch := omega) [wrap64, wrapU, leW, wrl, buildV, fillV, splice, hA, hf, hk, hqe, hF, hB, hg, hk1, hU]
   repeat' ((first | with_reducible apply after_guard | with_reducible apply after_guardD) <;> (intro hg; have hg' := hg; try simp at hg') <;> simp (disch := omega) [wrap64, wrapU, leW, wrl, buildV, fillV, splice, hA, hf, hk, hqe, hF, hB, hg, hk1, hU, *])
   all_goals (apply after_some rfl; apply hQ; clear hQ Q)
   all_goals
    skip
    apply w_cond _ rfl <;> intro hc
    ·first
     |(simp at hc; done)
     |(exfalso; simp at hc; omega)
     |try simp [Int.natCast_inj] at hc
      apply w_seq
      apply w_drw [1, 2, 3, 9] rfl rfl (by kernel_rfl) 0 rfl; intro Q hQ
      simp (disch := omega) [wrap64, wrapU, leW, wrl, buildV, fillV, splice, hA, hf, hk, hqe, hF, hB, hg, hk1, hU]
      apply after_some rfl; apply hQ; clear hQ Q
      apply w_seq
      apply w_seq
      apply w_reg [1, 2, 3, 9, 10, 11] rfl; intro Q hQ
      simp (disch := omega) [wrap64, wrapU, leW, wrl, buildV, fillV, splice, hA, hf, hk, hqe, hF, hB, hg, hk1, hU]
      apply after_some rfl; apply hQ; clear hQ Q
      apply w_seq
      apply w_reg [1, 3, 9, 57] rfl; intro Q hQ
      simp (disch := omega) [wrap64, wrapU, leW, wrl, buildV, fillV, splice, hA, hf, hk, hqe, hF, hB, hg, hk1, hU]
      repeat' ((first | with_reducible apply after_guard | with_reducible apply after_guardD) <;> (intro hg; have hg' := hg; try simp at hg') <;> simp (disch := omega) [wrap64, wrapU, leW, wrl, buildV, fillV, splice, hA, hf, hk, hqe, hF, hB, hg, hk1, hU, *])
      all_goals (apply after_some rfl; apply hQ; clear hQ Q)
      all_goals
       skip
       apply w_cond _ rfl <;> intro hc
       ·first
        |(simp at hc; done)
        |(exfalso; simp at hc; omega)
        |try simp [Int.natCast_inj] at hc
         apply w_seq
         apply w_reg [6] rfl; intro Q hQ
         simp (disch := omega) [wrap64, wrapU, leW, wrl, buildV, fillV, splice, hA, hf, hk, hqe, hF, hB, hg, hk1, hU]
         apply after_some rfl; apply hQ; clear hQ Q
         apply w_ret
         repeat (with_reducible (first | apply kseq_ret | apply kloop_ret | apply kcut_ret | apply kblock_ret))
         apply fin_pure rfl
         ·first
           |rfl
           |rw [if_pos (by assumption)]
           |rw [if_neg (by omega)]
         ·rfl
       ·first
        |(simp at hc; done)
        |(exfalso; simp at hc; omega)
        |try simp [Int.natCast_inj] at hc
         apply w_skip
         apply w_seq
         apply w_reg [6] rfl; intro Q hQ
         simp (disch := omega) [wrap64, wrapU, leW, wrl, buildV, fillV, splice, hA, hf, hk, hqe, hF, hB, hg, hk1, hU]
         apply after_some rfl; apply hQ; clear hQ Q
         apply w_ret
         repeat (with_reducible (first | apply kseq_ret | apply kloop_ret | apply kcut_ret | apply kblock_ret))
         apply fin_pure rfl
         ·first
           |rfl
           |rw [if_pos (by assumption)]
           |rw [if_neg (by omega)]
         ·rfl
    ·first
     |(simp at hc; done)
     |(exfalso; simp at hc; omega)

theorem cUp8b (x : SchemaT) (k j : Int) (f g : FieldT) (q : KindT) (hl : x.kinds.list.length < 4611686018427387904) (hf : fldO x k j = some f) (hq : x.kinds.list[k.toNat]? = some q) (hq2 : q.fields.list.length < 4611686018427387904) (hk : f.kind = 8) (hg : fldO x k (fIx f.up q.fields.list) = some g) (hk1 : g.kind = 1) (H : Heap) : call LE 15 [.agg (eX x), .int .i64 k, .int .i64 j] H = some ((.int .i64 (if fIx f.up q.fields.list < j then ledTo x g.of_ k else -1)), H) :=
 call_pure rfl (by first | exact .inl rfl | exact .inr rfl) (by simp [V.pure, enc_pure eeK, enc_pure eeF, enc_pure eeL, enc_pure eeR, enc_pure eeS, enc_pure eeI, enc_pure eeP, V.pureL, eK, eF, eX, eL, eR]) (cUp8b_runs x k j f g q hl hf hq hq2 hk hg hk1) H

/-- diorama/typing.Up -/
theorem cUp8c_runs (x : SchemaT) (k j : Int) (f g : FieldT) (q : KindT) (hl : x.kinds.list.length < 4611686018427387904) (hf : fldO x k j = some f) (hq : x.kinds.list[k.toNat]? = some q) (hq2 : q.fields.list.length < 4611686018427387904) (hk : f.kind = 8) (hg : fldO x k (fIx f.up q.fields.list) = some g) (hk1 : g.kind ≠ 1) : Runs LE 15 [.agg (eX x), .int .i64 k, .int .i64 j] (.int .i64 (-1)) := by
 obtain ⟨h0, h1, h2, _⟩ := fldO_of hf
 have hb : k.toNat < x.kinds.list.length := by omega
 have hqe : x.kinds.list[k.toNat] = q := by rw [List.getElem?_eq_getElem hb] at hq; injection hq
 have hA := cAt x k j
 have hF := cField q f.up hq2
 have hB := cAt x k (fIx f.up q.fields.list)
 refine runs_W (m := 74) Tryz.func15 rfl rfl (Nat.le_of_ble_eq_true rfl) ?_
 simp only [alOf]
 apply w_seq
 apply w_reg [1, 2, 3] rfl; intro Q hQ
 simp (disch := omega) [wrap64, wrapU, leW, wrl, buildV, fillV, splice, hA, hf, hk, hqe, hF, hB, hg, hk1]
 apply after_some rfl; apply hQ; clear hQ Q
 apply w_seq
 apply w_reg [1, 2, 3, 7, 8] rfl; intro Q hQ
 simp (disch := omega) [wrap64, wrapU, leW, wrl, buildV, fillV, splice, hA, hf, hk, hqe, hF, hB, hg, hk1]
 apply after_some rfl; apply hQ; clear hQ Q
 apply w_seq
 apply w_block
 apply w_seq
 apply w_reg [1, 2, 3, 7, 20] rfl; intro Q hQ
 simp (disch := omega) [wrap64, wrapU, leW, wrl, buildV, fillV, splice, hA, hf, hk, hqe, hF, hB, hg, hk1]
 apply after_some rfl; apply hQ; clear hQ Q
 apply w_cond _ rfl <;> intro hc
 ·first
  |(simp at hc; done)
  |(exfalso; simp at hc; omega)
 ·first
  |(simp at hc; done)
  |(exfalso; simp at hc; omega)
  |try simp [Int.natCast_inj] at hc
   apply w_seq
   apply w_reg [1, 2, 3, 7, 23] rfl; intro Q hQ
   simp (disch := omega) [wrap64, wrapU, leW, wrl, buildV, fillV, splice, hA, hf, hk, hqe, hF, hB, hg, hk1]
   repeat' ((first | with_reducible apply after_guard | with_reducible apply after_guardD) <;> (intro hg; have hg' := hg; try simp at hg') <;> simp (disch := omega) [wrap64, wrapU, leW, wrl, buildV, fillV, splice, hA, hf, hk, hqe, hF, hB, hg, hk1, *])
   all_goals (apply after_some rfl; apply hQ; clear hQ Q)
   all_goals
    skip
    apply w_cond _ rfl <;> intro hc
    ·first
     |(simp at hc; done)
     |(exfalso; simp at hc; omega)
     |try simp [Int.natCast_inj] at hc
      apply w_seq
      apply w_drw [1, 2, 3, 9] rfl rfl (by kernel_rfl) 0 rfl; intro Q hQ
      simp (disch := omega) [wrap64, wrapU, leW, wrl, buildV, fillV, splice, hA, hf, hk, hqe, hF, hB, hg, hk1]
      apply after_some rfl; apply hQ; clear hQ Q
      apply w_seq
      apply w_seq
      apply w_reg [1, 2, 3, 9, 10, 11] rfl; intro Q hQ
      simp (disch := omega) [wrap64, wrapU, leW, wrl, buildV, fillV, splice, hA, hf, hk, hqe, hF, hB, hg, hk1]
      apply after_some rfl; apply hQ; clear hQ Q
      apply w_seq
      apply w_reg [1, 3, 9, 57] rfl; intro Q hQ
      simp (disch := omega) [wrap64, wrapU, leW, wrl, buildV, fillV, splice, hA, hf, hk, hqe, hF, hB, hg, hk1]
      repeat' ((first | with_reducible apply after_guard | with_reducible apply after_guardD) <;> (intro hg; have hg' := hg; try simp at hg') <;> simp (disch := omega) [wrap64, wrapU, leW, wrl, buildV, fillV, splice, hA, hf, hk, hqe, hF, hB, hg, hk1, *])
      all_goals (apply after_some rfl; apply hQ; clear hQ Q)
      all_goals
       skip
       apply w_cond _ rfl <;> intro hc
       ·first
        |(simp at hc; done)
        |(exfalso; simp at hc; omega)
       ·first
        |(simp at hc; done)
        |(exfalso; simp at hc; omega)
        |try simp [Int.natCast_inj] at hc
         apply w_skip
         apply w_seq
         apply w_reg [6] rfl; intro Q hQ
         simp (disch := omega) [wrap64, wrapU, leW, wrl, buildV, fillV, splice, hA, hf, hk, hqe, hF, hB, hg, hk1]
         apply after_some rfl; apply hQ; clear hQ Q
         apply w_ret
         repeat (with_reducible (first | apply kseq_ret | apply kloop_ret | apply kcut_ret | apply kblock_ret))
         apply fin_pure rfl
         ·rfl
         ·rfl
    ·first
     |(simp at hc; done)
     |(exfalso; simp at hc; omega)

theorem cUp8c (x : SchemaT) (k j : Int) (f g : FieldT) (q : KindT) (hl : x.kinds.list.length < 4611686018427387904) (hf : fldO x k j = some f) (hq : x.kinds.list[k.toNat]? = some q) (hq2 : q.fields.list.length < 4611686018427387904) (hk : f.kind = 8) (hg : fldO x k (fIx f.up q.fields.list) = some g) (hk1 : g.kind ≠ 1) (H : Heap) : call LE 15 [.agg (eX x), .int .i64 k, .int .i64 j] H = some ((.int .i64 (-1)), H) :=
 call_pure rfl (by first | exact .inl rfl | exact .inr rfl) (by simp [V.pure, enc_pure eeK, enc_pure eeF, enc_pure eeL, enc_pure eeR, enc_pure eeS, enc_pure eeI, enc_pure eeP, V.pureL, eK, eF, eX, eL, eR]) (cUp8c_runs x k j f g q hl hf hq hq2 hk hg hk1) H

end Go.Ae.Zd

namespace Go.Ae.Zd
open Go.Proofs

theorem deF8 (f : FieldT) : (eF f).drop 8 = [] := rfl
theorem deK4 (f : KindT) : (eK f).drop 4 = [] := rfl
theorem deL3 (f : LifeT) : (eL f).drop 3 = [] := rfl
theorem deR5 (f : RuleT) : (eR f).drop 5 = [] := rfl
theorem deX4 (f : SchemaT) : (eX f).drop 4 = [] := rfl
attribute [simp] deF8 deK4 deL3 deR5 deX4

theorem ixF_range {α : Type} (p : α → Bool) : ∀ (l : List α) (i : Nat), ixF p i l = -1 ∨ ((i : Int) ≤ ixF p i l ∧ ixF p i l < i + l.length)
 |[], i => .inl rfl
 |a :: r, i => by
  simp only [ixF]
  split
  ·right; simp; omega
  ·rcases ixF_range p r (i + 1) with h | h
   ·exact .inl h
   ·right; simp only [List.length_cons]; omega

theorem fIx_none {x : SchemaT} {k : Int} {q : KindT} {s : Str} (h0 : 0 ≤ k) (hq : x.kinds.list[k.toNat]? = some q) (h : fldO x k (fIx s q.fields.list) = none) : fIx s q.fields.list < 0 := by
 rcases ixF_range (fun f : FieldT => decide (f.name = s)) q.fields.list 0 with h1 | h1
 ·show ixF _ 0 _ < 0
  omega
 ·exfalso
  unfold fldO at h
  have h2 : 0 ≤ fIx s q.fields.list := by
   show 0 ≤ ixF _ 0 _
   omega
  rw [if_pos ⟨h0, h2⟩, hq, Option.bind_some] at h
  have h3 := List.getElem?_eq_none_iff.1 h
  have h4 : fIx s q.fields.list < (0 : Nat) + q.fields.list.length := h1.2
  omega

/-- diorama/dioramaref10.Up -/
theorem rUp0_runs (x : SchemaT) (k j : Int) (hf : fldO x k j = none) : Runs LE 16 [.agg (eX x), .int .i64 k, .int .i64 j] (.int .i64 (-1)) := by
 have hA := rHas x k j
 refine runs_W (m := 67) Tryz.func16 rfl rfl (Nat.le_of_ble_eq_true rfl) ?_
 simp only [alOf]
 apply w_seq
 apply w_reg [1, 2, 3] rfl; intro Q hQ
 simp (disch := omega) [wrap64, wrapU, leW, wrl, buildV, fillV, splice, hA, hf]
 apply after_some rfl; apply hQ; clear hQ Q
 apply w_seq
 apply w_seq
 apply w_reg [1, 2, 3, 14] rfl; intro Q hQ
 simp (disch := omega) [wrap64, wrapU, leW, wrl, buildV, fillV, splice, hA, hf]
 apply after_some rfl; apply hQ; clear hQ Q
 apply w_cond _ rfl <;> intro hc
 ·first
  |(simp at hc; done)
  |(exfalso; simp at hc; omega)
  |try simp [Int.natCast_inj] at hc
   apply w_seq
   apply w_reg [6] rfl; intro Q hQ
   simp (disch := omega) [wrap64, wrapU, leW, wrl, buildV, fillV, splice, hA, hf]
   apply after_some rfl; apply hQ; clear hQ Q
   apply w_ret
   repeat (with_reducible (first | apply kseq_ret | apply kloop_ret | apply kcut_ret | apply kblock_ret))
   apply fin_pure rfl
   ·rfl
   ·rfl
 ·first
  |(simp at hc; done)
  |(exfalso; simp at hc; omega)

theorem rUp0 (x : SchemaT) (k j : Int) (hf : fldO x k j = none) (H : Heap) : call LE 16 [.agg (eX x), .int .i64 k, .int .i64 j] H = some ((.int .i64 (-1)), H) :=
 call_pure rfl (by first | exact .inl rfl | exact .inr rfl) (by simp [V.pure, enc_pure eeK, enc_pure eeF, enc_pure eeL, enc_pure eeR, enc_pure eeS, enc_pure eeI, enc_pure eeP, V.pureL, eK, eF, eX, eL, eR]) (rUp0_runs x k j hf) H

/-- diorama/dioramaref10.Up -/
theorem rUp1_runs (x : SchemaT) (k j : Int) (f : FieldT) (hl : x.kinds.list.length < 4611686018427387904) (hf : fldO x k j = some f) (hk : f.kind = 1) : Runs LE 16 [.agg (eX x), .int .i64 k, .int .i64 j] (.int .i64 (ledTo x f.of_ k)) := by
 obtain ⟨h0, h1, h2, q', hq, h3, h4⟩ := fldO_of hf
 have hb : k.toNat < x.kinds.list.length := by omega
 have hqe : x.kinds.list[k.toNat] = q' := by rw [List.getElem?_eq_getElem hb] at hq; injection hq
 have hb2 : j.toNat < q'.fields.list.length := by omega
 have hfe : q'.fields.list[j.toNat] = f := by rw [List.getElem?_eq_getElem hb2] at h4; injection h4
 have hA := rHas x k j
 have hK := rKind x f.of_ hl
 refine runs_W (m := 67) Tryz.func16 rfl rfl (Nat.le_of_ble_eq_true rfl) ?_
 simp only [alOf]
 apply w_seq
 apply w_reg [1, 2, 3] rfl; intro Q hQ
 simp (disch := omega) [wrap64, wrapU, leW, wrl, buildV, fillV, splice, hA, hf, hk, hK, hqe, hfe]
 apply after_some rfl; apply hQ; clear hQ Q
 apply w_seq
 apply w_seq
 apply w_reg [1, 2, 3, 14] rfl; intro Q hQ
 simp (disch := omega) [wrap64, wrapU, leW, wrl, buildV, fillV, splice, hA, hf, hk, hK, hqe, hfe]
 apply after_some rfl; apply hQ; clear hQ Q
 apply w_cond _ rfl <;> intro hc
 ·first
  |(simp at hc; done)
  |(exfalso; simp at hc; omega)
 ·first
  |(simp at hc; done)
  |(exfalso; simp at hc; omega)
  |try simp [Int.natCast_inj] at hc
   apply w_skip
   apply w_seq
   apply w_reg [1, 2, 3, 7] rfl; intro Q hQ
   simp (disch := omega) [wrap64, wrapU, leW, wrl, buildV, fillV, splice, hA, hf, hk, hK, hqe, hfe]
   apply after_some rfl; apply hQ; clear hQ Q
   apply w_seq
   apply w_seq
   apply w_reg [1, 2, 3, 7, 31] rfl; intro Q hQ
   simp (disch := omega) [wrap64, wrapU, leW, wrl, buildV, fillV, splice, hA, hf, hk, hK, hqe, hfe]
   repeat' ((first | with_reducible apply after_guard | with_reducible apply after_guardD) <;> (intro hg; have hg' := hg; try simp at hg') <;> simp (disch := omega) [wrap64, wrapU, leW, wrl, buildV, fillV, splice, hA, hf, hk, hK, hqe, hfe, *])
   all_goals (apply after_some rfl; apply hQ; clear hQ Q)
   all_goals
    skip
    apply w_cond _ rfl <;> intro hc
    ·first
     |(simp at hc; done)
     |(exfalso; simp at hc; omega)
    ·first
     |(simp at hc; done)
     |(exfalso; simp at hc; omega)
     |try simp [Int.natCast_inj] at hc
      apply w_skip
      apply w_seq
      apply w_seq
      apply w_reg [1, 3, 7, 58] rfl; intro Q hQ
      simp (disch := omega) [wrap64, wrapU, leW, wrl, buildV, fillV, splice, hA, hf, hk, hK, hqe, hfe]
      apply after_some rfl; apply hQ; clear hQ Q
      apply w_cond _ rfl <;> intro hc
      ·first
       |(simp at hc; done)
       |(exfalso; simp at hc; omega)
      ·first
       |(simp at hc; done)
       |(exfalso; simp at hc; omega)
       |try simp [Int.natCast_inj] at hc
        apply w_skip
        apply w_seq
        apply w_reg [1, 9] rfl; intro Q hQ
        simp (disch := omega) [wrap64, wrapU, leW, wrl, buildV, fillV, splice, hA, hf, hk, hK, hqe, hfe]
        apply after_some rfl; apply hQ; clear hQ Q
        apply w_seq
        apply w_seq
        apply w_reg [9, 65] rfl; intro Q hQ
        simp (disch := omega) [wrap64, wrapU, leW, wrl, buildV, fillV, splice, hA, hf, hk, hK, hqe, hfe]
        apply after_some rfl; apply hQ; clear hQ Q
        apply w_cond _ rfl <;> intro hc
        ·first
         |(simp at hc; done)
         |(exfalso; simp at hc; omega)
         |try simp [Int.natCast_inj] at hc
          apply w_seq
          apply w_reg [6] rfl; intro Q hQ
          simp (disch := omega) [wrap64, wrapU, leW, wrl, buildV, fillV, splice, hA, hf, hk, hK, hqe, hfe]
          apply after_some rfl; apply hQ; clear hQ Q
          apply w_ret
          repeat (with_reducible (first | apply kseq_ret | apply kloop_ret | apply kcut_ret | apply kblock_ret))
          apply fin_pure rfl
          ·unfold ledTo
           first
            |rw [if_pos (by omega)]
            |rw [if_neg (by omega)]
          ·rfl
        ·first
         |(simp at hc; done)
         |(exfalso; simp at hc; omega)
         |try simp [Int.natCast_inj] at hc
          apply w_skip
          apply w_seq
          apply w_reg [6] rfl; intro Q hQ
          simp (disch := omega) [wrap64, wrapU, leW, wrl, buildV, fillV, splice, hA, hf, hk, hK, hqe, hfe]
          apply after_some rfl; apply hQ; clear hQ Q
          apply w_ret
          repeat (with_reducible (first | apply kseq_ret | apply kloop_ret | apply kcut_ret | apply kblock_ret))
          apply fin_pure rfl
          ·unfold ledTo
           first
            |rw [if_pos (by omega)]
            |rw [if_neg (by omega)]
          ·rfl

theorem rUp1 (x : SchemaT) (k j : Int) (f : FieldT) (hl : x.kinds.list.length < 4611686018427387904) (hf : fldO x k j = some f) (hk : f.kind = 1) (H : Heap) : call LE 16 [.agg (eX x), .int .i64 k, .int .i64 j] H = some ((.int .i64 (ledTo x f.of_ k)), H) :=
 call_pure rfl (by first | exact .inl rfl | exact .inr rfl) (by simp [V.pure, enc_pure eeK, enc_pure eeF, enc_pure eeL, enc_pure eeR, enc_pure eeS, enc_pure eeI, enc_pure eeP, V.pureL, eK, eF, eX, eL, eR]) (rUp1_runs x k j f hl hf hk) H

/-- diorama/dioramaref10.Up -/
theorem rUp2_runs (x : SchemaT) (k j : Int) (f : FieldT) (hf : fldO x k j = some f) (hk : f.kind ≠ 1 ∧ f.kind ≠ 7 ∧ f.kind ≠ 8) : Runs LE 16 [.agg (eX x), .int .i64 k, .int .i64 j] (.int .i64 (-1)) := by
 obtain ⟨h0, h1, h2, q', hq, h3, h4⟩ := fldO_of hf
 have hb : k.toNat < x.kinds.list.length := by omega
 have hqe : x.kinds.list[k.toNat] = q' := by rw [List.getElem?_eq_getElem hb] at hq; injection hq
 have hb2 : j.toNat < q'.fields.list.length := by omega
 have hfe : q'.fields.list[j.toNat] = f := by rw [List.getElem?_eq_getElem hb2] at h4; injection h4
 have hA := rHas x k j
 obtain ⟨hk1, hk7, hk8⟩ := hk
 refine runs_W (m := 67) Tryz.func16 rfl rfl (Nat.le_of_ble_eq_true rfl) ?_
 simp only [alOf]
 apply w_seq
 apply w_reg [1, 2, 3] rfl; intro Q hQ
 simp (disch := omega) [wrap64, wrapU, leW, wrl, buildV, fillV, splice, hA, hf, hk1, hk7, hk8, hqe, hfe]
 apply after_some rfl; apply hQ; clear hQ Q
 apply w_seq
 apply w_seq
 apply w_reg [1, 2, 3, 14] rfl; intro Q hQ
 simp (disch := omega) [wrap64, wrapU, leW, wrl, buildV, fillV, splice, hA, hf, hk1, hk7, hk8, hqe, hfe]
 apply after_some rfl; apply hQ; clear hQ Q
 apply w_cond _ rfl <;> intro hc
 ·first
  |(simp at hc; done)
  |(exfalso; simp at hc; omega)
 ·first
  |(simp at hc; done)
  |(exfalso; simp at hc; omega)
  |try simp [Int.natCast_inj] at hc
   apply w_skip
   apply w_seq
   apply w_reg [1, 2, 3, 7] rfl; intro Q hQ
   simp (disch := omega) [wrap64, wrapU, leW, wrl, buildV, fillV, splice, hA, hf, hk1, hk7, hk8, hqe, hfe]
   apply after_some rfl; apply hQ; clear hQ Q
   apply w_seq
   apply w_seq
   apply w_reg [1, 2, 3, 7, 31] rfl; intro Q hQ
   simp (disch := omega) [wrap64, wrapU, leW, wrl, buildV, fillV, splice, hA, hf, hk1, hk7, hk8, hqe, hfe]
   repeat' ((first | with_reducible apply after_guard | with_reducible apply after_guardD) <;> (intro hg; have hg' := hg; try simp at hg') <;> simp (disch := omega) [wrap64, wrapU, leW, wrl, buildV, fillV, splice, hA, hf, hk1, hk7, hk8, hqe, hfe, *])
   all_goals (apply after_some rfl; apply hQ; clear hQ Q)
   all_goals
    skip
    apply w_cond _ rfl <;> intro hc
    ·first
     |(simp at hc; done)
     |(exfalso; simp at hc; omega)
    ·first
     |(simp at hc; done)
     |(exfalso; simp at hc; omega)
     |try simp [Int.natCast_inj] at hc
      apply w_skip
      apply w_seq
      apply w_seq
      apply w_reg [1, 3, 7, 58] rfl; intro Q hQ
      simp (disch := omega) [wrap64, wrapU, leW, wrl, buildV, fillV, splice, hA, hf, hk1, hk7, hk8, hqe, hfe]
      apply after_some rfl; apply hQ; clear hQ Q
      apply w_cond _ rfl <;> intro hc
      ·first
       |(simp at hc; done)
       |(exfalso; simp at hc; omega)
       |try simp [Int.natCast_inj] at hc
        apply w_seq
        apply w_reg [6] rfl; intro Q hQ
        simp (disch := omega) [wrap64, wrapU, leW, wrl, buildV, fillV, splice, hA, hf, hk1, hk7, hk8, hqe, hfe]
        apply after_some rfl; apply hQ; clear hQ Q
        apply w_ret
        repeat (with_reducible (first | apply kseq_ret | apply kloop_ret | apply kcut_ret | apply kblock_ret))
        apply fin_pure rfl
        ·rfl
        ·rfl
      ·first
       |(simp at hc; done)
       |(exfalso; simp at hc; omega)

theorem rUp2 (x : SchemaT) (k j : Int) (f : FieldT) (hf : fldO x k j = some f) (hk : f.kind ≠ 1 ∧ f.kind ≠ 7 ∧ f.kind ≠ 8) (H : Heap) : call LE 16 [.agg (eX x), .int .i64 k, .int .i64 j] H = some ((.int .i64 (-1)), H) :=
 call_pure rfl (by first | exact .inl rfl | exact .inr rfl) (by simp [V.pure, enc_pure eeK, enc_pure eeF, enc_pure eeL, enc_pure eeR, enc_pure eeS, enc_pure eeI, enc_pure eeP, V.pureL, eK, eF, eX, eL, eR]) (rUp2_runs x k j f hf hk) H

/-- diorama/dioramaref10.Up -/
theorem rUp7a_runs (x : SchemaT) (k j : Int) (f : FieldT) (q : KindT) (hl : x.kinds.list.length < 4611686018427387904) (hf : fldO x k j = some f) (hq : x.kinds.list[k.toNat]? = some q) (hq2 : q.fields.list.length < 4611686018427387904) (hk : f.kind = 7) (hg : fldO x k (fIx f.up q.fields.list) = none) : Runs LE 16 [.agg (eX x), .int .i64 k, .int .i64 j] (.int .i64 (-1)) := by
 obtain ⟨h0, h1, h2, q', hq', h3, h4⟩ := fldO_of hf
 obtain rfl : q = q' := by rw [hq] at hq'; injection hq'
 have hb : k.toNat < x.kinds.list.length := by omega
 have hqe : x.kinds.list[k.toNat] = q := by rw [List.getElem?_eq_getElem hb] at hq; injection hq
 have hb2 : j.toNat < q.fields.list.length := by omega
 have hfe : q.fields.list[j.toNat] = f := by rw [List.getElem?_eq_getElem hb2] at h4; injection h4
 have hA := rHas x k j
 have hF := rField q f.up hq2
 have hn := fIx_none h0 hq hg
 refine runs_W (m := 67) Tryz.func16 rfl rfl (Nat.le_of_ble_eq_true rfl) ?_
 simp only [alOf]
 apply w_seq
 apply w_reg [1, 2, 3] rfl; intro Q hQ
 simp (disch := omega) [wrap64, wrapU, leW, wrl, buildV, fillV, splice, hA, hf, hk, hqe, hfe, hF, hn]
 apply after_some rfl; apply hQ; clear hQ Q
 apply w_seq
 apply w_seq
 apply w_reg [1, 2, 3, 14] rfl; intro Q hQ
 simp (disch := omega) [wrap64, wrapU, leW, wrl, buildV, fillV, splice, hA, hf, hk, hqe, hfe, hF, hn]
 apply after_some rfl; apply hQ; clear hQ Q
 apply w_cond _ rfl <;> intro hc
 ·first
  |(simp at hc; done)
  |(exfalso; simp at hc; omega)
 ·first
  |(simp at hc; done)
  |(exfalso; simp at hc; omega)
  |try simp [Int.natCast_inj] at hc
   apply w_skip
   apply w_seq
   apply w_reg [1, 2, 3, 7] rfl; intro Q hQ
   simp (disch := omega) [wrap64, wrapU, leW, wrl, buildV, fillV, splice, hA, hf, hk, hqe, hfe, hF, hn]
   apply after_some rfl; apply hQ; clear hQ Q
   apply w_seq
   apply w_seq
   apply w_reg [1, 2, 3, 7, 31] rfl; intro Q hQ
   simp (disch := omega) [wrap64, wrapU, leW, wrl, buildV, fillV, splice, hA, hf, hk, hqe, hfe, hF, hn]
   repeat' ((first | with_reducible apply after_guard | with_reducible apply after_guardD) <;> (intro hg; have hg' := hg; try simp at hg') <;> simp (disch := omega) [wrap64, wrapU, leW, wrl, buildV, fillV, splice, hA, hf, hk, hqe, hfe, hF, hn, *])
   all_goals (apply after_some rfl; apply hQ; clear hQ Q)
   all_goals
    skip
    apply w_cond _ rfl <;> intro hc
    ·first
     |(simp at hc; done)
     |(exfalso; simp at hc; omega)
     |try simp [Int.natCast_inj] at hc
      apply w_seq
      apply w_drw [1, 2, 3, 7, 8] rfl rfl (by kernel_rfl) 0 rfl; intro Q hQ
      simp (disch := omega) [wrap64, wrapU, leW, wrl, buildV, fillV, splice, hA, hf, hk, hqe, hfe, hF, hn]
      apply after_some rfl; apply hQ; clear hQ Q
      apply w_seq
      apply w_seq
      apply w_reg [1, 3, 7, 8, 46] rfl; intro Q hQ
      simp (disch := omega) [wrap64, wrapU, leW, wrl, buildV, fillV, splice, hA, hf, hk, hqe, hfe, hF, hn]
      repeat' ((first | with_reducible apply after_guard | with_reducible apply after_guardD) <;> (intro hg; have hg' := hg; try simp at hg') <;> simp (disch := omega) [wrap64, wrapU, leW, wrl, buildV, fillV, splice, hA, hf, hk, hqe, hfe, hF, hn, *])
      all_goals (apply after_some rfl; apply hQ; clear hQ Q)
      all_goals
       skip
       apply w_cond _ rfl <;> intro hc
       ·first
        |(simp at hc; done)
        |(exfalso; simp at hc; omega)
        |try simp [Int.natCast_inj] at hc
         apply w_seq
         apply w_reg [6] rfl; intro Q hQ
         simp (disch := omega) [wrap64, wrapU, leW, wrl, buildV, fillV, splice, hA, hf, hk, hqe, hfe, hF, hn]
         apply after_some rfl; apply hQ; clear hQ Q
         apply w_ret
         repeat (with_reducible (first | apply kseq_ret | apply kloop_ret | apply kcut_ret | apply kblock_ret))
         apply fin_pure rfl
         ·rfl
         ·rfl
       ·first
        |(simp at hc; done)
        |(exfalso; simp at hc; omega)
    ·first
     |(simp at hc; done)
     |(exfalso; simp at hc; omega)

theorem rUp7a (x : SchemaT) (k j : Int) (f : FieldT) (q : KindT) (hl : x.kinds.list.length < 4611686018427387904) (hf : fldO x k j = some f) (hq : x.kinds.list[k.toNat]? = some q) (hq2 : q.fields.list.length < 4611686018427387904) (hk : f.kind = 7) (hg : fldO x k (fIx f.up q.fields.list) = none) (H : Heap) : call LE 16 [.agg (eX x), .int .i64 k, .int .i64 j] H = some ((.int .i64 (-1)), H) :=
 call_pure rfl (by first | exact .inl rfl | exact .inr rfl) (by simp [V.pure, enc_pure eeK, enc_pure eeF, enc_pure eeL, enc_pure eeR, enc_pure eeS, enc_pure eeI, enc_pure eeP, V.pureL, eK, eF, eX, eL, eR]) (rUp7a_runs x k j f q hl hf hq hq2 hk hg) H

/-- diorama/dioramaref10.Up -/
theorem rUp7b_runs (x : SchemaT) (k j : Int) (f g : FieldT) (q : KindT) (hl : x.kinds.list.length < 4611686018427387904) (hf : fldO x k j = some f) (hq : x.kinds.list[k.toNat]? = some q) (hq2 : q.fields.list.length < 4611686018427387904) (hk : f.kind = 7) (hg : fldO x k (fIx f.up q.fields.list) = some g) (hk1 : g.kind = 1) : Runs LE 16 [.agg (eX x), .int .i64 k, .int .i64 j] (.int .i64 (if fIx f.up q.fields.list < j then ledTo x g.of_ k else -1)) := by
 obtain ⟨h0, h1, h2, q', hq', h3, h4⟩ := fldO_of hf
 obtain rfl : q = q' := by rw [hq] at hq'; injection hq'
 have hb : k.toNat < x.kinds.list.length := by omega
 have hqe : x.kinds.list[k.toNat] = q := by rw [List.getElem?_eq_getElem hb] at hq; injection hq
 have hb2 : j.toNat < q.fields.list.length := by omega
 have hfe : q.fields.list[j.toNat] = f := by rw [List.getElem?_eq_getElem hb2] at h4; injection h4
 have hA := rHas x k j
 have hF := rField q f.up hq2
 obtain ⟨_, _, g2, q2, gq, g3, g4⟩ := fldO_of hg
 obtain rfl : q = q2 := by rw [hq] at gq; injection gq
 have gb : (fIx f.up q.fields.list).toNat < q.fields.list.length := by omega
 have hge : q.fields.list[(fIx f.up q.fields.list).toNat] = g := by rw [List.getElem?_eq_getElem gb] at g4; injection g4
 have hK := rKind x g.of_ hl
 refine runs_W (m := 67) Tryz.func16 rfl rfl (Nat.le_of_ble_eq_true rfl) ?_
 simp only [alOf]
 apply w_seq
 apply w_reg [1, 2, 3] rfl; intro Q hQ
 simp (disch := omega) [wrap64, wrapU, leW, wrl, buildV, fillV, splice, hA, hf, hk, hqe, hfe, hge, hF, hg, hk1, hK]
 apply after_some rfl; apply hQ; clear hQ Q
 apply w_seq
 apply w_seq
 apply w_reg [1, 2, 3, 14] rfl; intro Q hQ
 simp (disch := omega) [wrap64, wrapU, leW, wrl, buildV, fillV, splice, hA, hf, hk, hqe, hfe, hge, hF, hg, hk1, hK]
 apply after_some rfl; apply hQ; clear hQ Q
 apply w_cond _ rfl <;> intro hc
 ·first
  |(simp at hc; done)
  |(exfalso; simp at hc; omega)
 ·first
  |(simp at hc; done)
  |(exfalso; simp at hc; omega)
  |try simp [Int.natCast_inj] at hc
   apply w_skip
   apply w_seq
   apply w_reg [1, 2, 3, 7] rfl; intro Q hQ
   simp (disch := omega) [wrap64, wrapU, leW, wrl, buildV, fillV, splice, hA, hf, hk, hqe, hfe, hge, hF, hg, hk1, hK]
   apply after_some rfl; apply hQ; clear hQ Q
   apply w_seq
   apply w_seq
   apply w_reg [1, 2, 3, 7, 31] rfl; intro Q hQ
   simp (disch := omega) [wrap64, wrapU, leW, wrl, buildV, fillV, splice, hA, hf, hk, hqe, hfe, hge, hF, hg, hk1, hK]
   repeat' ((first | with_reducible apply after_guard | with_reducible apply after_guardD) <;> (intro hg; have hg' := hg; try simp at hg') <;> simp (disch := omega) [wrap64, wrapU, leW, wrl, buildV, fillV, splice, hA, hf, hk, hqe, hfe, hge, hF, hg, hk1, hK, *])
   all_goals (apply after_some rfl; apply hQ; clear hQ Q)
   all_goals
    skip
    apply w_cond _ rfl <;> intro hc
    ·first
     |(simp at hc; done)
     |(exfalso; simp at hc; omega)
     |try simp [Int.natCast_inj] at hc
      apply w_seq
      apply w_drw [1, 2, 3, 7, 8] rfl rfl (by kernel_rfl) 0 rfl; intro Q hQ
      simp (disch := omega) [wrap64, wrapU, leW, wrl, buildV, fillV, splice, hA, hf, hk, hqe, hfe, hge, hF, hg, hk1, hK]
      apply after_some rfl; apply hQ; clear hQ Q
      apply w_seq
      apply w_seq
      apply w_reg [1, 3, 7, 8, 46] rfl; intro Q hQ
      simp (disch := omega) [wrap64, wrapU, leW, wrl, buildV, fillV, splice, hA, hf, hk, hqe, hfe, hge, hF, hg, hk1, hK]
      repeat' ((first | with_reducible apply after_guard | with_reducible apply after_guardD) <;> (intro hg; have hg' := hg; try simp at hg') <;> simp (disch := omega) [wrap64, wrapU, leW, wrl, buildV, fillV, splice, hA, hf, hk, hqe, hfe, hge, hF, hg, hk1, hK, *])
      all_goals (apply after_some rfl; apply hQ; clear hQ Q)
      all_goals
       skip
       apply w_cond _ rfl <;> intro hc
       ·first
        |(simp at hc; done)
        |(exfalso; simp at hc; omega)
        |try simp [Int.natCast_inj] at hc
         apply w_seq
         apply w_reg [6] rfl; intro Q hQ
         simp (disch := omega) [wrap64, wrapU, leW, wrl, buildV, fillV, splice, hA, hf, hk, hqe, hfe, hge, hF, hg, hk1, hK]
         apply after_some rfl; apply hQ; clear hQ Q
         apply w_ret
         repeat (with_reducible (first | apply kseq_ret | apply kloop_ret | apply kcut_ret | apply kblock_ret))
         apply fin_pure rfl
         ·first
           |rfl
           |(rw [if_pos (by omega)]; unfold ledTo; first | rw [if_pos (by omega)] | rw [if_neg (by omega)])
           |rw [if_neg (by omega)]
         ·rfl
       ·first
        |(simp at hc; done)
        |(exfalso; simp at hc; omega)
        |try simp [Int.natCast_inj] at hc
         apply w_skip
         apply w_reg [1, 3, 7] rfl; intro Q hQ
         simp (disch := omega) [wrap64, wrapU, leW, wrl, buildV, fillV, splice, hA, hf, hk, hqe, hfe, hge, hF, hg, hk1, hK]
         apply after_some rfl; apply hQ; clear hQ Q
         apply w_seq
         apply w_seq
         apply w_reg [1, 3, 7, 58] rfl; intro Q hQ
         simp (disch := omega) [wrap64, wrapU, leW, wrl, buildV, fillV, splice, hA, hf, hk, hqe, hfe, hge, hF, hg, hk1, hK]
         apply after_some rfl; apply hQ; clear hQ Q
         apply w_cond _ rfl <;> intro hc
         ·first
          |(simp at hc; done)
          |(exfalso; simp at hc; omega)
         ·first
          |(simp at hc; done)
          |(exfalso; simp at hc; omega)
          |try simp [Int.natCast_inj] at hc
           apply w_skip
           apply w_seq
           apply w_reg [1, 9] rfl; intro Q hQ
           simp (disch := omega) [wrap64, wrapU, leW, wrl, buildV, fillV, splice, hA, hf, hk, hqe, hfe, hge, hF, hg, hk1, hK]
           apply after_some rfl; apply hQ; clear hQ Q
           apply w_seq
           apply w_seq
           apply w_reg [9, 65] rfl; intro Q hQ
           simp (disch := omega) [wrap64, wrapU, leW, wrl, buildV, fillV, splice, hA, hf, hk, hqe, hfe, hge, hF, hg, hk1, hK]
           apply after_some rfl; apply hQ; clear hQ Q
           apply w_cond _ rfl <;> intro hc
           ·first
            |(simp at hc; done)
            |(exfalso; simp at hc; omega)
            |try simp [Int.natCast_inj] at hc
             apply w_seq
             apply w_reg [6] rfl; intro Q hQ
             simp (disch := omega) [wrap64, wrapU, leW, wrl, buildV, fillV, splice, hA, hf, hk, hqe, hfe, hge, hF, hg, hk1, hK]
             apply after_some rfl; apply hQ; clear hQ Q
             apply w_ret
             repeat (with_reducible (first | apply kseq_ret | apply kloop_ret | apply kcut_ret | apply kblock_ret))
             apply fin_pure rfl
             ·first
               |rfl
               |(rw [if_pos (by omega)]; unfold ledTo; first | rw [if_pos (by omega)] | rw [if_neg (by omega)])
               |rw [if_neg (by omega)]
             ·rfl
           ·first
            |(simp at hc; done)
            |(exfalso; simp at hc; omega)
            |try simp [Int.natCast_inj] at hc
             apply w_skip
             apply w_seq
             apply w_reg [6] rfl; intro Q hQ
             simp (disch := omega) [wrap64, wrapU, leW, wrl, buildV, fillV, splice, hA, hf, hk, hqe, hfe, hge, hF, hg, hk1, hK]
             apply after_some rfl; apply hQ; clear hQ Q
             apply w_ret
             repeat (with_reducible (first | apply kseq_ret | apply kloop_ret | apply kcut_ret | apply kblock_ret))
             apply fin_pure rfl
             ·first
               |rfl
               |(rw [if_pos (by omega)]; unfold ledTo; first | rw [if_pos (by omega)] | rw [if_neg (by omega)])
               |rw [if_neg (by omega)]
             ·rfl
    ·first
     |(simp at hc; done)
     |(exfalso; simp at hc; omega)

theorem rUp7b (x : SchemaT) (k j : Int) (f g : FieldT) (q : KindT) (hl : x.kinds.list.length < 4611686018427387904) (hf : fldO x k j = some f) (hq : x.kinds.list[k.toNat]? = some q) (hq2 : q.fields.list.length < 4611686018427387904) (hk : f.kind = 7) (hg : fldO x k (fIx f.up q.fields.list) = some g) (hk1 : g.kind = 1) (H : Heap) : call LE 16 [.agg (eX x), .int .i64 k, .int .i64 j] H = some ((.int .i64 (if fIx f.up q.fields.list < j then ledTo x g.of_ k else -1)), H) :=
 call_pure rfl (by first | exact .inl rfl | exact .inr rfl) (by simp [V.pure, enc_pure eeK, enc_pure eeF, enc_pure eeL, enc_pure eeR, enc_pure eeS, enc_pure eeI, enc_pure eeP, V.pureL, eK, eF, eX, eL, eR]) (rUp7b_runs x k j f g q hl hf hq hq2 hk hg hk1) H

/-- diorama/dioramaref10.Up -/
theorem rUp7c_runs (x : SchemaT) (k j : Int) (f g : FieldT) (q : KindT) (hl : x.kinds.list.length < 4611686018427387904) (hf : fldO x k j = some f) (hq : x.kinds.list[k.toNat]? = some q) (hq2 : q.fields.list.length < 4611686018427387904) (hk : f.kind = 7) (hg : fldO x k (fIx f.up q.fields.list) = some g) (hk1 : g.kind ≠ 1) : Runs LE 16 [.agg (eX x), .int .i64 k, .int .i64 j] (.int .i64 (-1)) := by
 obtain ⟨h0, h1, h2, q', hq', h3, h4⟩ := fldO_of hf
 obtain rfl : q = q' := by rw [hq] at hq'; injection hq'
 have hb : k.toNat < x.kinds.list.length := by omega
 have hqe : x.kinds.list[k.toNat] = q := by rw [List.getElem?_eq_getElem hb] at hq; injection hq
 have hb2 : j.toNat < q.fields.list.length := by omega
 have hfe : q.fields.list[j.toNat] = f := by rw [List.getElem?_eq_getElem hb2] at h4; injection h4
 have hA := rHas x k j
 have hF := rField q f.up hq2
 obtain ⟨_, _, g2, q2, gq, g3, g4⟩ := fldO_of hg
 obtain rfl : q = q2 := by rw [hq] at gq; injection gq
 have gb : (fIx f.up q.fields.list).toNat < q.fields.list.length := by omega
 have hge : q.fields.list[(fIx f.up q.fields.list).toNat] = g := by rw [List.getElem?_eq_getElem gb] at g4; injection g4
 refine runs_W (m := 67) Tryz.func16 rfl rfl (Nat.le_of_ble_eq_true rfl) ?_
 simp only [alOf]
 apply w_seq
 apply w_reg [1, 2, 3] rfl; intro Q hQ
 simp (disch := omega) [wrap64, wrapU, leW, wrl, buildV, fillV, splice, hA, hf, hk, hqe, hfe, hge, hF, hg, hk1]
 apply after_some rfl; apply hQ; clear hQ Q
 apply w_seq
 apply w_seq
 apply w_reg [1, 2, 3, 14] rfl; intro Q hQ
 simp (disch := omega) [wrap64, wrapU, leW, wrl, buildV, fillV, splice, hA, hf, hk, hqe, hfe, hge, hF, hg, hk1]
 apply after_some rfl; apply hQ; clear hQ Q
 apply w_cond _ rfl <;> intro hc
 ·first
  |(simp at hc; done)
  |(exfalso; simp at hc; omega)
 ·first
  |(simp at hc; done)
  |(exfalso; simp at hc; omega)
  |try simp [Int.natCast_inj] at hc
   apply w_skip
   apply w_seq
   apply w_reg [1, 2, 3, 7] rfl; intro Q hQ
   simp (disch := omega) [wrap64, wrapU, leW, wrl, buildV, fillV, splice, hA, hf, hk, hqe, hfe, hge, hF, hg, hk1]
   apply after_some rfl; apply hQ; clear hQ Q
   apply w_seq
   apply w_seq
   apply w_reg [1, 2, 3, 7, 31] rfl; intro Q hQ
   simp (disch := omega) [wrap64, wrapU, leW, wrl, buildV, fillV, splice, hA, hf, hk, hqe, hfe, hge, hF, hg, hk1]
   repeat' ((first | with_reducible apply after_guard | with_reducible apply after_guardD) <;> (intro hg; have hg' := hg; try simp at hg') <;> simp (disch := omega) [wrap64, wrapU, leW, wrl, buildV, fillV, splice, hA, hf, hk, hqe, hfe, hge, hF, hg, hk1, *])
   all_goals (apply after_some rfl; apply hQ; clear hQ Q)
   all_goals
    skip
    apply w_cond _ rfl <;> intro hc
    ·first
     |(simp at hc; done)
     |(exfalso; simp at hc; omega)
     |try simp [Int.natCast_inj] at hc
      apply w_seq
      apply w_drw [1, 2, 3, 7, 8] rfl rfl (by kernel_rfl) 0 rfl; intro Q hQ
      simp (disch := omega) [wrap64, wrapU, leW, wrl, buildV, fillV, splice, hA, hf, hk, hqe, hfe, hge, hF, hg, hk1]
      apply after_some rfl; apply hQ; clear hQ Q
      apply w_seq
      apply w_seq
      apply w_reg [1, 3, 7, 8, 46] rfl; intro Q hQ
      simp (disch := omega) [wrap64, wrapU, leW, wrl, buildV, fillV, splice, hA, hf, hk, hqe, hfe, hge, hF, hg, hk1]
      repeat' ((first | with_reducible apply after_guard | with_reducible apply after_guardD) <;> (intro hg; have hg' := hg; try simp at hg') <;> simp (disch := omega) [wrap64, wrapU, leW, wrl, buildV, fillV, splice, hA, hf, hk, hqe, hfe, hge, hF, hg, hk1, *])
      all_goals (apply after_some rfl; apply hQ; clear hQ Q)
      all_goals
       skip
       apply w_cond _ rfl <;> intro hc
       ·first
        |(simp at hc; done)
        |(exfalso; simp at hc; omega)
        |try simp [Int.natCast_inj] at hc
         apply w_seq
         apply w_reg [6] rfl; intro Q hQ
         simp (disch := omega) [wrap64, wrapU, leW, wrl, buildV, fillV, splice, hA, hf, hk, hqe, hfe, hge, hF, hg, hk1]
         apply after_some rfl; apply hQ; clear hQ Q
         apply w_ret
         repeat (with_reducible (first | apply kseq_ret | apply kloop_ret | apply kcut_ret | apply kblock_ret))
         apply fin_pure rfl
         ·rfl
         ·rfl
       ·first
        |(simp at hc; done)
        |(exfalso; simp at hc; omega)
        |try simp [Int.natCast_inj] at hc
         apply w_skip
         apply w_reg [1, 3, 7] rfl; intro Q hQ
         simp (disch := omega) [wrap64, wrapU, leW, wrl, buildV, fillV, splice, hA, hf, hk, hqe, hfe, hge, hF, hg, hk1]
         apply after_some rfl; apply hQ; clear hQ Q
         apply w_seq
         apply w_seq
         apply w_reg [1, 3, 7, 58] rfl; intro Q hQ
         simp (disch := omega) [wrap64, wrapU, leW, wrl, buildV, fillV, splice, hA, hf, hk, hqe, hfe, hge, hF, hg, hk1]
         apply after_some rfl; apply hQ; clear hQ Q
         apply w_cond _ rfl <;> intro hc
         ·first
          |(simp at hc; done)
          |(exfalso; simp at hc; omega)
          |try simp [Int.natCast_inj] at hc
           apply w_seq
           apply w_reg [6] rfl; intro Q hQ
           simp (disch := omega) [wrap64, wrapU, leW, wrl, buildV, fillV, splice, hA, hf, hk, hqe, hfe, hge, hF, hg, hk1]
           apply after_some rfl; apply hQ; clear hQ Q
           apply w_ret
           repeat (with_reducible (first | apply kseq_ret | apply kloop_ret | apply kcut_ret | apply kblock_ret))
           apply fin_pure rfl
           ·rfl
           ·rfl
         ·first
          |(simp at hc; done)
          |(exfalso; simp at hc; omega)
    ·first
     |(simp at hc; done)
     |(exfalso; simp at hc; omega)

theorem rUp7c (x : SchemaT) (k j : Int) (f g : FieldT) (q : KindT) (hl : x.kinds.list.length < 4611686018427387904) (hf : fldO x k j = some f) (hq : x.kinds.list[k.toNat]? = some q) (hq2 : q.fields.list.length < 4611686018427387904) (hk : f.kind = 7) (hg : fldO x k (fIx f.up q.fields.list) = some g) (hk1 : g.kind ≠ 1) (H : Heap) : call LE 16 [.agg (eX x), .int .i64 k, .int .i64 j] H = some ((.int .i64 (-1)), H) :=
 call_pure rfl (by first | exact .inl rfl | exact .inr rfl) (by simp [V.pure, enc_pure eeK, enc_pure eeF, enc_pure eeL, enc_pure eeR, enc_pure eeS, enc_pure eeI, enc_pure eeP, V.pureL, eK, eF, eX, eL, eR]) (rUp7c_runs x k j f g q hl hf hq hq2 hk hg hk1) H

/-- diorama/dioramaref10.Up -/
theorem rUp8a_runs (x : SchemaT) (k j : Int) (f : FieldT) (q : KindT) (hl : x.kinds.list.length < 4611686018427387904) (hf : fldO x k j = some f) (hq : x.kinds.list[k.toNat]? = some q) (hq2 : q.fields.list.length < 4611686018427387904) (hk : f.kind = 8) (hg : fldO x k (fIx f.up q.fields.list) = none) : Runs LE 16 [.agg (eX x), .int .i64 k, .int .i64 j] (.int .i64 (-1)) := by
 obtain ⟨h0, h1, h2, q', hq', h3, h4⟩ := fldO_of hf
 obtain rfl : q = q' := by rw [hq] at hq'; injection hq'
 have hb : k.toNat < x.kinds.list.length := by omega
 have hqe : x.kinds.list[k.toNat] = q := by rw [List.getElem?_eq_getElem hb] at hq; injection hq
 have hb2 : j.toNat < q.fields.list.length := by omega
 have hfe : q.fields.list[j.toNat] = f := by rw [List.getElem?_eq_getElem hb2] at h4; injection h4
 have hA := rHas x k j
 have hF := rField q f.up hq2
 have hn := fIx_none h0 hq hg
 refine runs_W (m := 67) Tryz.func16 rfl rfl (Nat.le_of_ble_eq_true rfl) ?_
 simp only [alOf]
 apply w_seq
 apply w_reg [1, 2, 3] rfl; intro Q hQ
 simp (disch := omega) [wrap64, wrapU, leW, wrl, buildV, fillV, splice, hA, hf, hk, hqe, hfe, hF, hn]
 apply after_some rfl; apply hQ; clear hQ Q
 apply w_seq
 apply w_seq
 apply w_reg [1, 2, 3, 14] rfl; intro Q hQ
 simp (disch := omega) [wrap64, wrapU, leW, wrl, buildV, fillV, splice, hA, hf, hk, hqe, hfe, hF, hn]
 apply after_some rfl; apply hQ; clear hQ Q
 apply w_cond _ rfl <;> intro hc
 ·first
  |(simp at hc; done)
  |(exfalso; simp at hc; omega)
 ·first
  |(simp at hc; done)
  |(exfalso; simp at hc; omega)
  |try simp [Int.natCast_inj] at hc
   apply w_skip
   apply w_seq
   apply w_reg [1, 2, 3, 7] rfl; intro Q hQ
   simp (disch := omega) [wrap64, wrapU, leW, wrl, buildV, fillV, splice, hA, hf, hk, hqe, hfe, hF, hn]
   apply after_some rfl; apply hQ; clear hQ Q
   apply w_seq
   apply w_seq
   apply w_reg [1, 2, 3, 7, 31] rfl; intro Q hQ
   simp (disch := omega) [wrap64, wrapU, leW, wrl, buildV, fillV, splice, hA, hf, hk, hqe, hfe, hF, hn]
   repeat' ((first | with_reducible apply after_guard | with_reducible apply after_guardD) <;> (intro hg; have hg' := hg; try simp at hg') <;> simp (disch := omega) [wrap64, wrapU, leW, wrl, buildV, fillV, splice, hA, hf, hk, hqe, hfe, hF, hn, *])
   all_goals (apply after_some rfl; apply hQ; clear hQ Q)
   all_goals
    skip
    apply w_cond _ rfl <;> intro hc
    ·first
     |(simp at hc; done)
     |(exfalso; simp at hc; omega)
     |try simp [Int.natCast_inj] at hc
      apply w_seq
      apply w_drw [1, 2, 3, 7, 8] rfl rfl (by kernel_rfl) 0 rfl; intro Q hQ
      simp (disch := omega) [wrap64, wrapU, leW, wrl, buildV, fillV, splice, hA, hf, hk, hqe, hfe, hF, hn]
      apply after_some rfl; apply hQ; clear hQ Q
      apply w_seq
      apply w_seq
      apply w_reg [1, 3, 7, 8, 46] rfl; intro Q hQ
      simp (disch := omega) [wrap64, wrapU, leW, wrl, buildV, fillV, splice, hA, hf, hk, hqe, hfe, hF, hn]
      repeat' ((first | with_reducible apply after_guard | with_reducible apply after_guardD) <;> (intro hg; have hg' := hg; try simp at hg') <;> simp (disch := omega) [wrap64, wrapU, leW, wrl, buildV, fillV, splice, hA, hf, hk, hqe, hfe, hF, hn, *])
      all_goals (apply after_some rfl; apply hQ; clear hQ Q)
      all_goals
       skip
       apply w_cond _ rfl <;> intro hc
       ·first
        |(simp at hc; done)
        |(exfalso; simp at hc; omega)
        |try simp [Int.natCast_inj] at hc
         apply w_seq
         apply w_reg [6] rfl; intro Q hQ
         simp (disch := omega) [wrap64, wrapU, leW, wrl, buildV, fillV, splice, hA, hf, hk, hqe, hfe, hF, hn]
         apply after_some rfl; apply hQ; clear hQ Q
         apply w_ret
         repeat (with_reducible (first | apply kseq_ret | apply kloop_ret | apply kcut_ret | apply kblock_ret))
         apply fin_pure rfl
         ·rfl
         ·rfl
       ·first
        |(simp at hc; done)
        |(exfalso; simp at hc; omega)
    ·first
     |(simp at hc; done)
     |(exfalso; simp at hc; omega)

theorem rUp8a (x : SchemaT) (k j : Int) (f : FieldT) (q : KindT) (hl : x.kinds.list.length < 4611686018427387904) (hf : fldO x k j = some f) (hq : x.kinds.list[k.toNat]? = some q) (hq2 : q.fields.list.length < 4611686018427387904) (hk : f.kind = 8) (hg : fldO x k (fIx f.up q.fields.list) = none) (H : Heap) : call LE 16 [.agg (eX x), .int .i64 k, .int .i64 j] H = some ((.int .i64 (-1)), H) :=
 call_pure rfl (by first | exact .inl rfl | exact .inr rfl) (by simp [V.pure, enc_pure eeK, enc_pure eeF, enc_pure eeL, enc_pure eeR, enc_pure eeS, enc_pure eeI, enc_pure eeP, V.pureL, eK, eF, eX, eL, eR]) (rUp8a_runs x k j f q hl hf hq hq2 hk hg) H

/-- diorama/dioramaref10.Up -/
theorem rUp8b_runs (x : SchemaT) (k j : Int) (f g : FieldT) (q : KindT) (hl : x.kinds.list.length < 4611686018427387904) (hf : fldO x k j = some f) (hq : x.kinds.list[k.toNat]? = some q) (hq2 : q.fields.list.length < 4611686018427387904) (hk : f.kind = 8) (hg : fldO x k (fIx f.up q.fields.list) = some g) (hk1 : g.kind = 1) : Runs LE 16 [.agg (eX x), .int .i64 k, .int .i64 j] (.int .i64 (if fIx f.up q.fields.list < j then ledTo x g.of_ k else -1)) := by
 obtain ⟨h0, h1, h2, q', hq', h3, h4⟩ := fldO_of hf
 obtain rfl : q = q' := by rw [hq] at hq'; injection hq'
 have hb : k.toNat < x.kinds.list.length := by omega
 have hqe : x.kinds.list[k.toNat] = q := by rw [List.getElem?_eq_getElem hb] at hq; injection hq
 have hb2 : j.toNat < q.fields.list.length := by omega
 have hfe : q.fields.list[j.toNat] = f := by rw [List.getElem?_eq_getElem hb2] at h4; injection h4
 have hA := rHas x k j
 have hF := rField q f.up hq2
 obtain ⟨_, _, g2, q2, gq, g3, g4⟩ := fldO_of hg
 obtain rfl : q = q2 := by rw [hq] at gq; injection gq
 have gb : (fIx f.up q.fields.list).toNat < q.fields.list.length := by omega
 have hge : q.fields.list[(fIx f.up q.fields.list).toNat] = g := by rw [List.getElem?_eq_getElem gb] at g4; injection g4
 have hK := rKind x g.of_ hl
 refine runs_W (m := 67) Tryz.func16 rfl rfl (Nat.le_of_ble_eq_true rfl) ?_
 simp only [alOf]
 apply w_seq
 apply w_reg [1, 2, 3] rfl; intro Q hQ
 simp (disch := omega) [wrap64, wrapU, leW, wrl, buildV, fillV, splice, hA, hf, hk, hqe, hfe, hge, hF, hg, hk1, hK]
 apply after_some rfl; apply hQ; clear hQ Q
 apply w_seq
 apply w_seq
 apply w_reg [1, 2, 3, 14] rfl; intro Q hQ
 simp (disch := omega) [wrap64, wrapU, leW, wrl, buildV, fillV, splice, hA, hf, hk, hqe, hfe, hge, hF, hg, hk1, hK]
 apply after_some rfl; apply hQ; clear hQ Q
 apply w_cond _ rfl <;> intro hc
 ·first
  |(simp at hc; done)
  |(exfalso; simp at hc; omega)
 ·first
  |(simp at hc; done)
  |(exfalso; simp at hc; omega)
  |try simp [Int.natCast_inj] at hc
   apply w_skip
   apply w_seq
   apply w_reg [1, 2, 3, 7] rfl; intro Q hQ
   simp (disch := omega) [wrap64, wrapU, leW, wrl, buildV, fillV, splice, hA, hf, hk, hqe, hfe, hge, hF, hg, hk1, hK]
   apply after_some rfl; apply hQ; clear hQ Q
   apply w_seq
   apply w_seq
   apply w_reg [1, 2, 3, 7, 31] rfl; intro Q hQ
   simp (disch := omega) [wrap64, wrapU, leW, wrl, buildV, fillV, splice, hA, hf, hk, hqe, hfe, hge, hF, hg, hk1, hK]
   repeat' ((first | with_reducible apply after_guard | with_reducible apply after_guardD) <;> (intro hg; have hg' := hg; try simp at hg') <;> simp (disch := omega) [wrap64, wrapU, leW, wrl, buildV, fillV, splice, hA, hf, hk, hqe, hfe, hge, hF, hg, hk1, hK, *])
   all_goals (apply after_some rfl; apply hQ; clear hQ Q)
   all_goals
    skip
    apply w_cond _ rfl <;> intro hc
    ·first
     |(simp at hc; done)
     |(exfalso; simp at hc; omega)
     |try simp [Int.natCast_inj] at hc
      apply w_seq
      apply w_drw [1, 2, 3, 7, 8] rfl rfl (by kernel_rfl) 0 rfl; intro Q hQ
      simp (disch := omega) [wrap64, wrapU, leW, wrl, buildV, fillV, splice, hA, hf, hk, hqe, hfe, hge, hF, hg, hk1, hK]
      apply after_some rfl; apply hQ; clear hQ Q
      apply w_seq
      apply w_seq
      apply w_reg [1, 3, 7, 8, 46] rfl; intro Q hQ
      simp (disch := omega) [wrap64, wrapU, leW, wrl, buildV, fillV, splice, hA, hf, hk, hqe, hfe, hge, hF, hg, hk1, hK]
      repeat' ((first | with_reducible apply after_guard | with_reducible apply after_guardD) <;> (intro hg; have hg' := hg; try simp at hg') <;> simp (disch := omega) [wrap64, wrapU, leW, wrl, buildV, fillV, splice, hA, hf, hk, hqe, hfe, hge, hF, hg, hk1, hK, *])
      all_goals (apply after_some rfl; apply hQ; clear hQ Q)
      all_goals
       skip
       apply w_cond _ rfl <;> intro hc
       ·first
        |(simp at hc; done)
        |(exfalso; simp at hc; omega)
        |try simp [Int.natCast_inj] at hc
         apply w_seq
         apply w_reg [6] rfl; intro Q hQ
         simp (disch := omega) [wrap64, wrapU, leW, wrl, buildV, fillV, splice, hA, hf, hk, hqe, hfe, hge, hF, hg, hk1, hK]
         apply after_some rfl; apply hQ; clear hQ Q
         apply w_ret
         repeat (with_reducible (first | apply kseq_ret | apply kloop_ret | apply kcut_ret | apply kblock_ret))
         apply fin_pure rfl
         ·first
           |rfl
           |(rw [if_pos (by omega)]; unfold ledTo; first | rw [if_pos (by omega)] | rw [if_neg (by omega)])
           |rw [if_neg (by omega)]
         ·rfl
       ·first
        |(simp at hc; done)
        |(exfalso; simp at hc; omega)
        |try simp [Int.natCast_inj] at hc
         apply w_skip
         apply w_reg [1, 3, 7] rfl; intro Q hQ
         simp (disch := omega) [wrap64, wrapU, leW, wrl, buildV, fillV, splice, hA, hf, hk, hqe, hfe, hge, hF, hg, hk1, hK]
         apply after_some rfl; apply hQ; clear hQ Q
         apply w_seq
         apply w_seq
         apply w_reg [1, 3, 7, 58] rfl; intro Q hQ
         simp (disch := omega) [wrap64, wrapU, leW, wrl, buildV, fillV, splice, hA, hf, hk, hqe, hfe, hge, hF, hg, hk1, hK]
         apply after_some rfl; apply hQ; clear hQ Q
         apply w_cond _ rfl <;> intro hc
         ·first
          |(simp at hc; done)
          |(exfalso; simp at hc; omega)
         ·first
          |(simp at hc; done)
          |(exfalso; simp at hc; omega)
          |try simp [Int.natCast_inj] at hc
           apply w_skip
           apply w_seq
           apply w_reg [1, 9] rfl; intro Q hQ
           simp (disch := omega) [wrap64, wrapU, leW, wrl, buildV, fillV, splice, hA, hf, hk, hqe, hfe, hge, hF, hg, hk1, hK]
           apply after_some rfl; apply hQ; clear hQ Q
           apply w_seq
           apply w_seq
           apply w_reg [9, 65] rfl; intro Q hQ
           simp (disch := omega) [wrap64, wrapU, leW, wrl, buildV, fillV, splice, hA, hf, hk, hqe, hfe, hge, hF, hg, hk1, hK]
           apply after_some rfl; apply hQ; clear hQ Q
           apply w_cond _ rfl <;> intro hc
           ·first
            |(simp at hc; done)
            |(exfalso; simp at hc; omega)
            |try simp [Int.natCast_inj] at hc
             apply w_seq
             apply w_reg [6] rfl; intro Q hQ
             simp (disch := omega) [wrap64, wrapU, leW, wrl, buildV, fillV, splice, hA, hf, hk, hqe, hfe, hge, hF, hg, hk1, hK]
             apply after_some rfl; apply hQ; clear hQ Q
             apply w_ret
             repeat (with_reducible (first | apply kseq_ret | apply kloop_ret | apply kcut_ret | apply kblock_ret))
             apply fin_pure rfl
             ·first
               |rfl
               |(rw [if_pos (by omega)]; unfold ledTo; first | rw [if_pos (by omega)] | rw [if_neg (by omega)])
               |rw [if_neg (by omega)]
             ·rfl
           ·first
            |(simp at hc; done)
            |(exfalso; simp at hc; omega)
            |try simp [Int.natCast_inj] at hc
             apply w_skip
             apply w_seq
             apply w_reg [6] rfl; intro Q hQ
             simp (disch := omega) [wrap64, wrapU, leW, wrl, buildV, fillV, splice, hA, hf, hk, hqe, hfe, hge, hF, hg, hk1, hK]
             apply after_some rfl; apply hQ; clear hQ Q
             apply w_ret
             repeat (with_reducible (first | apply kseq_ret | apply kloop_ret | apply kcut_ret | apply kblock_ret))
             apply fin_pure rfl
             ·first
               |rfl
               |(rw [if_pos (by omega)]; unfold ledTo; first | rw [if_pos (by omega)] | rw [if_neg (by omega)])
               |rw [if_neg (by omega)]
             ·rfl
    ·first
     |(simp at hc; done)
     |(exfalso; simp at hc; omega)

theorem rUp8b (x : SchemaT) (k j : Int) (f g : FieldT) (q : KindT) (hl : x.kinds.list.length < 4611686018427387904) (hf : fldO x k j = some f) (hq : x.kinds.list[k.toNat]? = some q) (hq2 : q.fields.list.length < 4611686018427387904) (hk : f.kind = 8) (hg : fldO x k (fIx f.up q.fields.list) = some g) (hk1 : g.kind = 1) (H : Heap) : call LE 16 [.agg (eX x), .int .i64 k, .int .i64 j] H = some ((.int .i64 (if fIx f.up q.fields.list < j then ledTo x g.of_ k else -1)), H) :=
 call_pure rfl (by first | exact .inl rfl | exact .inr rfl) (by simp [V.pure, enc_pure eeK, enc_pure eeF, enc_pure eeL, enc_pure eeR, enc_pure eeS, enc_pure eeI, enc_pure eeP, V.pureL, eK, eF, eX, eL, eR]) (rUp8b_runs x k j f g q hl hf hq hq2 hk hg hk1) H

/-- diorama/dioramaref10.Up -/
theorem rUp8c_runs (x : SchemaT) (k j : Int) (f g : FieldT) (q : KindT) (hl : x.kinds.list.length < 4611686018427387904) (hf : fldO x k j = some f) (hq : x.kinds.list[k.toNat]? = some q) (hq2 : q.fields.list.length < 4611686018427387904) (hk : f.kind = 8) (hg : fldO x k (fIx f.up q.fields.list) = some g) (hk1 : g.kind ≠ 1) : Runs LE 16 [.agg (eX x), .int .i64 k, .int .i64 j] (.int .i64 (-1)) := by
 obtain ⟨h0, h1, h2, q', hq', h3, h4⟩ := fldO_of hf
 obtain rfl : q = q' := by rw [hq] at hq'; injection hq'
 have hb : k.toNat < x.kinds.list.length := by omega
 have hqe : x.kinds.list[k.toNat] = q := by rw [List.getElem?_eq_getElem hb] at hq; injection hq
 have hb2 : j.toNat < q.fields.list.length := by omega
 have hfe : q.fields.list[j.toNat] = f := by rw [List.getElem?_eq_getElem hb2] at h4; injection h4
 have hA := rHas x k j
 have hF := rField q f.up hq2
 obtain ⟨_, _, g2, q2, gq, g3, g4⟩ := fldO_of hg
 obtain rfl : q = q2 := by rw [hq] at gq; injection gq
 have gb : (fIx f.up q.fields.list).toNat < q.fields.list.length := by omega
 have hge : q.fields.list[(fIx f.up q.fields.list).toNat] = g := by rw [List.getElem?_eq_getElem gb] at g4; injection g4
 refine runs_W (m := 67) Tryz.func16 rfl rfl (Nat.le_of_ble_eq_true rfl) ?_
 simp only [alOf]
 apply w_seq
 apply w_reg [1, 2, 3] rfl; intro Q hQ
 simp (disch := omega) [wrap64, wrapU, leW, wrl, buildV, fillV, splice, hA, hf, hk, hqe, hfe, hge, hF, hg, hk1]
 apply after_some rfl; apply hQ; clear hQ Q
 apply w_seq
 apply w_seq
 apply w_reg [1, 2, 3, 14] rfl; intro Q hQ
 simp (disch := omega) [wrap64, wrapU, leW, wrl, buildV, fillV, splice, hA, hf, hk, hqe, hfe, hge, hF, hg, hk1]
 apply after_some rfl; apply hQ; clear hQ Q
 apply w_cond _ rfl <;> intro hc
 ·first
  |(simp at hc; done)
  |(exfalso; simp at hc; omega)
 ·first
  |(simp at hc; done)
  |(exfalso; simp at hc; omega)
  |try simp [Int.natCast_inj] at hc
   apply w_skip
   apply w_seq
   apply w_reg [1, 2, 3, 7] rfl; intro Q hQ
   simp (disch := omega) [wrap64, wrapU, leW, wrl, buildV, fillV, splice, hA, hf, hk, hqe, hfe, hge, hF, hg, hk1]
   apply after_some rfl; apply hQ; clear hQ Q
   apply w_seq
   apply w_seq
   apply w_reg [1, 2, 3, 7, 31] rfl; intro Q hQ
   simp (disch := omega) [wrap64, wrapU, leW, wrl, buildV, fillV, splice, hA, hf, hk, hqe, hfe, hge, hF, hg, hk1]
   repeat' ((first | with_reducible apply after_guard | with_reducible apply after_guardD) <;> (intro hg; have hg' := hg; try simp at hg') <;> simp (disch := omega) [wrap64, wrapU, leW, wrl, buildV, fillV, splice, hA, hf, hk, hqe, hfe, hge, hF, hg, hk1, *])
   all_goals (apply after_some rfl; apply hQ; clear hQ Q)
   all_goals
    skip
    apply w_cond _ rfl <;> intro hc
    ·first
     |(simp at hc; done)
     |(exfalso; simp at hc; omega)
     |try simp [Int.natCast_inj] at hc
      apply w_seq
      apply w_drw [1, 2, 3, 7, 8] rfl rfl (by kernel_rfl) 0 rfl; intro Q hQ
      simp (disch := omega) [wrap64, wrapU, leW, wrl, buildV, fillV, splice, hA, hf, hk, hqe, hfe, hge, hF, hg, hk1]
      apply after_some rfl; apply hQ; clear hQ Q
      apply w_seq
      apply w_seq
      apply w_reg [1, 3, 7, 8, 46] rfl; intro Q hQ
      simp (disch := omega) [wrap64, wrapU, leW, wrl, buildV, fillV, splice, hA, hf, hk, hqe, hfe, hge, hF, hg, hk1]
      repeat' ((first | with_reducible apply after_guard | with_reducible apply after_guardD) <;> (intro hg; have hg' := hg; try simp at hg') <;> simp (disch := omega) [wrap64, wrapU, leW, wrl, buildV, fillV, splice, hA, hf, hk, hqe, hfe, hge, hF, hg, hk1, *])
      all_goals (apply after_some rfl; apply hQ; clear hQ Q)
      all_goals
       skip
       apply w_cond _ rfl <;> intro hc
       ·first
        |(simp at hc; done)
        |(exfalso; simp at hc; omega)
        |try simp [Int.natCast_inj] at hc
         apply w_seq
         apply w_reg [6] rfl; intro Q hQ
         simp (disch := omega) [wrap64, wrapU, leW, wrl, buildV, fillV, splice, hA, hf, hk, hqe, hfe, hge, hF, hg, hk1]
         apply after_some rfl; apply hQ; clear hQ Q
         apply w_ret
         repeat (with_reducible (first | apply kseq_ret | apply kloop_ret | apply kcut_ret | apply kblock_ret))
         apply fin_pure rfl
         ·rfl
         ·rfl
       ·first
        |(simp at hc; done)
        |(exfalso; simp at hc; omega)
        |try simp [Int.natCast_inj] at hc
         apply w_skip
         apply w_reg [1, 3, 7] rfl; intro Q hQ
         simp (disch := omega) [wrap64, wrapU, leW, wrl, buildV, fillV, splice, hA, hf, hk, hqe, hfe, hge, hF, hg, hk1]
         apply after_some rfl; apply hQ; clear hQ Q
         apply w_seq
         apply w_seq
         apply w_reg [1, 3, 7, 58] rfl; intro Q hQ
         simp (disch := omega) [wrap64, wrapU, leW, wrl, buildV, fillV, splice, hA, hf, hk, hqe, hfe, hge, hF, hg, hk1]
         apply after_some rfl; apply hQ; clear hQ Q
         apply w_cond _ rfl <;> intro hc
         ·first
          |(simp at hc; done)
          |(exfalso; simp at hc; omega)
          |try simp [Int.natCast_inj] at hc
           apply w_seq
           apply w_reg [6] rfl; intro Q hQ
           simp (disch := omega) [wrap64, wrapU, leW, wrl, buildV, fillV, splice, hA, hf, hk, hqe, hfe, hge, hF, hg, hk1]
           apply after_some rfl; apply hQ; clear hQ Q
           apply w_ret
           repeat (with_reducible (first | apply kseq_ret | apply kloop_ret | apply kcut_ret | apply kblock_ret))
           apply fin_pure rfl
           ·rfl
           ·rfl
         ·first
          |(simp at hc; done)
          |(exfalso; simp at hc; omega)
    ·first
     |(simp at hc; done)
     |(exfalso; simp at hc; omega)

theorem rUp8c (x : SchemaT) (k j : Int) (f g : FieldT) (q : KindT) (hl : x.kinds.list.length < 4611686018427387904) (hf : fldO x k j = some f) (hq : x.kinds.list[k.toNat]? = some q) (hq2 : q.fields.list.length < 4611686018427387904) (hk : f.kind = 8) (hg : fldO x k (fIx f.up q.fields.list) = some g) (hk1 : g.kind ≠ 1) (H : Heap) : call LE 16 [.agg (eX x), .int .i64 k, .int .i64 j] H = some ((.int .i64 (-1)), H) :=
 call_pure rfl (by first | exact .inl rfl | exact .inr rfl) (by simp [V.pure, enc_pure eeK, enc_pure eeF, enc_pure eeL, enc_pure eeR, enc_pure eeS, enc_pure eeI, enc_pure eeP, V.pureL, eK, eF, eX, eL, eR]) (rUp8c_runs x k j f g q hl hf hq hq2 hk hg hk1) H

end Go.Ae.Zd

namespace Go.Ae.Zd
open Go.Proofs

/-- The kind to which a field leads; -1: to none. -/
def upS (x : SchemaT) (k j : Int) : Int := match fldO x k j with
 |none => -1
 |some f => if f.kind = 7 ∨ f.kind = 8 then (match x.kinds.list[k.toNat]? with
   |some q => match fldO x k (fIx f.up q.fields.list) with
    |some g => if g.kind = 1 then (if fIx f.up q.fields.list < j then ledTo x g.of_ k else -1) else -1
    |none => -1
   |none => -1)
  else if f.kind = 1 then ledTo x f.of_ k else -1

theorem cUp {x : SchemaT} (hs : Small x) (k j : Int) (H : Heap) : call LE 15 [.agg (eX x), .int .i64 k, .int .i64 j] H = some (.int .i64 (upS x k j), H) := by
 unfold upS
 cases hf : fldO x k j with
 |none => exact cUp0 x k j hf H
 |some f =>
  simp only
  by_cases h78 : f.kind = 7 ∨ f.kind = 8
  ·rw [if_pos h78]
   obtain ⟨_, _, _, q, hq, _⟩ := fldO_of hf
   have hq2 := hs.2 q (List.mem_of_getElem? hq)
   rw [hq]
   simp only
   cases hg : fldO x k (fIx f.up q.fields.list) with
   |none =>
    rcases h78 with hk | hk
    ·exact cUp7a x k j f q hs.1 hf hq hq2 hk hg H
    ·exact cUp8a x k j f q hs.1 hf hq hq2 hk hg H
   |some g =>
    simp only
    by_cases h1 : g.kind = 1
    ·rw [if_pos h1]
     rcases h78 with hk | hk
     ·exact cUp7b x k j f g q hs.1 hf hq hq2 hk hg h1 H
     ·exact cUp8b x k j f g q hs.1 hf hq hq2 hk hg h1 H
    ·rw [if_neg h1]
     rcases h78 with hk | hk
     ·exact cUp7c x k j f g q hs.1 hf hq hq2 hk hg h1 H
     ·exact cUp8c x k j f g q hs.1 hf hq hq2 hk hg h1 H
  ·rw [if_neg h78]
   by_cases h1 : f.kind = 1
   ·rw [if_pos h1]; exact cUp1 x k j f hs.1 hf h1 H
   ·rw [if_neg h1]; exact cUp2 x k j f hf ⟨h1, fun h => h78 (.inl h), fun h => h78 (.inr h)⟩ H

theorem rUp {x : SchemaT} (hs : Small x) (k j : Int) (H : Heap) : call LE 16 [.agg (eX x), .int .i64 k, .int .i64 j] H = some (.int .i64 (upS x k j), H) := by
 unfold upS
 cases hf : fldO x k j with
 |none => exact rUp0 x k j hf H
 |some f =>
  simp only
  by_cases h78 : f.kind = 7 ∨ f.kind = 8
  ·rw [if_pos h78]
   obtain ⟨_, _, _, q, hq, _⟩ := fldO_of hf
   have hq2 := hs.2 q (List.mem_of_getElem? hq)
   rw [hq]
   simp only
   cases hg : fldO x k (fIx f.up q.fields.list) with
   |none =>
    rcases h78 with hk | hk
    ·exact rUp7a x k j f q hs.1 hf hq hq2 hk hg H
    ·exact rUp8a x k j f q hs.1 hf hq hq2 hk hg H
   |some g =>
    simp only
    by_cases h1 : g.kind = 1
    ·rw [if_pos h1]
     rcases h78 with hk | hk
     ·exact rUp7b x k j f g q hs.1 hf hq hq2 hk hg h1 H
     ·exact rUp8b x k j f g q hs.1 hf hq hq2 hk hg h1 H
    ·rw [if_neg h1]
     rcases h78 with hk | hk
     ·exact rUp7c x k j f g q hs.1 hf hq hq2 hk hg h1 H
     ·exact rUp8c x k j f g q hs.1 hf hq hq2 hk hg h1 H
  ·rw [if_neg h78]
   by_cases h1 : f.kind = 1
   ·rw [if_pos h1]; exact rUp1 x k j f hs.1 hf h1 H
   ·rw [if_neg h1]; exact rUp2 x k j f hf ⟨h1, fun h => h78 (.inl h), fun h => h78 (.inr h)⟩ H

end Go.Ae.Zd
