/- The tables of the program for the evaluator, each held against the program by the kernel: no condition. No function's answers. Permutations of n points as lists; products, inverses; each is undone by its own powers. Permutations as lists: chain.mul, inverse, still; the document's. Permutations as lists: the answers, for callers. Chains of links: what add and look make of permutations, and that what sifts is just the group. Chains of links: add and look end, and keep what holds. Chains of links: a link has at most 384 permutations (of at most 64 points): each makes its group twice as large at least. Chains: what there is stays there; the points in their order. A heap that stands for a chain of links; (*link).sift, sifted. (*Chain).look, as far as add is known. DERIVED: THE SHELF's CONTRACTS AT THIS DUMP, IN PLAIN WORDS (tools/lay-plain.mjs out of 'TryShelf.lean', which tools/lay-shelf.mjs wrote): THE SAME DECLARATIONS UNDER THE SAME NAMES: 'import', 'namespace', 'open', 'def', 'theorem' AND NOTHING ELSE: no command of the shelf's: FOR A HAND-IN. Each laying: the table of numbers ('.._ren') and one theorem, a field a fact of the dump's own or the kernel's comparison; each contract: O -/
import Derived.Test.YtkffcclalncgdaaRc
import Derived.Test.YtkffcclalncgdaaProg
import Derived.Test.YtkffcclalncgdaaRd
import Derived.Shelf.Small.Bits
import Derived.Shelf.Strconv.Itoa0
import Derived.Shelf.Sort.Plain
import Derived.Shelf.Slices.Turned
import Derived.Ground.Names2Prog
import Derived.Shelf.Slices.Clone
import Derived.Shelf.Slices.SearchI
import Derived.Shelf.Slices.In.SortNone
import Derived.Ground.SlgnProg
import Derived.Shelf.SlicesE.Clone
import Derived.Sort.OwnSortedInts
section
set_option linter.unusedVariables false
set_option maxRecDepth 100000
namespace Go.Proofs.Ytkffcclalncgdaa.Iv
open Go Go.Iv
noncomputable def tabTypes : Tr TI := (.node (some (⟨.other, 1, 0, [.tuple ⟨[]⟩]⟩)) (.node (some (⟨.func, 1, 8, [.nilFunc]⟩)) (.node (some (⟨.int .i64, 1, 8, [.int .i64 (0)]⟩)) (.node (some (⟨.struct [(0, 2), (1, 3), (2, 4), (3, 6)], 4, 24, [.int .i64 (0), .int .i64 (0), .bool false, .int .u8 (0)]⟩)) (.node (some (⟨.ptr 133, 1, 8, [.pointer none]⟩)) (.node (some (⟨.ptr 78, 1, 8, [.pointer none]⟩)) (.node (some (⟨.func, 1, 8, [.nilFunc]⟩)) (.node (some (⟨.func, 1, 8, [.nilFunc]⟩)) .nil .nil) .nil) (.node (some (⟨.func, 1, 8, [.nilFunc]⟩)) .nil .nil)) (.node (some (⟨.other, 1, 0, [.tuple ⟨[.slice none 0 0, .int .i64 (0)]⟩]⟩)) (.node (some (⟨.func, 1, 8, [.nilFunc]⟩)) (.node (some (⟨.struct [(0, 12), (1, 12), (2, 86), (3, 137), (4, 5), (5, 5), (6, 138), (7, 139), (8, 140), (9, 141), (10, 142)], 11, 48, [.int .u64 (0), .int .u64 (0), .int .u32 (0), .int .u8 (0), .int .u8 (0), .int .u8 (0), .int .u8 (0), .nilFunc, .pointer none, .int .i32 (0), .int .i32 (0)]⟩)) .nil .nil) .nil) (.node (some (⟨.func, 1, 8, [.nilFunc]⟩)) .nil .nil))) (.node (some (⟨.slice 3, 1, 24, [.slice none 0 0]⟩)) (.node (some (⟨.other, 1, 0, [.tuple ⟨[.bool false, .int .i64 (0)]⟩]⟩)) (.node (some (⟨.func, 1, 8, [.nilFunc]⟩)) (.node (some (⟨.struct [(0, 134)], 0, 0, []⟩)) .nil .nil) .nil) (.node (some (⟨.func, 1, 8, [.nilFunc]⟩)) .nil .nil)) (.node (some (⟨.func, 1, 8, [.nilFunc]⟩)) (.node (some (⟨.int .u64, 1, 8, [.int .u64 (0)]⟩)) .nil .nil) (.node (some (⟨.func, 1, 8, [.nilFunc]⟩)) .nil .nil)))) (.node (some (⟨.str, 1, 16, [.string ⟨⟨[]⟩⟩]⟩)) (.node (some (⟨.struct [(0, 17)], 1, 8, [.pointer none]⟩)) (.node (some (⟨.func, 1, 8, [.nilFunc]⟩)) (.node (some (⟨.ptr 70, 1, 8, [.pointer none]⟩)) (.node (some (⟨.func, 1, 8, [.nilFunc]⟩)) .nil .nil) .nil) (.node (some (⟨.func, 1, 8, [.nilFunc]⟩)) .nil .nil)) (.node (some (⟨.struct [(0, 50)], 1, 24, [.slice none 0 0]⟩)) (.node (some (⟨.func, 1, 8, [.nilFunc]⟩)) .nil .nil) (.node (some (⟨.func, 1, 8, [.nilFunc]⟩)) .nil .nil))) (.node (some (⟨.ptr 73, 1, 8, [.pointer none]⟩)) (.node (some (⟨.func, 1, 8, [.nilFunc]⟩)) (.node (some (⟨.func, 1, 8, [.nilFunc]⟩)) (.node (some (⟨.func, 1, 8, [.nilFunc]⟩)) .nil .nil) .nil) (.node (some (⟨.other, 1, 0, [.tuple ⟨[.int .u64 (0), .bool false]⟩]⟩)) .nil .nil)) (.node (some (⟨.other, 1, 0, [.tuple ⟨[.slice none 0 0, .int .i64 (0)]⟩]⟩)) (.node (some (⟨.func, 1, 8, [.nilFunc]⟩)) .nil .nil) (.node (some (⟨.func, 1, 8, [.nilFunc]⟩)) .nil .nil))))) (.node (some (⟨.int .u8, 1, 1, [.int .u8 (0)]⟩)) (.node (some (⟨.str, 1, 16, [.string ⟨⟨[]⟩⟩]⟩)) (.node (some (⟨.ptr 144, 1, 8, [.pointer none]⟩)) (.node (some (⟨.func, 1, 8, [.nilFunc]⟩)) (.node (some (⟨.slice 67, 1, 24, [.slice none 0 0]⟩)) (.node (some (⟨.ptr 122, 1, 8, [.pointer none]⟩)) .nil .nil) .nil) (.node (some (⟨.func, 1, 8, [.nilFunc]⟩)) .nil .nil)) (.node (some (⟨.func, 1, 8, [.nilFunc]⟩)) (.node (some (⟨.func, 1, 8, [.nilFunc]⟩)) (.node (some (⟨.other, 1, 8, [.pointer none]⟩)) .nil .nil) .nil) (.node (some (⟨.other, 1, 0, [.tuple ⟨[.int .i64 (0), .int .i64 (0)]⟩]⟩)) .nil .nil))) (.node (some (⟨.func, 1, 8, [.nilFunc]⟩)) (.node (some (⟨.func, 1, 8, [.nilFunc]⟩)) (.node (some (⟨.struct [(0, 3), (1, 22), (2, 65)], 3, 56, [.int .i64 (0), .slice none 0 0, .slice none 0 0]⟩)) (.node (some (⟨.int .u8, 1, 1, [.int .u8 (0)]⟩)) .nil .nil) .nil) (.node (some (⟨.other, 1, 0, [.tuple ⟨[.slice none 0 0, .slice none 0 0]⟩]⟩)) .nil .nil)) (.node (some (⟨.other, 1, 0, [.tuple ⟨[.agg ⟨[.slice none 0 0]⟩, .int .i64 (0)]⟩]⟩)) (.node (some (⟨.func, 1, 8, [.nilFunc]⟩)) .nil .nil) (.node (some (⟨.func, 1, 8, [.nilFunc]⟩)) .nil .nil)))) (.node (some (⟨.struct [(0, 9), (1, 12)], 2, 24, [.string ⟨⟨[]⟩⟩, .int .u64 (0)]⟩)) (.node (some (⟨.int .i32, 1, 4, [.int .i32 (0)]⟩)) (.node (some (⟨.func, 1, 8, [.nilFunc]⟩)) (.node (some (⟨.struct [(0, 3), (1, 22), (2, 68)], 3, 40, [.int .i64 (0), .slice none 0 0, .map none]⟩)) (.node (some (⟨.struct [(0, 17), (1, 17), (2, 17), (3, 9)], 4, 40, [.pointer none, .pointer none, .pointer none, .string ⟨⟨[]⟩⟩]⟩)) .nil .nil) .nil) (.node (some (⟨.func, 1, 8, [.nilFunc]⟩)) .nil .nil)) (.node (some (⟨.func, 1, 8, [.nilFunc]⟩)) (.node (some (⟨.func, 1, 8, [.nilFunc]⟩)) .nil .nil) (.node (some (⟨.func, 1, 8, [.nilFunc]⟩)) .nil .nil))) (.node (some (⟨.other, 1, 0, [.tuple ⟨[.pointer none, .int .i64 (0)]⟩]⟩)) (.node (some (⟨.func, 1, 8, [.nilFunc]⟩)) (.node (some (⟨.struct [(0, 3), (1, 76), (2, 76)], 3, 56, [.int .i64 (0), .slice none 0 0, .slice none 0 0]⟩)) (.node (some (⟨.int .i32, 1, 4, [.int .i32 (0)]⟩)) .nil .nil) .nil) (.node (some (⟨.func, 1, 8, [.nilFunc]⟩)) .nil .nil)) (.node (some (⟨.func, 1, 8, [.nilFunc]⟩)) (.node (some (⟨.other, 1, 0, [.tuple ⟨[.slice none 0 0, .bool false]⟩]⟩)) .nil .nil) (.node (some (⟨.func, 1, 8, [.nilFunc]⟩)) .nil .nil)))))) (.node (some (⟨.int .i64, 1, 8, [.int .i64 (0)]⟩)) (.node (some (⟨.bool, 1, 1, [.bool false]⟩)) (.node (some (⟨.struct [(0, 2), (1, 3), (2, 4), (3, 6)], 4, 24, [.int .i64 (0), .int .i64 (0), .bool false, .int .u8 (0)]⟩)) (.node (some (⟨.ptr 136, 1, 8, [.pointer none]⟩)) (.node (some (⟨.other, 1, 0, [.tuple ⟨[.pointer none, .int .i64 (0)]⟩]⟩)) (.node (some (⟨.func, 1, 8, [.nilFunc]⟩)) (.node (some (⟨.func, 1, 8, [.nilFunc]⟩)) .nil .nil) .nil) (.node (some (⟨.func, 1, 8, [.nilFunc]⟩)) .nil .nil)) (.node (some (⟨.func, 1, 8, [.nilFunc]⟩)) (.node (some (⟨.func, 1, 8, [.nilFunc]⟩)) (.node (some (⟨.struct [(0, 12), (1, 12), (2, 86), (3, 137), (4, 5), (5, 5), (6, 138), (7, 139), (8, 140), (9, 141), (10, 142)], 11, 48, [.int .u64 (0), .int .u64 (0), .int .u32 (0), .int .u8 (0), .int .u8 (0), .int .u8 (0), .int .u8 (0), .nilFunc, .pointer none, .int .i32 (0), .int .i32 (0)]⟩)) .nil .nil) .nil) (.node (some (⟨.int .i64, 1, 8, [.int .i64 (0)]⟩)) .nil .nil))) (.node (some (⟨.func, 1, 8, [.nilFunc]⟩)) (.node (some (⟨.func, 1, 8, [.nilFunc]⟩)) (.node (some (⟨.struct [(0, 3), (1, 22), (2, 65)], 3, 56, [.int .i64 (0), .slice none 0 0, .slice none 0 0]⟩)) (.node (some (⟨.struct [(0, 134)], 0, 0, []⟩)) .nil .nil) .nil) (.node (some (⟨.func, 1, 8, [.nilFunc]⟩)) .nil .nil)) (.node (some (⟨.func, 1, 8, [.nilFunc]⟩)) (.node (some (⟨.slice 5, 1, 24, [.slice none 0 0]⟩)) .nil .nil) (.node (some (⟨.func, 1, 8, [.nilFunc]⟩)) .nil .nil)))) (.node (some (⟨.int .u64, 1, 8, [.int .u64 (0)]⟩)) (.node (some (⟨.iface true, 1, 16, [.nilIface]⟩)) (.node (some (⟨.func, 1, 8, [.nilFunc]⟩)) (.node (some (⟨.map 3 23, 1, 8, [.map none]⟩)) (.node (some (⟨.struct [(0, 17), (1, 17), (2, 17), (3, 9)], 4, 40, [.pointer none, .pointer none, .pointer none, .string ⟨⟨[]⟩⟩]⟩)) .nil .nil) .nil) (.node (some (⟨.func, 1, 8, [.nilFunc]⟩)) .nil .nil)) (.node (some (⟨.struct [(0, 50)], 1, 24, [.slice none 0 0]⟩)) (.node (some (⟨.array 64 4, 64, 64, [.bool false, .bool false, .bool false, .bool false, .bool false, .bool false, .bool false, .bool false, .bool false, .bool false, .bool false, .bool false, .bool false, .bool false, .bool false, .bool false, .bool false, .bool false, .bool false, .bool false, .bool false, .bool false, .bool false, .bool false, .bool false, .bool false, .bool false, .bool false, .bool false, .bool false, .bool false, .bool false, .bool false, .bool false, .bool false, .bool false, .bool false, .bool false, .bool false, .bool false, .bool false, .bool false, .bool false, .bool false, .bool false, .bool false, .bool false, .bool false, .bool false, .bool false, .bool false, .bool false, .bool false, .bool false, .bool false, .bool false, .bool false, .bool false, .bool false, .bool false, .bool false, .bool false, .bool false, .bool false]⟩)) .nil .nil) (.node (some (⟨.func, 1, 8, [.nilFunc]⟩)) .nil .nil))) (.node (some (⟨.int .i64, 1, 8, [.int .i64 (0)]⟩)) (.node (some (⟨.array 12 3, 12, 96, [.int .i64 (0), .int .i64 (0), .int .i64 (0), .int .i64 (0), .int .i64 (0), .int .i64 (0), .int .i64 (0), .int .i64 (0), .int .i64 (0), .int .i64 (0), .int .i64 (0), .int .i64 (0)]⟩)) (.node (some (⟨.slice 22, 1, 24, [.slice none 0 0]⟩)) (.node (some (⟨.ptr 5, 1, 8, [.pointer none]⟩)) .nil .nil) .nil) (.node (some (⟨.func, 1, 8, [.nilFunc]⟩)) .nil .nil)) (.node (some (⟨.func, 1, 8, [.nilFunc]⟩)) (.node (some (⟨.func, 1, 8, [.nilFunc]⟩)) .nil .nil) (.node (some (⟨.func, 1, 8, [.nilFunc]⟩)) .nil .nil))))) (.node (some (⟨.int .u8, 1, 1, [.int .u8 (0)]⟩)) (.node (some (⟨.str, 1, 16, [.string ⟨⟨[]⟩⟩]⟩)) (.node (some (⟨.struct [(0, 17)], 1, 8, [.pointer none]⟩)) (.node (some (⟨.func, 1, 8, [.nilFunc]⟩)) (.node (some (⟨.func, 1, 8, [.nilFunc]⟩)) (.node (some (⟨.other, 1, 0, [.tuple ⟨[.int .i64 (0), .int .i64 (0)]⟩]⟩)) .nil .nil) .nil) (.node (some (⟨.func, 1, 8, [.nilFunc]⟩)) .nil .nil)) (.node (some (⟨.slice 86, 1, 24, [.slice none 0 0]⟩)) (.node (some (⟨.slice 4, 1, 24, [.slice none 0 0]⟩)) .nil .nil) (.node (some (⟨.func, 1, 8, [.nilFunc]⟩)) .nil .nil))) (.node (some (⟨.func, 1, 8, [.nilFunc]⟩)) (.node (some (⟨.func, 1, 8, [.nilFunc]⟩)) (.node (some (⟨.slice 86, 1, 24, [.slice none 0 0]⟩)) (.node (some (⟨.int .u8, 1, 1, [.int .u8 (0)]⟩)) .nil .nil) .nil) (.node (some (⟨.func, 1, 8, [.nilFunc]⟩)) .nil .nil)) (.node (some (⟨.func, 1, 8, [.nilFunc]⟩)) (.node (some (⟨.array 2 23, 2, 48, [.slice none 0 0, .slice none 0 0]⟩)) .nil .nil) (.node (some (⟨.int .u64, 1, 8, [.int .u64 (0)]⟩)) .nil .nil)))) (.node (some (⟨.struct [(0, 9), (1, 12)], 2, 24, [.string ⟨⟨[]⟩⟩, .int .u64 (0)]⟩)) (.node (some (⟨.slice 23, 1, 24, [.slice none 0 0]⟩)) (.node (some (⟨.func, 1, 8, [.nilFunc]⟩)) (.node (some (⟨.struct [(0, 3), (1, 22), (2, 68)], 3, 40, [.int .i64 (0), .slice none 0 0, .map none]⟩)) (.node (some (⟨.array 0 16, 0, 0, []⟩)) .nil .nil) .nil) (.node (some (⟨.func, 1, 8, [.nilFunc]⟩)) .nil .nil)) (.node (some (⟨.int .u64, 1, 8, [.int .u64 (0)]⟩)) (.node (some (⟨.int .u32, 1, 4, [.int .u32 (0)]⟩)) .nil .nil) (.node (some (⟨.other, 1, 0, [.tuple ⟨[.int .i64 (0), .bool false]⟩]⟩)) .nil .nil))) (.node (some (⟨.func, 1, 8, [.nilFunc]⟩)) (.node (some (⟨.map 44 4, 1, 8, [.map none]⟩)) (.node (some (⟨.struct [(0, 3), (1, 76), (2, 76)], 3, 56, [.int .i64 (0), .slice none 0 0, .slice none 0 0]⟩)) (.node (some (⟨.int .i32, 1, 4, [.int .i32 (0)]⟩)) .nil .nil) .nil) (.node (some (⟨.func, 1, 8, [.nilFunc]⟩)) .nil .nil)) (.node (some (⟨.func, 1, 8, [.nilFunc]⟩)) (.node (some (⟨.func, 1, 8, [.nilFunc]⟩)) .nil .nil) (.node (some (⟨.ptr 3, 1, 8, [.pointer none]⟩)) .nil .nil)))))))
noncomputable def tabFuns : Tr Func := (.node none (.node none (.node (some (Try.f3)) (.node (some (Try.f7)) (.node (some (Try.f15)) (.node (some (Try.f31)) (.node (some (Try.f63)) .nil .nil) .nil) (.node (some (Try.f47)) (.node (some (Try.f79)) .nil .nil) .nil)) (.node (some (Try.f23)) (.node (some (Try.f39)) (.node (some (Try.f71)) .nil .nil) .nil) (.node (some (Try.f55)) (.node (some (Try.f87)) .nil .nil) .nil))) (.node (some (Try.f11)) (.node (some (Try.f19)) (.node (some (Try.f35)) (.node (some (Try.f67)) .nil .nil) .nil) (.node (some (Try.f51)) (.node (some (Try.f83)) .nil .nil) .nil)) (.node (some (Try.f27)) (.node (some (Try.f43)) (.node (some (Try.f75)) .nil .nil) .nil) (.node (some (Try.f59)) (.node (some (Try.f91)) .nil .nil) .nil)))) (.node (some (Try.f5)) (.node (some (Try.f9)) (.node (some (Try.f17)) (.node (some (Try.f33)) (.node (some (Try.f65)) .nil .nil) .nil) (.node (some (Try.f49)) (.node (some (Try.f81)) .nil .nil) .nil)) (.node (some (Try.f25)) (.node (some (Try.f41)) (.node (some (Try.f73)) .nil .nil) .nil) (.node (some (Try.f57)) (.node (some (Try.f89)) .nil .nil) .nil))) (.node (some (Try.f13)) (.node (some (Try.f21)) (.node (some (Try.f37)) (.node (some (Try.f69)) .nil .nil) .nil) (.node (some (Try.f53)) (.node (some (Try.f85)) .nil .nil) .nil)) (.node (some (Try.f29)) (.node (some (Try.f45)) (.node (some (Try.f77)) .nil .nil) .nil) (.node (some (Try.f61)) (.node (some (Try.f93)) .nil .nil) .nil))))) (.node none (.node (some (Try.f4)) (.node (some (Try.f8)) (.node (some (Try.f16)) (.node (some (Try.f32)) (.node (some (Try.f64)) .nil .nil) .nil) (.node (some (Try.f48)) (.node (some (Try.f80)) .nil .nil) .nil)) (.node (some (Try.f24)) (.node (some (Try.f40)) (.node (some (Try.f72)) .nil .nil) .nil) (.node (some (Try.f56)) (.node (some (Try.f88)) .nil .nil) .nil))) (.node (some (Try.f12)) (.node (some (Try.f20)) (.node (some (Try.f36)) (.node (some (Try.f68)) .nil .nil) .nil) (.node (some (Try.f52)) (.node (some (Try.f84)) .nil .nil) .nil)) (.node (some (Try.f28)) (.node (some (Try.f44)) (.node (some (Try.f76)) .nil .nil) .nil) (.node (some (Try.f60)) (.node (some (Try.f92)) .nil .nil) .nil)))) (.node (some (Try.f6)) (.node (some (Try.f10)) (.node (some (Try.f18)) (.node (some (Try.f34)) (.node (some (Try.f66)) .nil .nil) .nil) (.node (some (Try.f50)) (.node (some (Try.f82)) .nil .nil) .nil)) (.node (some (Try.f26)) (.node (some (Try.f42)) (.node (some (Try.f74)) .nil .nil) .nil) (.node (some (Try.f58)) (.node (some (Try.f90)) .nil .nil) .nil))) (.node (some (Try.f14)) (.node (some (Try.f22)) (.node (some (Try.f38)) (.node (some (Try.f70)) .nil .nil) .nil) (.node (some (Try.f54)) (.node (some (Try.f86)) .nil .nil) .nil)) (.node (some (Try.f30)) (.node (some (Try.f46)) (.node (some (Try.f78)) .nil .nil) .nil) (.node (some (Try.f62)) (.node (some (Try.f94)) .nil .nil) .nil))))))
noncomputable def tabMasks : Tr (Tr (List Nat)) := (.node none (.node none (.node none (.node none (.node (some ((.node none .nil (.node none .nil (.node (some ([0, 0, 3, 7, 0, 0, 48, 112, 255, 511])) .nil .nil))))) (.node (some ((.node none .nil (.node none (.node none (.node none .nil (.node (some ([0, 1, 3, 7, 0, 16, 48, 112, 0, 511, 0, 1024, 3072, 7168, 16383, 32767, 65535])) .nil .nil)) (.node none .nil (.node (some ([0, 1, 3, 7, 0, 31, 63, 127, 255, 511, 0, 0, 3072, 8191, 16383, 32767, 32767, 65535, 262143])) .nil .nil))) .nil)))) (.node (some ((.node none .nil (.node (some ([0, 1, 3, 7, 0, 0, 32, 127])) .nil .nil)))) .nil .nil) .nil) (.node (some ((.node none .nil (.node none (.node (some ([0, 1, 3, 7, 0, 31, 63, 0, 0, 384, 896, 2047, 4095, 8191])) .nil .nil) .nil)))) (.node (some ((.node none (.node none (.node (some ([0, 0, 0, 0, 0, 0, 48, 112, 0, 0, 768, 1792, 4083, 8179, 16383, 32767])) .nil .nil) .nil) .nil))) .nil .nil) .nil)) (.node none (.node none (.node (some ((.node none (.node (some ([0, 1, 3, 7, 0, 0, 32, 96, 224, 496, 1008, 2047, 4095, 8191, 8191, 16383, 65535])) .nil .nil) .nil))) .nil .nil) .nil) .nil)) (.node none (.node (some ((.node none (.node none (.node none (.node (some ([0, 0, 2, 6, 14, 30, 62, 126, 255, 511, 1023, 1023, 2047])) .nil .nil) .nil) .nil) .nil))) (.node (some ((.node none .nil (.node none .nil (.node none (.node none .nil (.node none (.node (some ([0, 0, 0, 6, 14, 0, 0, 0, 192, 448, 992, 2016, 0, 4096, 16352, 32767, 65535])) .nil .nil) .nil)) .nil))))) .nil .nil) (.node none (.node (some ((.node none (.node (some ([0, 0, 0, 0, 0, 0, 48, 112, 0, 0, 768, 1792, 4083, 8179, 16383, 32767])) (.node (some ([0, 0, 3, 7, 15, 15, 63, 127, 15, 15, 783, 1807, 4095, 8191])) (.node none (.node (some ([0, 0, 3, 7, 15, 15, 63, 127, 15, 15, 783, 1807, 4095, 8191, 16383])) .nil .nil) .nil) .nil) (.node (some ([0, 0, 3, 7, 15, 15, 63, 127, 15, 15, 783, 1807, 4095, 8191, 16383])) .nil (.node (some ([0, 0, 3, 7, 15, 15, 63, 127, 15, 15, 783, 1807, 4095, 8191])) (.node (some ([0, 0, 0, 0, 0, 0, 48, 112, 0, 0, 768, 1792, 4083, 8179, 16383, 32767])) .nil .nil) .nil))) (.node none (.node none (.node (some ([0, 0, 0, 0, 0, 0, 48, 112, 0, 0, 768, 1792, 4083, 8179, 16383, 32767])) .nil .nil) .nil) (.node none (.node (some ([0, 0, 0, 0, 0, 0, 48, 112, 0, 0, 768, 1792, 4083, 8179, 16383, 32767])) (.node (some ([0, 0, 0, 0, 0, 0, 48, 112, 0, 0, 768, 1792, 4083, 8179, 16383, 32767])) .nil .nil) .nil) .nil))))) .nil .nil) .nil)) (.node none (.node none (.node (some ((.node none .nil (.node none (.node (some ([0, 0, 3, 7, 15, 15, 63, 127, 15, 15, 527, 1807, 3855, 8191, 16383])) .nil .nil) (.node (some ([0, 0, 0, 0, 8, 0, 0, 64, 224, 480, 0, 0, 3072, 7168, 16355, 32739, 65535, 131071])) .nil .nil))))) .nil .nil) .nil) .nil))) (.node (some ((.node none (.node none (.node none .nil (.node (some ([0, 1, 3, 0, 0, 16, 48, 120, 248, 511, 1023, 2047, 2047, 4095, 16383])) .nil .nil)) .nil) .nil))) (.node (some ((.node none (.node none (.node none .nil (.node none (.node (some ([0, 1, 3, 7, 15, 7, 63, 127, 255])) .nil .nil) .nil)) (.node none .nil (.node (some ([0, 0, 2, 6, 14, 31, 63, 127, 127, 0, 767, 2047])) .nil .nil))) (.node none .nil (.node none .nil (.node (some ([0, 1, 3, 7, 15, 31, 63, 127, 255, 511, 1023, 255, 255, 6399, 14591, 32767, 65535, 131071, 262143, 524287, 1048575, 2097151, 2097151, 8388607, 16777215, 2097151, 2097151, 69206015, 236978175, 505413631, 1073741823, 2147483647, 4294967295])) .nil .nil)))))) (.node none (.node (some ((.node none (.node none (.node none (.node none .nil (.node (some ([0, 0, 0, 6, 14, 0, 0, 0, 192, 448, 0, 1984, 4032, 8160, 16352, 32767, 65535])) .nil .nil)) .nil) .nil) (.node none .nil (.node none .nil (.node none .nil (.node (some ([0, 1, 3, 7, 0, 31, 63, 0, 128, 0, 0, 0, 3072, 7168, 15872, 32256, 65408, 130944, 262143, 524287, 1048575])) .nil .nil))))))) (.node (some ((.node none .nil (.node (some ([0, 1, 3, 7, 0, 0, 32, 96, 224, 0, 992, 2016, 0, 4096, 16352, 32767, 65535])) .nil .nil)))) .nil .nil) .nil) .nil) (.node none (.node none (.node (some ((.node none (.node none .nil (.node (some ([0, 1, 3, 7, 0, 0, 32, 96, 224, 496, 1008, 0, 4095])) .nil .nil)) .nil))) .nil .nil) .nil) .nil)) (.node none (.node (some ((.node none .nil (.node none .nil (.node (some ([0, 0, 3, 7, 0, 0, 48, 112, 255])) .nil .nil))))) (.node (some ((.node none (.node none .nil (.node (some ([0, 0, 2, 6, 14, 0, 32, 96, 254, 511, 1023, 2047])) .nil .nil)) .nil))) .nil .nil) (.node none (.node (some ((.node none .nil (.node none (.node none (.node (some ([0, 0, 3, 7, 0, 0, 48, 112, 255])) .nil .nil) .nil) (.node none (.node (some ([0, 0, 3, 7, 0, 0, 48, 112, 255])) .nil .nil) .nil))))) .nil .nil) .nil)) (.node none (.node none (.node (some ((.node none .nil (.node none .nil (.node none (.node (some ([0, 0, 0, 0, 0, 24, 0, 0, 0, 384, 960, 1984, 0, 0, 12288, 28672, 65475, 131011, 262143, 524287])) .nil .nil) .nil))))) .nil .nil) .nil) (.node (some ((.node none .nil (.node (some ([0, 0, 0, 0, 0, 24, 56, 124, 252, 511, 1023])) .nil .nil)))) .nil .nil))))) (.node none (.node none (.node none (.node none .nil (.node none (.node (some ((.node none (.node none (.node none (.node none .nil (.node (some ([0, 0, 0, 0, 8, 0, 0, 64, 224, 480, 0, 0, 3072, 7168, 16355, 32739, 65535, 131071])) .nil .nil)) (.node (some ([0, 0, 0, 0, 8, 0, 0, 64, 224, 480, 0, 0, 3072, 7168, 16355, 32739, 65535, 131071])) .nil .nil)) (.node (some ([0, 0, 3, 7, 15, 15, 63, 127, 15, 15, 527, 1807, 3855, 8191, 16383, 32767])) (.node none (.node (some ([0, 0, 0, 0, 8, 0, 0, 64, 224, 480, 0, 0, 3072, 7168, 16355, 32739, 65535, 131071])) .nil .nil) .nil) .nil)) (.node none (.node none (.node none (.node (some ([0, 0, 3, 7, 0, 0, 32, 112, 240, 511, 1023])) .nil .nil) .nil) .nil) (.node none .nil (.node none (.node (some ([0, 0, 3, 7, 0, 0, 32, 112, 240, 511, 1023])) .nil .nil) .nil)))))) .nil .nil) .nil)) (.node none .nil (.node none (.node (some ((.node none (.node none (.node (some ([0, 1, 0, 7, 15, 31, 31, 31, 223, 511, 1023, 31, 31, 31, 12319, 28703, 63519, 129055, 262143, 524287])) .nil .nil) (.node (some ([0, 0, 0, 6, 15, 31, 0, 0, 0, 384, 960, 1984, 4095, 8191])) .nil .nil)) (.node none .nil (.node (some ([0, 0, 0, 6, 0, 0, 0, 96, 0, 0, 0, 1536, 3840, 7936, 0, 0, 0, 98304, 245760, 507904, 1048335, 2096911, 4194303, 8388607])) .nil .nil))))) .nil .nil) .nil))) (.node none .nil (.node none (.node (some ((.node none (.node none (.node none .nil (.node (some ([0, 0, 0, 6, 14, 30, 0, 0, 192, 448, 960, 2046, 4095, 8191])) .nil .nil)) .nil) .nil))) (.node (some ((.node none .nil (.node none .nil (.node none (.node (some ([0, 0, 0, 0, 0, 24, 0, 0, 0, 384, 960, 1984, 0, 0, 12288, 28672, 65475, 131011, 262143, 524287])) .nil .nil) .nil))))) .nil .nil) .nil) .nil))) (.node (some ((.node none .nil (.node none (.node none .nil (.node none (.node (some ([0, 0, 0, 6, 14, 31, 63, 0, 0, 384, 896, 2047])) .nil .nil) .nil)) .nil)))) (.node none (.node none (.node (some ((.node none (.node (some ([0, 1, 0, 7, 15, 31])) .nil .nil) .nil))) (.node (some ((.node none (.node none .nil (.node none (.node none (.node (some ([0, 1, 3, 7, 7, 23, 63, 127, 7, 7, 775, 1799, 4095, 8191, 16383])) .nil .nil) .nil) .nil)) .nil))) .nil .nil) .nil) (.node (some ((.node none .nil (.node none .nil (.node (some ([0, 0, 0, 0, 8, 28, 60, 0, 0, 256, 896, 127, 2175, 8191])) .nil .nil))))) (.node (some ((.node none (.node (some ([0, 0, 0, 0, 0, 0, 48, 112, 0, 0, 768, 1792, 4083, 8179, 16383, 32767])) (.node (some ([0, 0, 3, 7, 15, 15, 63, 127, 15, 15, 783, 1807, 4095, 8191, 16383])) .nil .nil) (.node (some ([0, 0, 3, 7, 15, 15, 63, 127, 15, 15, 783, 1807, 4095, 8191])) .nil .nil)) (.node none (.node none (.node (some ([0, 0, 0, 0, 0, 0, 48, 112, 0, 0, 768, 1792, 4083, 8179, 16383, 32767])) .nil .nil) .nil) .nil)))) .nil .nil) .nil)) (.node none (.node none (.node (some ((.node (some ([0, 1, 3, 7, 0, 31, 63, 0, 0, 384, 896, 2047, 4095, 8191])) .nil (.node none (.node (some ([0, 1, 3, 7, 0, 31, 63, 0, 0, 384, 896, 0, 4095, 8191])) .nil .nil) .nil)))) .nil .nil) .nil) (.node (some ((.node none (.node none (.node (some ([0, 1, 3, 7, 15, 0, 32, 0, 128, 384, 896, 2016, 4064, 8160, 16383, 32767])) .nil .nil) .nil) .nil))) (.node (some ((.node none (.node (some ([0, 1, 3, 0, 8, 24, 56, 127, 255, 511])) (.node (some ([0, 1, 3, 0, 8, 24, 56, 127, 255, 511])) .nil .nil) .nil) (.node (some ([0, 1, 3, 0, 8, 24, 56, 127, 255, 511])) .nil .nil)))) .nil .nil) .nil))) (.node none .nil (.node (some ((.node none .nil (.node none (.node none (.node none (.node (some ([0, 0, 0, 0, 0, 0, 48, 112, 0, 0, 768, 1792, 4083, 8179, 16383, 32767])) .nil .nil) .nil) .nil) .nil)))) .nil (.node none (.node (some ((.node none (.node (some ([0, 0, 3, 7, 0, 0, 48, 112, 255])) .nil .nil) .nil))) .nil .nil) .nil))))))
noncomputable def tabEqs : Tr Unit := .nil
noncomputable def tab : Tab := ⟨tabTypes, tabFuns, tabEqs⟩
theorem tabTypes_eq : mkTypes Try.prog 146 = some tabTypes := by kernel_rfl
theorem tabFuns_eq : mkFuns Try.prog [3, 4, 5, 6, 7, 8, 9, 10, 11, 12, 13, 14, 15, 16, 17, 18, 19, 20, 21, 22, 23, 24, 25, 26, 27, 28, 29, 30, 31, 32, 33, 34, 35, 36, 37, 38, 39, 40, 41, 42, 43, 44, 45, 46, 47, 48, 49, 50, 51, 52, 53, 54, 55, 56, 57, 58, 59, 60, 61, 62, 63, 64, 65, 66, 67, 68, 69, 70, 71, 72, 73, 74, 75, 76, 77, 78, 79, 80, 81, 82, 83, 84, 85, 86, 87, 88, 89, 90, 91, 92, 93, 94] = some tabFuns := by kernel_rfl
theorem tabEqs_eq : tabEqs.all (fun t _ => eqChk Try.prog t) (fun k => k) = true := by kernel_rfl
theorem tabRegs_eq : tabFuns.all (tabRegs (maskOf tabMasks)) (fun k => k) = true := by kernel_rfl
theorem tables : Tables' Try.prog tab tabMasks := tables_mk (T := tab) tabEqs_eq tabTypes_eq tabFuns_eq tabRegs_eq
theorem mixed : Try.prog.follows .mixedOrders = true := by kernel_rfl
theorem ty1 : tab.types.get 1 = some ⟨.func, 1, 8, [.nilFunc]⟩ := by kernel_rfl
theorem ty2 : tab.types.get 2 = some ⟨.int .i64, 1, 8, [.int .i64 (0)]⟩ := by kernel_rfl
theorem ty3 : tab.types.get 3 = some ⟨.int .i64, 1, 8, [.int .i64 (0)]⟩ := by kernel_rfl
theorem ty4 : tab.types.get 4 = some ⟨.bool, 1, 1, [.bool false]⟩ := by kernel_rfl
theorem ty5 : tab.types.get 5 = some ⟨.int .u8, 1, 1, [.int .u8 (0)]⟩ := by kernel_rfl
theorem ty9 : tab.types.get 9 = some ⟨.str, 1, 16, [.string ⟨⟨[]⟩⟩]⟩ := by kernel_rfl
theorem ty22 : tab.types.get 22 = some ⟨.slice 23, 1, 24, [.slice none 0 0]⟩ := by kernel_rfl
theorem ty23 : tab.types.get 23 = some ⟨.slice 3, 1, 24, [.slice none 0 0]⟩ := by kernel_rfl
theorem ty27 : tab.types.get 27 = some ⟨.ptr 73, 1, 8, [.pointer none]⟩ := by kernel_rfl
theorem ty28 : tab.types.get 28 = some ⟨.int .i64, 1, 8, [.int .i64 (0)]⟩ := by kernel_rfl
theorem ty50 : tab.types.get 50 = some ⟨.slice 86, 1, 24, [.slice none 0 0]⟩ := by kernel_rfl
theorem ty52 : tab.types.get 52 = some ⟨.struct [(0, 50)], 1, 24, [.slice none 0 0]⟩ := by kernel_rfl
theorem ty54 : tab.types.get 54 = some ⟨.int .u64, 1, 8, [.int .u64 (0)]⟩ := by kernel_rfl
theorem ty65 : tab.types.get 65 = some ⟨.slice 67, 1, 24, [.slice none 0 0]⟩ := by kernel_rfl
theorem ty67 : tab.types.get 67 = some ⟨.ptr 70, 1, 8, [.pointer none]⟩ := by kernel_rfl
theorem ty68 : tab.types.get 68 = some ⟨.map 3 23, 1, 8, [.map none]⟩ := by kernel_rfl
theorem ty70 : tab.types.get 70 = some ⟨.struct [(0, 3), (1, 22), (2, 68)], 3, 40, [.int .i64 (0), .slice none 0 0, .map none]⟩ := by kernel_rfl
theorem ty73 : tab.types.get 73 = some ⟨.struct [(0, 3), (1, 22), (2, 65)], 3, 56, [.int .i64 (0), .slice none 0 0, .slice none 0 0]⟩ := by kernel_rfl
theorem ty84 : tab.types.get 84 = some ⟨.array 64 4, 64, 64, [.bool false, .bool false, .bool false, .bool false, .bool false, .bool false, .bool false, .bool false, .bool false, .bool false, .bool false, .bool false, .bool false, .bool false, .bool false, .bool false, .bool false, .bool false, .bool false, .bool false, .bool false, .bool false, .bool false, .bool false, .bool false, .bool false, .bool false, .bool false, .bool false, .bool false, .bool false, .bool false, .bool false, .bool false, .bool false, .bool false, .bool false, .bool false, .bool false, .bool false, .bool false, .bool false, .bool false, .bool false, .bool false, .bool false, .bool false, .bool false, .bool false, .bool false, .bool false, .bool false, .bool false, .bool false, .bool false, .bool false, .bool false, .bool false, .bool false, .bool false, .bool false, .bool false, .bool false, .bool false]⟩ := by kernel_rfl
theorem ty86 : tab.types.get 86 = some ⟨.int .u32, 1, 4, [.int .u32 (0)]⟩ := by kernel_rfl
theorem ty88 : tab.types.get 88 = some ⟨.slice 5, 1, 24, [.slice none 0 0]⟩ := by kernel_rfl
theorem fn10 : tab.funs.get 10 = some Try.f10 := by kernel_rfl
theorem fn11 : tab.funs.get 11 = some Try.f11 := by kernel_rfl
theorem fn13 : tab.funs.get 13 = some Try.f13 := by kernel_rfl
theorem fn15 : tab.funs.get 15 = some Try.f15 := by kernel_rfl
theorem fn16 : tab.funs.get 16 = some Try.f16 := by kernel_rfl
theorem fn17 : tab.funs.get 17 = some Try.f17 := by kernel_rfl
theorem fn19 : tab.funs.get 19 = some Try.f19 := by kernel_rfl
theorem fn21 : tab.funs.get 21 = some Try.f21 := by kernel_rfl
theorem fn23 : tab.funs.get 23 = some Try.f23 := by kernel_rfl
theorem fn27 : tab.funs.get 27 = some Try.f27 := by kernel_rfl
theorem fn28 : tab.funs.get 28 = some Try.f28 := by kernel_rfl
theorem fn29 : tab.funs.get 29 = some Try.f29 := by kernel_rfl
theorem fn30 : tab.funs.get 30 = some Try.f30 := by kernel_rfl
theorem fn34 : tab.funs.get 34 = some Try.f34 := by kernel_rfl
theorem fn37 : tab.funs.get 37 = some Try.f37 := by kernel_rfl
theorem fn38 : tab.funs.get 38 = some Try.f38 := by kernel_rfl
theorem fn40 : tab.funs.get 40 = some Try.f40 := by kernel_rfl
theorem fn41 : tab.funs.get 41 = some Try.f41 := by kernel_rfl
theorem fn46 : tab.funs.get 46 = some Try.f46 := by kernel_rfl
theorem fn48 : tab.funs.get 48 = some Try.f48 := by kernel_rfl
theorem fn49 : tab.funs.get 49 = some Try.f49 := by kernel_rfl
theorem fn50 : tab.funs.get 50 = some Try.f50 := by kernel_rfl
theorem fn51 : tab.funs.get 51 = some Try.f51 := by kernel_rfl
theorem fn54 : tab.funs.get 54 = some Try.f54 := by kernel_rfl
theorem fn63 : tab.funs.get 63 = some Try.f63 := by kernel_rfl
theorem fn64 : tab.funs.get 64 = some Try.f64 := by kernel_rfl
theorem fn71 : tab.funs.get 71 = some Try.f71 := by kernel_rfl
theorem fn73 : tab.funs.get 73 = some Try.f73 := by kernel_rfl
theorem fn87 : tab.funs.get 87 = some Try.f87 := by kernel_rfl
end Go.Proofs.Ytkffcclalncgdaa.Iv
end
section
namespace Go.Proofs.Ytkffcclalncgdaa.Iv
open Go Go.Iv
theorem base0 : Base Try.prog tab noSum := ⟨tables.ok, mixed, noSum_ok, noSum_le⟩
end Go.Proofs.Ytkffcclalncgdaa.Iv
end
section
set_option linter.unusedVariables false
set_option linter.unusedSimpArgs false
namespace Pg
def ap (p : List Nat) (i : Nat) : Nat := (p[i]?).getD i
structure Is (n : Nat) (p : List Nat) : Prop where
 len : p.length = n
 lt : ∀ i, i < n → ap p i < n
 inj : ∀ i j, i < n → j < n → ap p i = ap p j → i = j
theorem ap_get {p : List Nat} {i : Nat} (h : i < p.length) : ap p i = p[i] := by simp [ap, h]
theorem ap_out {p : List Nat} {i : Nat} (h : p.length ≤ i) : ap p i = i := by simp [ap, h]
theorem Is.ap_out {n : Nat} {p : List Nat} (h : Is n p) {i : Nat} (hi : n ≤ i) : ap p i = i := Pg.ap_out (by rw [h.len]; exact hi)
theorem Is.inj' {n : Nat} {p : List Nat} (h : Is n p) {i j : Nat} (e : ap p i = ap p j) : i = j := by
 rcases Nat.lt_or_ge i n with hi | hi <;> rcases Nat.lt_or_ge j n with hj | hj
 ·exact h.inj i j hi hj e
 ·have := h.lt i hi
  rw [h.ap_out hj] at e; omega
 ·have := h.lt j hj
  rw [h.ap_out hi] at e; omega
 ·rwa [h.ap_out hi, h.ap_out hj] at e
theorem ext {n : Nat} {p q : List Nat} (hp : p.length = n) (hq : q.length = n) (h : ∀ i, i < n → ap p i = ap q i) : p = q := by
 refine List.ext_getElem (by omega) fun i h1 h2 => ?_
 have := h i (by omega)
 rwa [ap_get h1, ap_get h2] at this
theorem nodup_len : ∀ (l m : List Nat), l.Nodup → (∀ x ∈ l, x ∈ m) → l.length ≤ m.length
 | [], _, _, _ => by simp
 | x :: l, m, h, k => by
  have hx : x ∈ m := k x (by simp)
  have h1 := List.nodup_cons.1 h
  have := nodup_len l (m.erase x) h1.2 fun y hy => by
   have hne : y ≠ x := fun e => h1.1 (e ▸ hy)
   exact (List.mem_erase_of_ne hne).2 (k y (by simp [hy]))
  rw [List.length_erase_of_mem hx] at this
  have hp : 0 < m.length := List.length_pos_of_mem hx
  simp only [List.length_cons]
  omega
theorem surj (n : Nat) (f : Nat → Nat) (hl : ∀ i, i < n → f i < n) (hi : ∀ i j, i < n → j < n → f i = f j → i = j) (y : Nat) (hy : y < n) : ∃ i, i < n ∧ f i = y := by
 by_cases h : ∃ i, i < n ∧ f i = y
 ·exact h
 ·exfalso
  have hd : ((List.range n).map f).Nodup := by
   rw [List.nodup_iff_pairwise_ne, List.pairwise_map]
   have := List.nodup_range (n := n)
   rw [List.nodup_iff_pairwise_ne] at this
   refine List.Pairwise.imp_of_mem ?_ this
   intro a b ha hb hne e
   exact hne (hi a b (List.mem_range.1 ha) (List.mem_range.1 hb) e)
  have := nodup_len (y :: (List.range n).map f) (List.range n) (List.nodup_cons.2 ⟨fun k => by
   obtain ⟨i, h1, h2⟩ := List.mem_map.1 k
   exact h ⟨i, List.mem_range.1 h1, h2⟩, hd⟩) fun x hx => by
    rcases List.mem_cons.1 hx with rfl | hx
    ·exact List.mem_range.2 hy
    ·obtain ⟨i, h1, rfl⟩ := List.mem_map.1 hx
     exact List.mem_range.2 (hl i (List.mem_range.1 h1))
  simp at this
  omega
structure Pm (n : Nat) where
 l : List Nat
 ok : Is n l
def Pm.at {n : Nat} (p : Pm n) (i : Nat) : Nat := ap p.l i
theorem Pm.ext {n : Nat} {p q : Pm n} (h : ∀ i, i < n → p.at i = q.at i) : p = q := by
 cases p with | mk l hl => cases q with | mk m hm =>
 have : l = m := Pg.ext hl.len hm.len h
 subst this; rfl
theorem Pm.lt {n : Nat} (p : Pm n) {i : Nat} (h : i < n) : p.at i < n := p.ok.lt i h
theorem Pm.inj {n : Nat} (p : Pm n) {i j : Nat} (h : p.at i = p.at j) : i = j := p.ok.inj' h
theorem Pm.out {n : Nat} (p : Pm n) {i : Nat} (h : n ≤ i) : p.at i = i := p.ok.ap_out h
def mulL (p q : List Nat) : List Nat := p.map (ap q)
theorem ap_mulL {n : Nat} {p q : List Nat} (hp : p.length = n) (hq : q.length = n) (i : Nat) : ap (mulL p q) i = ap q (ap p i) := by
 rcases Nat.lt_or_ge i n with hi | hi
 ·rw [ap_get (by simp [mulL]; omega), ap_get (p := p) (by omega)]
  simp [mulL]
 ·rw [ap_out (by simp [mulL]; omega), ap_out (p := p) (by omega), ap_out (by omega)]
theorem Is.mul {n : Nat} {p q : List Nat} (hp : Is n p) (hq : Is n q) : Is n (mulL p q) :=
 ⟨by simp [mulL, hp.len], fun i hi => by rw [ap_mulL hp.len hq.len]; exact hq.lt _ (hp.lt i hi), fun i j hi hj e => by
  rw [ap_mulL hp.len hq.len, ap_mulL hp.len hq.len] at e
  exact hp.inj' (hq.inj' e)⟩
def Pm.mul {n : Nat} (p q : Pm n) : Pm n := ⟨mulL p.l q.l, p.ok.mul q.ok⟩
theorem Pm.at_mul {n : Nat} (p q : Pm n) (i : Nat) : (p.mul q).at i = q.at (p.at i) := ap_mulL p.ok.len q.ok.len i
theorem ap_range (n i : Nat) : ap (List.range n) i = i := by
 rcases Nat.lt_or_ge i n with hi | hi
 ·rw [ap_get (by simpa using hi)]; simp
 ·rw [ap_out (by simpa using hi)]
def Pm.one (n : Nat) : Pm n := ⟨List.range n, by simp, fun i hi => by rw [ap_range]; exact hi, fun i j _ _ e => by rwa [ap_range, ap_range] at e⟩
theorem Pm.at_one (n i : Nat) : (Pm.one n).at i = i := ap_range n i
def invL (p : List Nat) : List Nat := (List.range p.length).map fun i => p.idxOf i
theorem ap_idxOf {n : Nat} {p : List Nat} (h : Is n p) {i : Nat} (hi : i < n) : p.idxOf (ap p i) = i := by
 have hi' : i < p.length := by rw [h.len]; exact hi
 have hm : ap p i ∈ p := by rw [ap_get hi']; exact List.getElem_mem hi'
 have hl := List.idxOf_lt_length_of_mem hm
 have := List.getElem_idxOf hl
 refine h.inj' ?_
 rw [ap_get hl, this]
theorem ap_invL {n : Nat} {p : List Nat} (h : Is n p) (i : Nat) : ap (invL p) (ap p i) = i := by
 rcases Nat.lt_or_ge i n with hi | hi
 ·have := h.lt i hi
  rw [ap_get (by simp [invL, h.len]; omega)]
  simp only [invL, List.getElem_map, List.getElem_range]
  exact ap_idxOf h hi
 ·rw [h.ap_out hi, ap_out (by simp [invL, h.len]; omega)]
theorem Is.met {n : Nat} {p : List Nat} (h : Is n p) (y : Nat) : ∃ i, ap p i = y := by
 rcases Nat.lt_or_ge y n with hy | hy
 ·obtain ⟨i, _, h2⟩ := surj n (ap p) h.lt h.inj y hy
  exact ⟨i, h2⟩
 ·exact ⟨y, h.ap_out hy⟩
theorem ap_invL' {n : Nat} {p : List Nat} (h : Is n p) (y : Nat) : ap p (ap (invL p) y) = y := by
 obtain ⟨i, rfl⟩ := h.met y
 rw [ap_invL h]
theorem Is.inv {n : Nat} {p : List Nat} (h : Is n p) : Is n (invL p) :=
 ⟨by simp [invL, h.len], fun y hy => by
  obtain ⟨i, h1, rfl⟩ := surj n (ap p) h.lt h.inj y hy
  rw [ap_invL h]; exact h1, fun i j _ _ e => by rw [← ap_invL' h i, ← ap_invL' h j, e]⟩
def Pm.inv {n : Nat} (p : Pm n) : Pm n := ⟨invL p.l, p.ok.inv⟩
theorem Pm.inv_at {n : Nat} (p : Pm n) (i : Nat) : p.inv.at (p.at i) = i := ap_invL p.ok i
theorem Pm.at_inv {n : Nat} (p : Pm n) (i : Nat) : p.at (p.inv.at i) = i := ap_invL' p.ok i
section laws
variable {n : Nat} (p q r : Pm n)
theorem Pm.assoc : (p.mul q).mul r = p.mul (q.mul r) := Pm.ext fun i _ => by simp only [Pm.at_mul]
theorem Pm.one_mul : (Pm.one n).mul p = p := Pm.ext fun i _ => by simp only [Pm.at_mul, Pm.at_one]
theorem Pm.mul_one : p.mul (Pm.one n) = p := Pm.ext fun i _ => by simp only [Pm.at_mul, Pm.at_one]
theorem Pm.mul_inv : p.mul p.inv = Pm.one n := Pm.ext fun i _ => by simp only [Pm.at_mul, Pm.at_one, Pm.inv_at]
theorem Pm.inv_mul : p.inv.mul p = Pm.one n := Pm.ext fun i _ => by simp only [Pm.at_mul, Pm.at_one, Pm.at_inv]
theorem Pm.inv_one : (Pm.one n).inv = Pm.one n := by
 have := Pm.mul_inv (Pm.one n)
 rwa [Pm.one_mul] at this
theorem Pm.mul_inv_mul : (p.mul q.inv).mul q = p := by rw [Pm.assoc, Pm.inv_mul, Pm.mul_one]
theorem Pm.mul_mul_inv : (p.mul q).mul q.inv = p := by rw [Pm.assoc, Pm.mul_inv, Pm.mul_one]
theorem Pm.inv_of {p q : Pm n} (h : p.mul q = Pm.one n) : p.inv = q := by
 have : p.inv.mul (p.mul q) = p.inv := by rw [h, Pm.mul_one]
 rw [← Pm.assoc, Pm.inv_mul, Pm.one_mul] at this
 exact this.symm
end laws
def Pm.pow {n : Nat} (p : Pm n) : Nat → Pm n
 | 0 => Pm.one n
 | k + 1 => (p.pow k).mul p
theorem Pm.pow_add {n : Nat} (p : Pm n) (a : Nat) : ∀ b, p.pow (a + b) = (p.pow a).mul (p.pow b)
 | 0 => by rw [Pm.pow, Pm.mul_one]; rfl
 | b + 1 => by rw [← Nat.add_assoc, Pm.pow, Pm.pow_add p a b, Pm.pow, Pm.assoc]
theorem Pm.back {n : Nat} (p : Pm n) (i : Nat) : ∃ d, 0 < d ∧ (p.pow d).at i = i := by
 rcases Nat.lt_or_ge i n with hi | hi
 ·by_cases h : ∃ a b, a < b ∧ (p.pow a).at i = (p.pow b).at i
  ·obtain ⟨a, b, h1, h2⟩ := h
   refine ⟨b - a, by omega, ?_⟩
   have e : p.pow b = (p.pow (b - a)).mul (p.pow a) := by rw [← Pm.pow_add]; congr 1; omega
   rw [e, Pm.at_mul] at h2
   exact ((p.pow a).inj h2).symm
  ·exfalso
   have lt : ∀ k, (p.pow k).at i < n := fun k => (p.pow k).lt hi
   have hd : ((List.range (n + 1)).map fun k => (p.pow k).at i).Nodup := by
    rw [List.nodup_iff_pairwise_ne, List.pairwise_map]
    have := List.nodup_range (n := n + 1)
    rw [List.nodup_iff_pairwise_ne] at this
    refine List.Pairwise.imp_of_mem ?_ this
    intro a b _ _ hne e
    rcases Nat.lt_or_ge a b with h1 | h1
    ·exact h ⟨a, b, h1, e⟩
    ·exact h ⟨b, a, by omega, e.symm⟩
   have := nodup_len _ (List.range n) hd fun x hx => by
    obtain ⟨k, _, rfl⟩ := List.mem_map.1 hx
    exact List.mem_range.2 (lt k)
   simp at this
   omega
 ·exact ⟨1, by omega, (p.pow 1).out hi⟩
theorem Pm.back_mul {n : Nat} (p : Pm n) (i d : Nat) (h : (p.pow d).at i = i) : ∀ k, (p.pow (d * k)).at i = i
 | 0 => Pm.at_one n i
 | k + 1 => by rw [Nat.mul_succ, Pm.pow_add, Pm.at_mul, Pm.back_mul p i d h k, h]
theorem Pm.back_all {n : Nat} (p : Pm n) : ∀ m, ∃ d, 0 < d ∧ ∀ i, i < m → (p.pow d).at i = i
 | 0 => ⟨1, by omega, fun i h => by omega⟩
 | m + 1 => by
  obtain ⟨d, h1, h2⟩ := Pm.back_all p m
  obtain ⟨e, h3, h4⟩ := Pm.back p m
  refine ⟨d * e, Nat.mul_pos h1 h3, fun i hi => ?_⟩
  rcases Nat.lt_or_ge i m with h | h
  ·exact Pm.back_mul p i d (h2 i h) e
  ·obtain rfl : i = m := by omega
   rw [Nat.mul_comm]
   exact Pm.back_mul p i e h4 d
theorem Pm.inv_pow {n : Nat} (p : Pm n) : ∃ k, p.inv = p.pow k := by
 obtain ⟨d, h1, h2⟩ := Pm.back_all p n
 obtain ⟨k, rfl⟩ : ∃ k, d = k + 1 := ⟨d - 1, by omega⟩
 refine ⟨k, ?_⟩
 have e : p.pow (k + 1) = Pm.one n := Pm.ext fun i hi => by rw [h2 i hi, Pm.at_one]
 have e2 : p.pow (k + 1) = p.mul (p.pow k) := by
  rw [Nat.add_comm, Pm.pow_add]
  congr 1
  exact Pm.one_mul p
 rw [e2] at e
 exact Pm.inv_of e
inductive Mon {n : Nat} (S : List (Pm n)) : Pm n → Prop
 | one : Mon S (Pm.one n)
 | step {p g : Pm n} : Mon S p → g ∈ S → Mon S (p.mul g)
theorem Mon.mul {n : Nat} {S : List (Pm n)} {p q : Pm n} (hp : Mon S p) (hq : Mon S q) : Mon S (p.mul q) := by
 induction hq with
 | one => rw [Pm.mul_one]; exact hp
 | step _ hg ih => rw [← Pm.assoc]; exact .step ih hg
theorem Mon.of {n : Nat} {S : List (Pm n)} {g : Pm n} (h : g ∈ S) : Mon S g := by
 have := Mon.step Mon.one h
 rwa [Pm.one_mul] at this
theorem Mon.pow {n : Nat} {S : List (Pm n)} {p : Pm n} (hp : Mon S p) : ∀ k, Mon S (p.pow k)
 | 0 => .one
 | k + 1 => (Mon.pow hp k).mul hp
theorem Mon.inv {n : Nat} {S : List (Pm n)} {p : Pm n} (hp : Mon S p) : Mon S p.inv := by
 obtain ⟨k, h⟩ := p.inv_pow
 rw [h]; exact hp.pow k
theorem Mon.into {n : Nat} {S S' : List (Pm n)} (h : ∀ g ∈ S, Mon S' g) {p : Pm n} (hp : Mon S p) : Mon S' p := by
 induction hp with
 | one => exact .one
 | step _ hg ih => exact ih.mul (h _ hg)
theorem Mon.sub {n : Nat} {S S' : List (Pm n)} (h : ∀ g ∈ S, g ∈ S') {p : Pm n} (hp : Mon S p) : Mon S' p := hp.into fun g hg => .of (h g hg)
end Pg
end
section
set_option maxHeartbeats 4000000
set_option linter.unusedVariables false
set_option linter.unusedSimpArgs false
set_option maxRecDepth 10000
namespace Go.Proofs.Ytkffcclalncgdaa.Iv
open Go Go.Iv Go.RowKit
def pc (x : Nat) : AV := .flat (.int .i64 (x : Int))
def pl (p : List Nat) : AV := .isl (p.map pc) 1 0 p.length
theorem pl_pure (p : List Nat) : (pl p).pure = true := by simp only [pl, AV.pure]; exact pureL_map (fun _ => rfl) p
theorem pl_get {p : List Nat} {i x : Nat} (h : p[i]? = some x) : (p.map pc)[i]? = some (.flat (.int .i64 (x : Int))) := by rw [List.getElem?_map, h]; rfl
theorem cells_tab {n : Nat} {C : List AV} {p : List Nat} (hC : C.length = n) (hp : p.length = n) (h : ∀ x, x < n → C[x]? = some (pc (p.getD x 0))) : C = p.map pc := by
 apply List.ext_getElem?
 intro i
 by_cases hi : i < n
 ·rw [h i hi, List.getElem?_map, List.getD_eq_getElem?_getD, List.getElem?_eq_getElem (by omega)]; rfl
 ·rw [List.getElem?_eq_none (by omega), List.getElem?_eq_none (by simp; omega)]
theorem pl_freeze {h : Hp} {b n : Nat} {p : List Nat} {te : TypeId} {x : Bool} (hm : h.m b = some (.cells (p.map pc) te x)) (hn : p.length = n) :
    ∃ g, Fz g (.slice b 0 n (.exact n)) (pl p) ∧ ∀ i l, g i = some l → pureL l = true ∧ ∃ l0 e q, h.m i = some (.cells l0 e q) ∧ FzL g l0 l := by
 subst hn
 refine ⟨fun i => if i = b then some (p.map pc) else none, Fz.slice (by simp) (Nat.le_refl _) (by simp) Nat.one_pos, fun i l hi => ?_⟩
 by_cases e : i = b
 ·subst e
  simp only [if_true, Option.some.injEq] at hi
  subst hi
  exact ⟨pureL_map (fun _ => rfl) p, _, te, x, hm, FzL.refl _ _⟩
 ·simp only [if_neg e] at hi; cases hi
theorem still_sem (n : Nat) (hn : n ≤ 1000) (h : Hp) : SemCall Try.prog 38 [.flat (.int .i64 (n : Int))] h (.ret (pl (List.range n))) h := by
 refine sem_pure tables.ok Try.func38 rfl rfl rfl rfl rfl (pl_pure _) ?_ h
 have B := base0
 unfold Try.f38 bodyOf entry; simp only [Option.getD_some, List.length_cons, List.length_nil, Nat.reduceAdd, Nat.reduceSub]
 repeat (first
  | refine wp_seqQ ?_ | refine wp_blockQ ?_ | refine wp_scopeQ ?_
  | ((first | refine wp_skipQ ?_ | refine wp_labelQ ?_ | refine wp_exitQ ?_ | refine wp_retQ ?_); simp only [kQ, Nat.reduceEqDiff, reduceIte])
  | (refine wp_reg B ?_; simp (disch := omega) only [kW, Nat.reduceEqDiff, reduceIte, Nat.reduceLT, Nat.reduceLeDiff, Nat.reduceAdd, Nat.reduceSub, Nat.reduceMul, Nat.reducePow, Nat.reduceDiv, Nat.reduceMod, evIndexAddr, TD.agg, evFieldAddr, ty3, ty23])
  | refine wp_condT rfl ?_ | refine wp_condF rfl ?_)
 refine wp_loopQ (fun k s => ∃ (i : Nat) (tm : Nat → Option AV) (h : Hp) (C : List AV), s = ⟨tm, 18, h, []⟩ ∧ k = n - i ∧ i ≤ n ∧ tm 3 = some (.slice 0 0 n (.exact n)) ∧ tm 8 = some (.flat (.int .i64 (n : Int))) ∧ tm 9 = some (.flat (.int .i64 (i : Int))) ∧ h.next = 1 ∧ h.m 0 = some (.cells C 3 false) ∧ C.length = n ∧ ∀ x, x < i → C[x]? = some (pc x)) n ?_ ?_
 ·exact ⟨0, _, _, List.replicate n (.flat (.int .i64 0)), rfl, rfl, Nat.zero_le _, rfl, rfl, rfl, rfl, rfl, by simp, fun x hx => by omega⟩
 ·rintro k s ⟨i, tm, h, C, rfl, rfl, hi, t3, t8, t9, hnx, hm, hC, hCx⟩
  repeat (first
   | refine wp_seqQ ?_ | refine wp_blockQ ?_ | refine wp_scopeQ ?_
   | ((first | refine wp_skipQ ?_ | refine wp_labelQ ?_ | refine wp_exitQ ?_ | refine wp_retQ ?_); simp only [kQ, Nat.reduceEqDiff, reduceIte])
   | (refine wp_reg B ?_; simp (disch := omega) only [kW, Nat.reduceEqDiff, reduceIte, Nat.reduceLT, Nat.reduceLeDiff, Nat.reduceAdd, Nat.reduceSub, Nat.reduceMul, Nat.reducePow, Nat.reduceDiv, Nat.reduceMod, evIndexAddr, TD.agg, evFieldAddr, ty3, ty23, t3, t8, t9])
   | refine wp_condT rfl ?_ | refine wp_condF rfl ?_)
  refine wp_if rfl (fun ilt => ?_) (fun ige => ?_)
  ·repeat (first
     | refine wp_seqQ ?_ | refine wp_blockQ ?_ | refine wp_scopeQ ?_
     | ((first | refine wp_skipQ ?_ | refine wp_labelQ ?_ | refine wp_exitQ ?_ | refine wp_retQ ?_); simp only [kQ, Nat.reduceEqDiff, reduceIte])
     | (refine wp_reg B ?_; simp (disch := omega) only [kW, Nat.reduceEqDiff, reduceIte, Nat.reduceLT, Nat.reduceLeDiff, Nat.reduceAdd, Nat.reduceSub, Nat.reduceMul, Nat.reducePow, Nat.reduceDiv, Nat.reduceMod, evIndexAddr, TD.agg, evFieldAddr, ty3, ty23, t3, t8, t9, hm, hC])
     | refine wp_condT rfl ?_ | refine wp_condF rfl ?_)
   refine ⟨_, ?_, i + 1, _, _, C.set i (pc i), rfl, rfl, by omega, t3, t8, rfl, hnx, ?_, by simp [hC], fun x hx => ?_⟩
   ·omega
   ·simp only [upd_eq, pc]
   ·by_cases e : x = i
    ·subst e; exact List.getElem?_set_self (by omega)
    ·rw [List.getElem?_set_ne (by omega)]; exact hCx x (by omega)
  ·obtain rfl := cells_tab (p := List.range n) hC (by simp) fun x hx => by rw [hCx x (by omega)]; simp [List.getD_eq_getElem?_getD, List.getElem?_range hx]
   obtain ⟨g, q1, q2⟩ := pl_freeze (n := n) hm (by simp)
   repeat (first
    | refine wp_seqQ ?_ | refine wp_blockQ ?_ | refine wp_scopeQ ?_
    | ((first | refine wp_skipQ ?_ | refine wp_labelQ ?_ | refine wp_exitQ ?_ | refine wp_retQ ?_); simp only [kQ, Nat.reduceEqDiff, reduceIte])
    | ((fail_if_success refine wp_reg (id := 7) B ?_); refine wp_reg B ?_; simp (disch := omega) only [kW, Nat.reduceEqDiff, reduceIte, Nat.reduceLT, Nat.reduceLeDiff, Nat.reduceAdd, Nat.reduceSub, Nat.reduceMul, Nat.reducePow, Nat.reduceDiv, Nat.reduceMod, evIndexAddr, TD.agg, evFieldAddr, ty3, ty23, t3, t8, t9])
    | refine wp_condT rfl ?_ | refine wp_condF rfl ?_)
   refine WP.freeze 3 g t3 q1 q2 ?_
   repeat (first
    | refine wp_seqQ ?_ | refine wp_blockQ ?_ | refine wp_scopeQ ?_
    | ((first | refine wp_skipQ ?_ | refine wp_labelQ ?_ | refine wp_exitQ ?_ | refine wp_retQ ?_); simp only [kQ, Nat.reduceEqDiff, reduceIte])
    | (refine wp_reg B ?_; simp (disch := omega) only [kW, Nat.reduceEqDiff, reduceIte, Nat.reduceLT, Nat.reduceLeDiff, Nat.reduceAdd, Nat.reduceSub, Nat.reduceMul, Nat.reducePow, Nat.reduceDiv, Nat.reduceMod, evIndexAddr, TD.agg, evFieldAddr, ty3, ty23])
    | refine wp_condT rfl ?_ | refine wp_condF rfl ?_)
   simp (disch := omega) only [kS, Nat.reduceEqDiff, reduceIte, Nat.reduceLT, Nat.reduceLeDiff, Nat.reduceAdd, Nat.reduceSub, Nat.reduceMul, Nat.reducePow, Nat.reduceDiv, Nat.reduceMod, evIndexAddr, TD.agg, evFieldAddr, ty3, ty23]
theorem cmul_sem (p q : List Nat) (hp : p.length ≤ 1000) (hq : ∀ x ∈ p, x < q.length) (hql : q.length ≤ 1000) (h : Hp) : SemCall Try.prog 54 [pl p, pl q] h (.ret (pl (Pg.mulL p q))) h := by
 refine sem_pure tables.ok Try.func54 rfl rfl rfl rfl (by simp [pureL, pl_pure]) (pl_pure _) ?_ h
 have B := base0
 obtain ⟨n, hn⟩ : ∃ n, n = p.length := ⟨_, rfl⟩
 have lp : pl p = .isl (p.map pc) 1 0 n := by rw [hn]; rfl
 rw [lp]
 unfold Try.f54 bodyOf entry; simp only [Option.getD_some, List.length_cons, List.length_nil, Nat.reduceAdd, Nat.reduceSub]
 repeat (first
  | refine wp_seqQ ?_ | refine wp_blockQ ?_ | refine wp_scopeQ ?_
  | ((first | refine wp_skipQ ?_ | refine wp_labelQ ?_ | refine wp_exitQ ?_ | refine wp_retQ ?_); simp only [kQ, Nat.reduceEqDiff, reduceIte])
  | (refine wp_reg B ?_; simp (disch := omega) only [kW, Nat.reduceEqDiff, reduceIte, Nat.reduceLT, Nat.reduceLeDiff, Nat.reduceAdd, Nat.reduceSub, Nat.reduceMul, Nat.reducePow, Nat.reduceDiv, Nat.reduceMod, evIndexAddr, TD.agg, evFieldAddr, ty3, ty23])
  | refine wp_condT rfl ?_ | refine wp_condF rfl ?_)
 refine wp_loopQ (fun k s => ∃ (i : Nat) (tm : Nat → Option AV) (h : Hp) (C : List AV), s = ⟨tm, 27, h, []⟩ ∧ k = n - i ∧ i ≤ n ∧ tm 1 = some (pl q) ∧ tm 11 = some (.isl (p.map pc) 1 0 n) ∧ tm 5 = some (.slice 0 0 n (.exact n)) ∧ tm 12 = some (.flat (.int .i64 (n : Int))) ∧ tm 13 = some (.flat (.int .i64 (i : Int))) ∧ h.next = 1 ∧ h.m 0 = some (.cells C 3 false) ∧ C.length = n ∧ ∀ x, x < i → C[x]? = some (pc ((Pg.mulL p q).getD x 0))) n ?_ ?_
 ·exact ⟨0, _, _, List.replicate n (.flat (.int .i64 0)), rfl, rfl, Nat.zero_le _, rfl, rfl, rfl, rfl, rfl, rfl, rfl, by simp, fun x hx => by omega⟩
 ·rintro k s ⟨i, tm, h, C, rfl, rfl, hi, t1, t11, t5, t12, t13, hnx, hm, hC, hCx⟩
  repeat (first
   | refine wp_seqQ ?_ | refine wp_blockQ ?_ | refine wp_scopeQ ?_
   | ((first | refine wp_skipQ ?_ | refine wp_labelQ ?_ | refine wp_exitQ ?_ | refine wp_retQ ?_); simp only [kQ, Nat.reduceEqDiff, reduceIte])
   | (refine wp_reg B ?_; simp (disch := omega) only [kW, Nat.reduceEqDiff, reduceIte, Nat.reduceLT, Nat.reduceLeDiff, Nat.reduceAdd, Nat.reduceSub, Nat.reduceMul, Nat.reducePow, Nat.reduceDiv, Nat.reduceMod, evIndexAddr, TD.agg, evFieldAddr, ty3, ty23, t1, t11, t5, t12, t13])
   | refine wp_condT rfl ?_ | refine wp_condF rfl ?_)
  refine wp_if rfl (fun ilt => ?_) (fun ige => ?_)
  ·obtain ⟨x, hx⟩ : ∃ x, p[i]? = some x := ⟨p[i], List.getElem?_eq_getElem (by omega)⟩
   have hxq := hq x (List.mem_of_getElem? hx)
   obtain ⟨y, hy⟩ : ∃ y, q[x]? = some y := ⟨q[x], List.getElem?_eq_getElem hxq⟩
   have g1 := pl_get hx
   have g2 := pl_get hy
   repeat (first
    | refine wp_seqQ ?_ | refine wp_blockQ ?_ | refine wp_scopeQ ?_
    | ((first | refine wp_skipQ ?_ | refine wp_labelQ ?_ | refine wp_exitQ ?_ | refine wp_retQ ?_); simp only [kQ, Nat.reduceEqDiff, reduceIte])
    | (refine wp_reg B ?_; simp (disch := omega) only [kW, Nat.reduceEqDiff, reduceIte, Nat.reduceLT, Nat.reduceLeDiff, Nat.reduceAdd, Nat.reduceSub, Nat.reduceMul, Nat.reducePow, Nat.reduceDiv, Nat.reduceMod, evIndexAddr, TD.agg, evFieldAddr, ty3, ty23, t1, t11, t5, t12, t13, hm, hC, pl, g1, g2])
    | refine wp_condT rfl ?_ | refine wp_condF rfl ?_)
   refine ⟨_, ?_, i + 1, _, _, C.set i (pc y), rfl, rfl, by omega, t1, t11, t5, t12, rfl, hnx, ?_, by simp [hC], fun z hz => ?_⟩
   ·omega
   ·simp only [upd_eq, pc]
   ·by_cases e : z = i
    ·subst e
     rw [List.getElem?_set_self (by omega)]
     simp [Pg.mulL, List.getD_eq_getElem?_getD, List.getElem?_map, hx, Pg.ap, hy]
    ·rw [List.getElem?_set_ne (by omega)]; exact hCx z (by omega)
  ·have hml : (Pg.mulL p q).length = n := by simp [Pg.mulL, hn]
   obtain rfl := cells_tab (p := Pg.mulL p q) hC hml fun x hx => hCx x (by omega)
   obtain ⟨g, q1, q2⟩ := pl_freeze (n := n) hm hml
   repeat (first
    | refine wp_seqQ ?_ | refine wp_blockQ ?_ | refine wp_scopeQ ?_
    | ((first | refine wp_skipQ ?_ | refine wp_labelQ ?_ | refine wp_exitQ ?_ | refine wp_retQ ?_); simp only [kQ, Nat.reduceEqDiff, reduceIte])
    | ((fail_if_success refine wp_reg (id := 7) B ?_); refine wp_reg B ?_; simp (disch := omega) only [kW, Nat.reduceEqDiff, reduceIte, Nat.reduceLT, Nat.reduceLeDiff, Nat.reduceAdd, Nat.reduceSub, Nat.reduceMul, Nat.reducePow, Nat.reduceDiv, Nat.reduceMod, evIndexAddr, TD.agg, evFieldAddr, ty3, ty23, t1, t11, t5, t12, t13])
    | refine wp_condT rfl ?_ | refine wp_condF rfl ?_)
   refine WP.freeze 5 g t5 q1 q2 ?_
   repeat (first
    | refine wp_seqQ ?_ | refine wp_blockQ ?_ | refine wp_scopeQ ?_
    | ((first | refine wp_skipQ ?_ | refine wp_labelQ ?_ | refine wp_exitQ ?_ | refine wp_retQ ?_); simp only [kQ, Nat.reduceEqDiff, reduceIte])
    | (refine wp_reg B ?_; simp (disch := omega) only [kW, Nat.reduceEqDiff, reduceIte, Nat.reduceLT, Nat.reduceLeDiff, Nat.reduceAdd, Nat.reduceSub, Nat.reduceMul, Nat.reducePow, Nat.reduceDiv, Nat.reduceMod, evIndexAddr, TD.agg, evFieldAddr, ty3, ty23])
    | refine wp_condT rfl ?_ | refine wp_condF rfl ?_)
   simp (disch := omega) only [kS, Nat.reduceEqDiff, reduceIte, Nat.reduceLT, Nat.reduceLeDiff, Nat.reduceAdd, Nat.reduceSub, Nat.reduceMul, Nat.reducePow, Nat.reduceDiv, Nat.reduceMod, evIndexAddr, TD.agg, evFieldAddr, ty3, ty23]
theorem cinv_sem (n : Nat) (p : List Nat) (hp : Pg.Is n p) (hn : n ≤ 1000) (h : Hp) : SemCall Try.prog 87 [pl p] h (.ret (pl (Pg.invL p))) h := by
 refine sem_pure tables.ok Try.func87 rfl rfl rfl rfl (by simp [pureL, pl_pure]) (pl_pure _) ?_ h
 have B := base0
 have hl := hp.len
 have lp : pl p = .isl (p.map pc) 1 0 n := by rw [← hl]; rfl
 rw [lp]
 unfold Try.f87 bodyOf entry; simp only [Option.getD_some, List.length_cons, List.length_nil, Nat.reduceAdd, Nat.reduceSub]
 repeat (first
  | refine wp_seqQ ?_ | refine wp_blockQ ?_ | refine wp_scopeQ ?_
  | ((first | refine wp_skipQ ?_ | refine wp_labelQ ?_ | refine wp_exitQ ?_ | refine wp_retQ ?_); simp only [kQ, Nat.reduceEqDiff, reduceIte])
  | (refine wp_reg B ?_; simp (disch := omega) only [kW, Nat.reduceEqDiff, reduceIte, Nat.reduceLT, Nat.reduceLeDiff, Nat.reduceAdd, Nat.reduceSub, Nat.reduceMul, Nat.reducePow, Nat.reduceDiv, Nat.reduceMod, evIndexAddr, TD.agg, evFieldAddr, ty3, ty23])
  | refine wp_condT rfl ?_ | refine wp_condF rfl ?_)
 refine wp_loopQ (fun k s => ∃ (i : Nat) (tm : Nat → Option AV) (h : Hp) (C : List AV), s = ⟨tm, 22, h, []⟩ ∧ k = n - i ∧ i ≤ n ∧ tm 9 = some (.isl (p.map pc) 1 0 n) ∧ tm 3 = some (.slice 0 0 n (.exact n)) ∧ tm 10 = some (.flat (.int .i64 (n : Int))) ∧ tm 11 = some (.flat (.int .i64 (i : Int))) ∧ h.next = 1 ∧ h.m 0 = some (.cells C 3 false) ∧ C.length = n ∧ ∀ x, x < i → C[Pg.ap p x]? = some (pc x)) n ?_ ?_
 ·exact ⟨0, _, _, List.replicate n (.flat (.int .i64 0)), rfl, rfl, Nat.zero_le _, rfl, rfl, rfl, rfl, rfl, rfl, by simp, fun x hx => by omega⟩
 ·rintro k s ⟨i, tm, h, C, rfl, rfl, hi, t9, t3, t10, t11, hnx, hm, hC, hCx⟩
  repeat (first
   | refine wp_seqQ ?_ | refine wp_blockQ ?_ | refine wp_scopeQ ?_
   | ((first | refine wp_skipQ ?_ | refine wp_labelQ ?_ | refine wp_exitQ ?_ | refine wp_retQ ?_); simp only [kQ, Nat.reduceEqDiff, reduceIte])
   | (refine wp_reg B ?_; simp (disch := omega) only [kW, Nat.reduceEqDiff, reduceIte, Nat.reduceLT, Nat.reduceLeDiff, Nat.reduceAdd, Nat.reduceSub, Nat.reduceMul, Nat.reducePow, Nat.reduceDiv, Nat.reduceMod, evIndexAddr, TD.agg, evFieldAddr, ty3, ty23, t9, t3, t10, t11])
   | refine wp_condT rfl ?_ | refine wp_condF rfl ?_)
  refine wp_if rfl (fun ilt => ?_) (fun ige => ?_)
  ·have hin : i < n := by omega
   have hx : p[i]? = some (Pg.ap p i) := by rw [Pg.ap_get (by omega)]; exact List.getElem?_eq_getElem (by omega)
   have hxn := hp.lt i hin
   have hinj : ∀ z, z < i → Pg.ap p z ≠ Pg.ap p i := fun z hz e => by have := hp.inj z i (by omega) hin e; omega
   generalize Pg.ap p i = x at *
   have g1 := pl_get hx
   repeat (first
    | refine wp_seqQ ?_ | refine wp_blockQ ?_ | refine wp_scopeQ ?_
    | ((first | refine wp_skipQ ?_ | refine wp_labelQ ?_ | refine wp_exitQ ?_ | refine wp_retQ ?_); simp only [kQ, Nat.reduceEqDiff, reduceIte])
    | (refine wp_reg B ?_; simp (disch := omega) only [kW, Nat.reduceEqDiff, reduceIte, Nat.reduceLT, Nat.reduceLeDiff, Nat.reduceAdd, Nat.reduceSub, Nat.reduceMul, Nat.reducePow, Nat.reduceDiv, Nat.reduceMod, evIndexAddr, TD.agg, evFieldAddr, ty3, ty23, t9, t3, t10, t11, hm, hC, g1])
    | refine wp_condT rfl ?_ | refine wp_condF rfl ?_)
   refine ⟨_, ?_, i + 1, _, _, C.set x (pc i), rfl, rfl, by omega, t9, t3, t10, rfl, hnx, ?_, by simp [hC], fun z hz => ?_⟩
   ·omega
   ·simp only [upd_eq, pc]
   ·by_cases e : z = i
    ·subst e
     have : Pg.ap p z = x := by simp [Pg.ap, hx]
     rw [this]; exact List.getElem?_set_self (by omega)
    ·rw [List.getElem?_set_ne (fun c => hinj z (by omega) c.symm)]; exact hCx z (by omega)
  ·have hml : (Pg.invL p).length = n := by simp [Pg.invL, hl]
   obtain rfl := cells_tab (p := Pg.invL p) hC hml fun y hy => by
    obtain ⟨x, hx, rfl⟩ := Pg.surj n (Pg.ap p) hp.lt hp.inj y hy
    rw [hCx x (by omega)]
    have := Pg.ap_idxOf hp hx
    simp [Pg.invL, List.getD_eq_getElem?_getD, List.getElem?_map, hl, List.getElem?_range hy, this]
   obtain ⟨g, q1, q2⟩ := pl_freeze (n := n) hm hml
   repeat (first
    | refine wp_seqQ ?_ | refine wp_blockQ ?_ | refine wp_scopeQ ?_
    | ((first | refine wp_skipQ ?_ | refine wp_labelQ ?_ | refine wp_exitQ ?_ | refine wp_retQ ?_); simp only [kQ, Nat.reduceEqDiff, reduceIte])
    | ((fail_if_success refine wp_reg (id := 7) B ?_); refine wp_reg B ?_; simp (disch := omega) only [kW, Nat.reduceEqDiff, reduceIte, Nat.reduceLT, Nat.reduceLeDiff, Nat.reduceAdd, Nat.reduceSub, Nat.reduceMul, Nat.reducePow, Nat.reduceDiv, Nat.reduceMod, evIndexAddr, TD.agg, evFieldAddr, ty3, ty23, t9, t3, t10, t11])
    | refine wp_condT rfl ?_ | refine wp_condF rfl ?_)
   refine WP.freeze 3 g t3 q1 q2 ?_
   repeat (first
    | refine wp_seqQ ?_ | refine wp_blockQ ?_ | refine wp_scopeQ ?_
    | ((first | refine wp_skipQ ?_ | refine wp_labelQ ?_ | refine wp_exitQ ?_ | refine wp_retQ ?_); simp only [kQ, Nat.reduceEqDiff, reduceIte])
    | (refine wp_reg B ?_; simp (disch := omega) only [kW, Nat.reduceEqDiff, reduceIte, Nat.reduceLT, Nat.reduceLeDiff, Nat.reduceAdd, Nat.reduceSub, Nat.reduceMul, Nat.reducePow, Nat.reduceDiv, Nat.reduceMod, evIndexAddr, TD.agg, evFieldAddr, ty3, ty23])
    | refine wp_condT rfl ?_ | refine wp_condF rfl ?_)
   simp (disch := omega) only [kS, Nat.reduceEqDiff, reduceIte, Nat.reduceLT, Nat.reduceLeDiff, Nat.reduceAdd, Nat.reduceSub, Nat.reduceMul, Nat.reducePow, Nat.reduceDiv, Nat.reduceMod, evIndexAddr, TD.agg, evFieldAddr, ty3, ty23]
end Go.Proofs.Ytkffcclalncgdaa.Iv
end
section
set_option maxHeartbeats 4000000
set_option linter.unusedVariables false
set_option linter.unusedSimpArgs false
set_option maxRecDepth 10000
namespace Go.Proofs.Ytkffcclalncgdaa.Iv
open Go Go.Iv Go.RowKit
theorem pc_inj {x y : Nat} (h : pc x = pc y) : x = y := by
 simp only [pc, AV.flat.injEq, Value.int.injEq, true_and] at h
 exact Int.ofNat.inj h
theorem map_pc_inj : ∀ {p q : List Nat}, p.map pc = q.map pc → p = q
 | [], [], _ => rfl
 | [], _ :: _, h => by simp at h
 | _ :: _, [], h => by simp at h
 | x :: p, y :: q, h => by
  simp only [List.map_cons, List.cons.injEq] at h
  rw [pc_inj h.1, map_pc_inj h.2]
theorem pl_inj {p q : List Nat} (h : pl p = pl q) : p = q := by
 simp only [pl, AV.isl.injEq] at h
 exact map_pc_inj h.1
theorem pl_eq {p q : List Nat} : pl p = pl q ↔ p = q := ⟨pl_inj, fun h => by rw [h]⟩
noncomputable def EcStill : Entry Try.prog := ⟨38, fun args h e h' => h' = h ∧ ∃ (n : Nat), args = [.flat (.int .i64 (n : Int))] ∧ (n ≤ 1000) ∧ e = .ret (pl (List.range n)), by
 rintro args h e h' ⟨rfl, n, rfl, h1, rfl⟩
 exact ⟨still_sem n h1 _, Hp.Le.refl _⟩⟩
theorem EcStill_ans (n : Nat) (h : Hp) (h1 : n ≤ 1000) : EcStill.ans [.flat (.int .i64 (n : Int))] h = some (.ret (pl (List.range n)), h) :=
 Entry.one ⟨rfl, n, rfl, h1, rfl⟩ fun e h' ⟨hh, n', ha, _, he⟩ => by simp only [kI, pl_eq] at ha; subst ha; exact ⟨he, hh⟩
noncomputable def EcMul : Entry Try.prog := ⟨54, fun args h e h' => h' = h ∧ ∃ (p q : List Nat), args = [pl p, pl q] ∧ (p.length ≤ 1000) ∧ (∀ x ∈ p, x < q.length) ∧ (q.length ≤ 1000) ∧ e = .ret (pl (Pg.mulL p q)), by
 rintro args h e h' ⟨rfl, p, q, rfl, h1, h2, h3, rfl⟩
 exact ⟨cmul_sem p q h1 h2 h3 _, Hp.Le.refl _⟩⟩
theorem EcMul_ans (p q : List Nat) (h : Hp) (h1 : p.length ≤ 1000) (h2 : ∀ x ∈ p, x < q.length) (h3 : q.length ≤ 1000) : EcMul.ans [pl p, pl q] h = some (.ret (pl (Pg.mulL p q)), h) :=
 Entry.one ⟨rfl, p, q, rfl, h1, h2, h3, rfl⟩ fun e h' ⟨hh, p', q', ha, _, _, _, he⟩ => by simp only [kI, pl_eq] at ha; obtain ⟨rfl, rfl⟩ := ha; exact ⟨he, hh⟩
noncomputable def EcInv : Entry Try.prog := ⟨87, fun args h e h' => h' = h ∧ ∃ (p : List Nat), args = [pl p] ∧ (Pg.Is p.length p) ∧ (p.length ≤ 1000) ∧ e = .ret (pl (Pg.invL p)), by
 rintro args h e h' ⟨rfl, p, rfl, h1, h2, rfl⟩
 exact ⟨cinv_sem p.length p h1 h2 _, Hp.Le.refl _⟩⟩
theorem EcInv_ans (p : List Nat) (h : Hp) (h1 : Pg.Is p.length p) (h2 : p.length ≤ 1000) : EcInv.ans [pl p] h = some (.ret (pl (Pg.invL p)), h) :=
 Entry.one ⟨rfl, p, rfl, h1, h2, rfl⟩ fun e h' ⟨hh, p', ha, _, _, he⟩ => by simp only [kI, pl_eq] at ha; subst ha; exact ⟨he, hh⟩
end Go.Proofs.Ytkffcclalncgdaa.Iv
end
section
set_option linter.unusedVariables false
set_option linter.unusedSimpArgs false
namespace Ch
open Pg
section model
variable {n : Nat}
def get (l : List (Nat × Pm n)) (x : Nat) : Option (Pm n) := match l with
 | [] => none
 | (y, t) :: l => if y = x then some t else get l x
theorem get_append (l m : List (Nat × Pm n)) (x : Nat) : get (l ++ m) x = match get l x with | some t => some t | none => get m x := by
 induction l with
 | nil => rfl
 | cons a l ih =>
  simp only [List.cons_append, get]
  split
  ·rfl
  ·exact ih
structure St (n : Nat) where
 S : Nat → List (Pm n)
 T : Nat → List (Nat × Pm n)
def St.pushS (st : St n) (k : Nat) (p : Pm n) : St n := ⟨fun j => if j = k then st.S k ++ [p] else st.S j, st.T⟩
def St.putT (st : St n) (k x : Nat) (p : Pm n) : St n := ⟨st.S, fun j => if j = k then st.T k ++ [(x, p)] else st.T j⟩
def sift (β : Nat → Nat) (st : St n) : Nat → Nat → Pm n → Option (Pm n)
 | 0, _, p => some p
 | d + 1, k, p => match get (st.T k) (p.at (β k)) with
  | none => none
  | some t => sift β st d (k + 1) (p.mul t.inv)
def lookAll (lk : Pm n → St n → Option (St n)) (q : Pm n) : List (Pm n) → St n → Option (St n)
 | [], st => some st
 | g :: gs, st => match lk (q.mul g) st with
  | some st' => lookAll lk q gs st'
  | none => none
def orbitAll (lk : Pm n → St n → Option (St n)) (gt : St n → Nat → Option (Pm n)) (p : Pm n) : List Nat → St n → Option (St n)
 | [], st => some st
 | x :: xs, st => match gt st x with
  | none => orbitAll lk gt p xs st
  | some t => match lk (t.mul p) st with
   | some st' => orbitAll lk gt p xs st'
   | none => none
def pick (live : Bool) (l : List (Nat × Pm n)) (k : Nat) (st : St n) (x : Nat) : Option (Pm n) := if live = true ∨ (get l x).isSome = true then get (st.T k) x else none
def run (live : Bool) (β : Nat → Nat) : Nat → Bool → Nat → Pm n → St n → Option (St n)
 | 0, _, _, _, _ => none
 | f + 1, true, k, p, st => if (sift β st (n - k) k p).isSome = true then some st else
     orbitAll (run live β f false k) (pick live (st.T k) k) p (List.range n) (st.pushS k p)
 | f + 1, false, k, q, st => match get (st.T k) (q.at (β k)) with
  | some t => if k + 1 < n then run live β f true (k + 1) (q.mul t.inv) st else some st
  | none => lookAll (run live β f false k) q (st.S k) (st.putT k (q.at (β k)) q)
theorem lookAll_mono {lk lk' : Pm n → St n → Option (St n)} (h : ∀ q st r, lk q st = some r → lk' q st = some r) (q : Pm n) : ∀ gs st r, lookAll lk q gs st = some r → lookAll lk' q gs st = some r
 | [], _, _, k => k
 | g :: gs, st, r, k => by
  simp only [lookAll] at k ⊢
  split at k
  ·rename_i st' e
   rw [h _ _ _ e]
   exact lookAll_mono h q gs st' r k
  ·cases k
theorem orbitAll_mono {lk lk' : Pm n → St n → Option (St n)} {gt : St n → Nat → Option (Pm n)} (h : ∀ q st r, lk q st = some r → lk' q st = some r) (p : Pm n) : ∀ xs st r, orbitAll lk gt p xs st = some r → orbitAll lk' gt p xs st = some r
 | [], _, _, k => k
 | x :: xs, st, r, k => by
  simp only [orbitAll] at k ⊢
  split at k
  ·exact orbitAll_mono h p xs st r k
  ·split at k
   ·rename_i st' e
    rw [h _ _ _ e]
    exact orbitAll_mono h p xs st' r k
   ·cases k
theorem run_mono1 (live : Bool) (β : Nat → Nat) : ∀ f b k p (st r : St n), run live β f b k p st = some r → run live β (f + 1) b k p st = some r
 | 0, _, _, _, _, _, h => by simp [run] at h
 | f + 1, true, k, p, st, r, h => by
  rw [run] at h ⊢
  split at h
  ·rename_i e; rw [if_pos e]; exact h
  ·rename_i e; rw [if_neg e]
   exact orbitAll_mono (fun q st r => run_mono1 live β f false k q st r) p _ _ _ h
 | f + 1, false, k, q, st, r, h => by
  rw [run] at h ⊢
  split at h
  ·split at h
   ·rename_i e; rw [if_pos e]; exact run_mono1 live β f true _ _ _ _ h
   ·rename_i e; rw [if_neg e]; exact h
  ·exact lookAll_mono (fun q st r => run_mono1 live β f false k q st r) q _ _ _ h
theorem run_mono (live : Bool) (β : Nat → Nat) {f g : Nat} (h : f ≤ g) {b : Bool} {k : Nat} {p : Pm n} {st r : St n} (e : run live β f b k p st = some r) : run live β g b k p st = some r := by
 induction h with
 | refl => exact e
 | step _ ih => exact run_mono1 live β _ b k p st r ih
end model
section law
variable {n : Nat} {β : Nat → Nat} (hb : ∀ k, k < n → β k < n) (hi : ∀ j k, j < n → k < n → β j = β k → j = k)
def Fix (β : Nat → Nat) (k : Nat) (p : Pm n) : Prop := ∀ j, j < k → p.at (β j) = β j
theorem Fix.one (k : Nat) : Fix β k (Pm.one n) := fun j _ => Pm.at_one n _
theorem Fix.mul {k : Nat} {p q : Pm n} (hp : Fix β k p) (hq : Fix β k q) : Fix β k (p.mul q) := fun j h => by rw [Pm.at_mul, hp j h, hq j h]
theorem Fix.inv {k : Nat} {p : Pm n} (hp : Fix β k p) : Fix β k p.inv := fun j h => by
 have := p.inv_at (β j)
 rwa [hp j h] at this
theorem Fix.le {k j : Nat} {p : Pm n} (hp : Fix β k p) (h : j ≤ k) : Fix β j p := fun i hij => hp i (by omega)
include hb hi in
theorem Fix.all {p : Pm n} (hp : Fix β n p) : p = Pm.one n := Pm.ext fun i h => by
 obtain ⟨j, h1, rfl⟩ := surj n β hb hi i h
 rw [hp j h1, Pm.at_one]
theorem Mon.fix {k : Nat} {S : List (Pm n)} (h : ∀ g ∈ S, Fix β k g) {p : Pm n} (hp : Mon S p) : Fix β k p := by
 induction hp with
 | one => exact Fix.one k
 | step _ hg ih => exact ih.mul (h _ hg)
def In (β : Nat → Nat) (st : St n) (k : Nat) (p : Pm n) : Prop := (sift β st (n - k) k p).isSome = true
def gp (st : St n) (k : Nat) : List (Pm n) := if k < n then st.S k else []
theorem in_top (st : St n) (p : Pm n) : In β st n p := by unfold In; rw [Nat.sub_self]; rfl
theorem in_iff {st : St n} {k : Nat} (h : k < n) (p : Pm n) : In β st k p ↔ ∃ t, get (st.T k) (p.at (β k)) = some t ∧ In β st (k + 1) (p.mul t.inv) := by
 unfold In
 rw [show n - k = n - (k + 1) + 1 by omega, sift]
 cases get (st.T k) (p.at (β k)) with
 | none => simp
 | some t => simp
def Ind (S : List (Pm n)) : Prop := ∀ (i : Nat) (p : Pm n), S[i]? = some p → ¬ Mon (S.take i) p
theorem Ind.nil : Ind ([] : List (Pm n)) := fun i p h => by simp at h
theorem Ind.push {S : List (Pm n)} (h : Ind S) {p : Pm n} (hp : ¬ Mon S p) : Ind (S ++ [p]) := fun i q hq => by
 by_cases c : i < S.length
 ·rw [List.getElem?_append_left c] at hq
  rw [List.take_append_of_le_length (by omega)]
  exact h i q hq
 ·rw [List.getElem?_append_right (by omega)] at hq
  have h1 := (List.getElem?_eq_some_iff.1 hq).1
  simp only [List.length_singleton] at h1
  have h2 : i = S.length := by omega
  subst h2
  simp only [Nat.sub_self, List.getElem?_cons_zero, Option.some.injEq] at hq
  subst hq
  rw [List.take_left' rfl]
  exact hp
theorem Ind.pop {S : List (Pm n)} {p : Pm n} (h : Ind (S ++ [p])) : Ind S ∧ ¬ Mon S p := by
 refine ⟨fun i q hq => ?_, ?_⟩
 ·have h1 := (List.getElem?_eq_some_iff.1 hq).1
  have := h i q (by rw [List.getElem?_append_left h1]; exact hq)
  rwa [List.take_append_of_le_length (by omega)] at this
 ·have := h S.length p (by rw [List.getElem?_append_right (Nat.le_refl _)]; simp)
  rwa [List.take_left' rfl] at this
structure Lev (β : Nat → Nat) (st : St n) (k : Nat) : Prop where
 one : get (st.T k) (β k) = some (Pm.one n)
 ent : ∀ x t, get (st.T k) x = some t → x < n ∧ t.at (β k) = x ∧ Fix β k t ∧ Mon (st.S k) t
 gen : ∀ g ∈ st.S k, Fix β k g
 key : ((st.T k).map (·.1)).Nodup ∧ ∀ x ∈ (st.T k).map (·.1), x < n
 ind : Ind (st.S k)
def Down (st : St n) (k : Nat) : Prop := k + 1 < n → ∀ g ∈ st.S (k + 1), Mon (st.S k) g
structure Full (β : Nat → Nat) (st : St n) (k : Nat) : Prop where
 lev : Lev β st k
 down : Down st k
 cl : ∀ x t, get (st.T k) x = some t → ∀ g ∈ st.S k, In β st k (t.mul g)
def Good (β : Nat → Nat) (st : St n) (k : Nat) : Prop := ∀ j, k ≤ j → j < n → Full β st j
theorem Good.le {st : St n} {k j : Nat} (h : Good β st k) (hj : k ≤ j) : Good β st j := fun i h1 h2 => h i (by omega) h2
theorem Good.cons {st : St n} {k : Nat} (h : Good β st (k + 1)) (f : Full β st k) : Good β st k := fun j h1 h2 => by
 by_cases e : j = k
 ·subst e; exact f
 ·exact h j (by omega) h2
theorem Lev.step {st : St n} {k : Nat} (L : Lev β st k) {p t : Pm n} (hp : Fix β k p) (ht : get (st.T k) (p.at (β k)) = some t) : Fix β (k + 1) (p.mul t.inv) := fun j hj => by
 obtain ⟨h1, h2, h3, _⟩ := L.ent _ _ ht
 by_cases e : j = k
 ·subst e
  rw [Pm.at_mul, ← h2, Pm.inv_at]
 ·rw [Pm.at_mul, hp j (by omega), h3.inv j (by omega)]
include hb hi in
theorem mem : ∀ (d k : Nat) (st : St n), n - k = d → k ≤ n → Good β st k → ∀ p, Fix β k p → (In β st k p ↔ Mon (gp st k) p)
 | 0, k, st, hd, hk, hg, p, hp => by
  obtain rfl : k = n := by omega
  obtain rfl := Fix.all hb hi hp
  exact ⟨fun _ => .one, fun _ => in_top st _⟩
 | d + 1, k, st, hd, hk, hg, p, hp => by
  have hkn : k < n := by omega
  have F := hg k (Nat.le_refl _) hkn
  have ih := mem d (k + 1) st (by omega) (by omega) (hg.le (by omega))
  have hgp : gp st k = st.S k := by unfold gp; rw [if_pos hkn]
  have hdn : ∀ g ∈ gp st (k + 1), Mon (st.S k) g := fun g h => by
   unfold gp at h
   split at h
   ·rename_i h1; exact F.down h1 g h
   ·simp at h
  rw [hgp]
  constructor
  ·intro h
   obtain ⟨t, h1, h2⟩ := (in_iff hkn p).1 h
   have h3 := (ih _ (F.lev.step hp h1)).1 h2
   have h4 := (h3.into hdn).mul (F.lev.ent _ _ h1).2.2.2
   rwa [Pm.mul_inv_mul] at h4
  ·intro h
   induction h with
   | one =>
    refine (in_iff hkn _).2 ⟨Pm.one n, by rw [Pm.at_one]; exact F.lev.one, ?_⟩
    rw [Pm.mul_inv]
    exact (ih _ (Fix.one _)).2 .one
   | @step p g hm hgS ihp =>
    have fp : Fix β k p := Mon.fix F.lev.gen hm
    have fg := F.lev.gen g hgS
    obtain ⟨t, h1, h2⟩ := (in_iff hkn p).1 (ihp fp)
    obtain ⟨e1, e2, e3, e4⟩ := F.lev.ent _ _ h1
    obtain ⟨t', h3, h4⟩ := (in_iff hkn _).1 (F.cl _ _ h1 g hgS)
    have ha : (p.mul g).at (β k) = (t.mul g).at (β k) := by rw [Pm.at_mul, Pm.at_mul, e2]
    refine (in_iff hkn _).2 ⟨t', by rw [ha]; exact h3, ?_⟩
    have f1 := F.lev.step fp h1
    have f2 := F.lev.step (e3.mul fg) h3
    have e : (p.mul g).mul t'.inv = (p.mul t.inv).mul ((t.mul g).mul t'.inv) := by
     rw [← Pm.assoc, ← Pm.assoc, Pm.mul_inv_mul]
    rw [e]
    exact (ih _ (f1.mul f2)).2 (((ih _ f1).1 h2).mul ((ih _ f2).1 h4))
structure Ext (k : Nat) (st st' : St n) : Prop where
 T : ∀ j, k ≤ j → ∀ x t, get (st.T j) x = some t → get (st'.T j) x = some t
 S : ∀ j, k ≤ j → ∀ g ∈ st.S j, g ∈ st'.S j
 oldS : ∀ j, j < k → st'.S j = st.S j
 oldT : ∀ j, j < k → st'.T j = st.T j
theorem Ext.refl (k : Nat) (st : St n) : Ext k st st := ⟨fun _ _ _ _ h => h, fun _ _ _ h => h, fun _ _ => rfl, fun _ _ => rfl⟩
theorem Ext.trans {k : Nat} {a b c : St n} (h : Ext k a b) (g : Ext k b c) : Ext k a c :=
 ⟨fun j hj x t e => g.T j hj x t (h.T j hj x t e), fun j hj x e => g.S j hj x (h.S j hj x e), fun j hj => (g.oldS j hj).trans (h.oldS j hj), fun j hj => (g.oldT j hj).trans (h.oldT j hj)⟩
theorem Ext.up {k : Nat} {a b : St n} (h : Ext (k + 1) a b) : Ext k a b :=
 ⟨fun j hj x t e => by
  by_cases c : j = k
  ·subst c; rw [h.oldT j (by omega)]; exact e
  ·exact h.T j (by omega) x t e, fun j hj x e => by
  by_cases c : j = k
  ·subst c; rw [h.oldS j (by omega)]; exact e
  ·exact h.S j (by omega) x e, fun j hj => h.oldS j (by omega), fun j hj => h.oldT j (by omega)⟩
include hb hi in
theorem in_mono {k : Nat} (hk : k < n) {st st' : St n} (g : Good β st (k + 1)) (g' : Good β st' (k + 1)) (L : Lev β st k) (hx : Ext k st st') {p : Pm n} (hp : Fix β k p) (h : In β st k p) : In β st' k p := by
 obtain ⟨t, h1, h2⟩ := (in_iff hk p).1 h
 refine (in_iff hk p).2 ⟨t, hx.T k (Nat.le_refl _) _ _ h1, ?_⟩
 have f := L.step hp h1
 have h3 := (mem hb hi _ (k + 1) st rfl (by omega) g _ f).1 h2
 refine (mem hb hi _ (k + 1) st' rfl (by omega) g' _ f).2 (h3.sub fun x hm => ?_)
 unfold gp at hm ⊢
 split at hm
 ·rename_i c; rw [if_pos c]; exact hx.S _ (by omega) x hm
 ·simp at hm
theorem sift_congr {st st' : St n} : ∀ (d k : Nat), (∀ j, k ≤ j → st'.T j = st.T j) → ∀ p, sift β st' d k p = sift β st d k p
 | 0, _, _, _ => rfl
 | d + 1, k, h, p => by
  simp only [sift, h k (Nat.le_refl _)]
  cases get (st.T k) (p.at (β k)) with
  | none => rfl
  | some t => exact sift_congr d (k + 1) (fun j hj => h j (by omega)) _
theorem in_congr {st st' : St n} {k : Nat} (h : ∀ j, k ≤ j → st'.T j = st.T j) (p : Pm n) : In β st' k p ↔ In β st k p := by unfold In; rw [sift_congr _ k h]
theorem good_congr {st st' : St n} {k : Nat} (hT : ∀ j, k ≤ j → st'.T j = st.T j) (hS : ∀ j, k ≤ j → st'.S j = st.S j) (g : Good β st k) : Good β st' k := fun j h1 h2 => by
 have F := g j h1 h2
 refine ⟨⟨by rw [hT j h1]; exact F.lev.one, by rw [hT j h1, hS j h1]; exact F.lev.ent, by rw [hS j h1]; exact F.lev.gen, by rw [hT j h1]; exact F.lev.key, by rw [hS j h1]; exact F.lev.ind⟩, fun h3 => by rw [hS j h1, hS _ (by omega)]; exact F.down h3, fun x t h3 g hg => ?_⟩
 rw [hT j h1] at h3
 rw [hS j h1] at hg
 exact (in_congr (fun i hi => hT i (by omega)) _).2 (F.cl x t h3 g hg)
def cnt (st : St n) (k : Nat) : Nat := ((List.range n).filter fun x => (get (st.T k) x).isNone).length
theorem filter_le {p q : Nat → Bool} : ∀ l : List Nat, (∀ x ∈ l, p x = true → q x = true) → (l.filter p).length ≤ (l.filter q).length
 | [], _ => by simp
 | a :: l, h => by
  have ih := filter_le l fun x hx => h x (by simp [hx])
  cases hp : p a with
  | false => cases hq : q a <;> simp [hp, hq] <;> omega
  | true =>
   have hq := h a (by simp) hp
   simp [hp, hq]; exact ih
theorem filter_lt {p q : Nat → Bool} : ∀ l : List Nat, (∀ x ∈ l, p x = true → q x = true) → ∀ y ∈ l, p y = false → q y = true → (l.filter p).length < (l.filter q).length
 | [], _, y, hy, _, _ => by simp at hy
 | a :: l, h, y, hy, h1, h2 => by
  have hl := fun x (hx : x ∈ l) => h x (by simp [hx])
  by_cases e : y = a
  ·subst e
   have := filter_le l hl
   simp [h1, h2]; omega
  ·have hy' : y ∈ l := by simpa [e] using hy
   have ih := filter_lt l hl y hy' h1 h2
   cases hp : p a with
   | false => cases hq : q a <;> simp [hp, hq] <;> omega
   | true =>
    have hq := h a (by simp) hp
    simp [hp, hq]; exact ih
theorem cnt_le {st st' : St n} {k : Nat} (h : Ext k st st') : cnt st' k ≤ cnt st k := filter_le _ fun x _ hx => by
 cases e : get (st.T k) x with
 | none => rfl
 | some t => rw [h.T k (Nat.le_refl _) x t e] at hx; simp at hx
end law
end Ch
end
section
set_option linter.unusedVariables false
set_option linter.unusedSimpArgs false
namespace Ch
open Pg
section law
variable {n : Nat} {β : Nat → Nat} (hb : ∀ k, k < n → β k < n) (hi : ∀ j k, j < n → k < n → β j = β k → j = k) (live : Bool)
structure Half (β : Nat → Nat) (st : St n) (k : Nat) : Prop where
 good : Good β st (k + 1)
 lev : Lev β st k
 down : Down st k
structure LPost (β : Nat → Nat) (k : Nat) (st st' : St n) : Prop where
 half : Half β st' k
 ext : Ext k st st'
 same : st'.S k = st.S k
 cl : ∀ x t, get (st'.T k) x = some t → get (st.T k) x = none → ∀ g ∈ st.S k, In β st' k (t.mul g)
structure APost (β : Nat → Nat) (k : Nat) (p : Pm n) (st st' : St n) : Prop where
 good : Good β st' k
 ext : Ext k st st'
 mem : In β st' k p
 gens : st'.S k = st.S k ∨ st'.S k = st.S k ++ [p]
include hb hi in
theorem LPost.trans {k : Nat} (hk : k < n) {a b c : St n} (hga : Half β a k) (h : LPost β k a b) (g : LPost β k b c) : LPost β k a c := by
 refine ⟨g.half, h.ext.trans g.ext, g.same.trans h.same, fun x t h1 h2 y hy => ?_⟩
 cases e : get (b.T k) x with
 | none => exact g.cl x t h1 e y (by rw [h.same]; exact hy)
 | some u =>
  have h3 := g.ext.T k (Nat.le_refl _) x u e
  rw [h1] at h3
  obtain rfl : t = u := by simpa using h3
  have h4 := h.cl x t e h2 y hy
  have h5 := (h.half.lev.ent _ _ e).2.2.1
  exact in_mono hb hi hk h.half.good g.half.good h.half.lev g.ext (h5.mul (hga.lev.gen y hy)) h4
theorem LPost.refl {k : Nat} {a : St n} (h : Half β a k) : LPost β k a a := ⟨h, Ext.refl k a, rfl, fun x t h1 h2 => by rw [h1] at h2; cases h2⟩
include hb hi in
theorem lookAll_ok {k m : Nat} (hk : k < n) (q : Pm n) (hq : Fix β k q)
    (ih : ∀ (st : St n) (q : Pm n), cnt st k ≤ m → Half β st k → Fix β k q → Mon (st.S k) q → ∃ f st', run live β f false k q st = some st' ∧ LPost β k st st' ∧ In β st' k q) :
    ∀ (gs : List (Pm n)) (st : St n), (∀ g ∈ gs, g ∈ st.S k) → cnt st k ≤ m → Half β st k → Mon (st.S k) q →
     ∃ f st', lookAll (run live β f false k) q gs st = some st' ∧ LPost β k st st' ∧ ∀ g ∈ gs, In β st' k (q.mul g)
 | [], st, _, _, hh, _ => ⟨0, st, rfl, LPost.refl hh, fun g hg => by simp at hg⟩
 | g :: gs, st, hs, hc, hh, hm => by
  have hg := hs g (by simp)
  have fg := hh.lev.gen g hg
  obtain ⟨f1, st1, e1, p1, i1⟩ := ih st (q.mul g) hc hh (hq.mul fg) (.step hm hg)
  obtain ⟨f2, st2, e2, p2, i2⟩ := lookAll_ok hk q hq ih gs st1 (fun x hx => by rw [p1.same]; exact hs x (by simp [hx])) (Nat.le_trans (cnt_le p1.ext) hc) p1.half (by rw [p1.same]; exact hm)
  refine ⟨f1 + f2, st2, ?_, p1.trans hb hi hk hh p2, fun x hx => ?_⟩
  ·simp only [lookAll]
   rw [run_mono live β (Nat.le_add_right f1 f2) e1]
   exact lookAll_mono (fun a b r h => run_mono live β (Nat.le_add_left f2 f1) h) q gs st1 st2 e2
  ·rcases List.mem_cons.1 hx with rfl | hx
   ·exact in_mono hb hi hk p1.half.good p2.half.good p1.half.lev p2.ext (hq.mul fg) i1
   ·exact i2 x hx
include hb hi in
theorem orbitAll_ok {k : Nat} (hk : k < n) (p : Pm n) (hp : Fix β k p) (l : List (Nat × Pm n))
    (ih : ∀ (st : St n) (q : Pm n), Half β st k → Fix β k q → Mon (st.S k) q → ∃ f st', run live β f false k q st = some st' ∧ LPost β k st st' ∧ In β st' k q) :
    ∀ (xs : List Nat) (st : St n), (∀ x t, get l x = some t → get (st.T k) x = some t) → Half β st k → p ∈ st.S k →
     ∃ f st', orbitAll (run live β f false k) (pick live l k) p xs st = some st' ∧ LPost β k st st' ∧ ∀ x ∈ xs, ∀ t, get l x = some t → In β st' k (t.mul p)
 | [], st, _, hh, _ => ⟨0, st, rfl, LPost.refl hh, fun x hx => by simp at hx⟩
 | x :: xs, st, hl, hh, hm => by
  cases e : pick live l k st x with
  | none =>
   obtain ⟨f, st', h1, h2, h3⟩ := orbitAll_ok hk p hp l ih xs st hl hh hm
   refine ⟨f, st', by simp only [orbitAll, e]; exact h1, h2, fun y hy t ht => ?_⟩
   rcases List.mem_cons.1 hy with rfl | hy
   ·unfold pick at e
    rw [if_pos (.inr (by rw [ht]; rfl)), hl _ _ ht] at e
    cases e
   ·exact h3 y hy t ht
  | some t =>
   have ht : get (st.T k) x = some t := by
    unfold pick at e
    split at e
    ·exact e
    ·cases e
   obtain ⟨_, _, ft, mt⟩ := hh.lev.ent _ _ ht
   obtain ⟨f1, st1, e1, p1, i1⟩ := ih st (t.mul p) hh (ft.mul hp) (.step mt hm)
   obtain ⟨f2, st2, e2, p2, i2⟩ := orbitAll_ok hk p hp l ih xs st1 (fun y u hy => p1.ext.T k (Nat.le_refl _) y u (hl y u hy)) p1.half (p1.ext.S k (Nat.le_refl _) p hm)
   refine ⟨f1 + f2, st2, ?_, p1.trans hb hi hk hh p2, fun y hy u hu => ?_⟩
   ·simp only [orbitAll, e]
    rw [run_mono live β (Nat.le_add_right f1 f2) e1]
    exact orbitAll_mono (fun a b r h => run_mono live β (Nat.le_add_left f2 f1) h) p xs st1 st2 e2
   ·rcases List.mem_cons.1 hy with rfl | hy
    ·have := hl _ _ hu
     rw [ht] at this
     obtain rfl : t = u := by simpa using this
     exact in_mono hb hi hk p1.half.good p2.half.good p1.half.lev p2.ext (ft.mul hp) i1
    ·exact i2 y hy u hu
include hb hi in
theorem look_ok {k : Nat} (hk : k < n)
    (add : k + 1 < n → ∀ (st : St n) (p : Pm n), Good β st (k + 1) → Fix β (k + 1) p → ∃ f st', run live β f true (k + 1) p st = some st' ∧ APost β (k + 1) p st st') :
    ∀ (m : Nat) (st : St n) (q : Pm n), cnt st k ≤ m → Half β st k → Fix β k q → Mon (st.S k) q → ∃ f st', run live β f false k q st = some st' ∧ LPost β k st st' ∧ In β st' k q := by
 intro m
 induction m with
 | zero =>
  intro st q hc hh hq hm
  cases e : get (st.T k) (q.at (β k)) with
  | some t => exact found st q hh hq hm t e
  | none =>
   have : ((List.range n).filter fun x => (get (st.T k) x).isNone) = [] := List.length_eq_zero_iff.1 (by unfold cnt at hc; omega)
   have h2 := List.filter_eq_nil_iff.1 this (q.at (β k)) (List.mem_range.2 (q.lt (hb k hk)))
   rw [e] at h2
   simp at h2
 | succ m ih =>
  intro st q hc hh hq hm
  cases e : get (st.T k) (q.at (β k)) with
  | some t => exact found st q hh hq hm t e
  | none =>
   have hx : Ext k st (st.putT k (q.at (β k)) q) := by
    refine ⟨fun j hj x t h => ?_, fun j hj g h => h, fun j _ => rfl, fun j hj => ?_⟩
    ·show get (if j = k then st.T k ++ [(q.at (β k), q)] else st.T j) x = some t
     split
     ·rename_i c; subst c; rw [get_append, h]
     ·exact h
    ·show (if j = k then st.T k ++ [(q.at (β k), q)] else st.T j) = st.T j
     rw [if_neg (by omega)]
   have hTk : (st.putT k (q.at (β k)) q).T k = st.T k ++ [(q.at (β k), q)] := by show (if k = k then _ else _) = _; rw [if_pos rfl]
   have hg1 : Good β (st.putT k (q.at (β k)) q) (k + 1) := good_congr (st := st) (fun j hj => by show (if j = k then _ else _) = _; rw [if_neg (by omega)]) (fun j _ => rfl) hh.good
   have hnew : ∀ x t, get (st.T k ++ [(q.at (β k), q)]) x = some t → get (st.T k) x = some t ∨ (x = q.at (β k) ∧ t = q ∧ get (st.T k) x = none) := fun x t h => by
    rw [get_append] at h
    cases c : get (st.T k) x with
    | some u => rw [c] at h; exact .inl h
    | none =>
     rw [c] at h
     simp only [get] at h
     split at h
     ·rename_i c2; exact .inr ⟨c2.symm, by simpa using h.symm, rfl⟩
     ·cases h
   have keyN : ∀ (l : List (Nat × Pm n)) x, get l x = none → x ∉ l.map (·.1) := by
    intro l x
    induction l with
    | nil => simp
    | cons a l ih =>
     intro h
     simp only [get] at h
     split at h
     ·cases h
     ·rename_i c
      simp only [List.map_cons, List.mem_cons, not_or]
      exact ⟨fun e => c e.symm, ih h⟩
   have hh1 : Half β (st.putT k (q.at (β k)) q) k := ⟨hg1, ⟨by rw [hTk, get_append, hh.lev.one], fun x t h => by
       rw [hTk] at h
       rcases hnew x t h with h | ⟨rfl, rfl, _⟩
       ·exact hh.lev.ent x t h
       ·exact ⟨t.lt (hb k hk), rfl, hq, hm⟩, hh.lev.gen, by
       rw [hTk, List.map_append]
       refine ⟨?_, fun x hx => ?_⟩
       ·rw [List.nodup_append]
        refine ⟨hh.lev.key.1, by simp, fun a ha b hb' => ?_⟩
        simp only [List.map_cons, List.map_nil, List.mem_singleton] at hb'
        subst hb'
        intro e'
        subst e'
        exact keyN _ _ e ha
       ·rcases List.mem_append.1 hx with h | h
        ·exact hh.lev.key.2 x h
        ·simp only [List.map_cons, List.map_nil, List.mem_singleton] at h
         subst h
         exact q.lt (hb k hk), hh.lev.ind⟩, hh.down⟩
   have hc1 : cnt (st.putT k (q.at (β k)) q) k ≤ m := by
    have : cnt (st.putT k (q.at (β k)) q) k < cnt st k := filter_lt _ (fun x _ h => by
     cases c : get (st.T k) x with
     | none => rfl
     | some t => rw [hx.T k (Nat.le_refl _) x t c] at h; simp at h) (q.at (β k)) (List.mem_range.2 (q.lt (hb k hk))) (by rw [hTk, get_append, e]; simp [get]) (by rw [e]; rfl)
    omega
   obtain ⟨f, st', h1, h2, h3⟩ := lookAll_ok hb hi live hk q hq ih (st.S k) (st.putT k (q.at (β k)) q) (fun g h => h) hc1 hh1 hm
   have hq' : get (st'.T k) (q.at (β k)) = some q := h2.ext.T k (Nat.le_refl _) _ _ (by rw [hTk, get_append, e]; simp [get])
   refine ⟨f + 1, st', by simp only [run, e]; exact h1, ⟨h2.half, hx.trans h2.ext, h2.same, fun x t h4 h5 g hg => ?_⟩, ?_⟩
   ·cases c : get ((st.putT k (q.at (β k)) q).T k) x with
    | none => exact h2.cl x t h4 c g hg
    | some u =>
     have h6 := h2.ext.T k (Nat.le_refl _) x u c
     rw [h4] at h6
     obtain rfl : t = u := by simpa using h6
     rw [hTk] at c
     rcases hnew x t c with h | ⟨_, rfl, _⟩
     ·rw [h5] at h; cases h
     ·exact h3 g hg
   ·refine (in_iff hk q).2 ⟨q, hq', ?_⟩
    rw [Pm.mul_inv]
    exact (mem hb hi _ (k + 1) st' rfl (by omega) h2.half.good _ (Fix.one _)).2 .one
where
 found (st : St n) (q : Pm n) (hh : Half β st k) (hq : Fix β k q) (hm : Mon (st.S k) q) (t : Pm n) (e : get (st.T k) (q.at (β k)) = some t) :
     ∃ f st', run live β f false k q st = some st' ∧ LPost β k st st' ∧ In β st' k q := by
  by_cases h : k + 1 < n
  ·obtain ⟨f, st', h1, h2⟩ := add h st (q.mul t.inv) hh.good (hh.lev.step hq e)
   have sS := h2.ext.oldS k (by omega)
   have sT := h2.ext.oldT k (by omega)
   refine ⟨f + 1, st', by simp only [run, e, if_pos h]; exact h1, ⟨⟨h2.good, ⟨by rw [sT]; exact hh.lev.one, by rw [sT, sS]; exact hh.lev.ent, by rw [sS]; exact hh.lev.gen, by rw [sT]; exact hh.lev.key, by rw [sS]; exact hh.lev.ind⟩, fun hn g hg => ?_⟩, h2.ext.up, sS, fun x u h3 h4 => ?_⟩, ?_⟩
   ·rw [sS]
    rcases h2.gens with c | c
    ·rw [c] at hg; exact hh.down hn g hg
    ·rw [c] at hg
     rcases List.mem_append.1 hg with hg | hg
     ·exact hh.down hn g hg
     ·simp only [List.mem_singleton] at hg
      subst hg
      exact hm.mul (hh.lev.ent _ _ e).2.2.2.inv
   ·rw [sT, h4] at h3; cases h3
   ·exact (in_iff hk q).2 ⟨t, by rw [sT]; exact e, h2.mem⟩
  ·refine ⟨1, st, by simp only [run, e, if_neg h], LPost.refl hh, (in_iff hk q).2 ⟨t, e, ?_⟩⟩
   obtain rfl : n = k + 1 := by omega
   exact in_top st _
include hb hi in
theorem add_ok : ∀ (d k : Nat), n - k = d → k < n → ∀ (st : St n) (p : Pm n), Good β st k → Fix β k p → ∃ f st', run live β f true k p st = some st' ∧ APost β k p st st'
 | 0, k, hd, hk, _, _, _, _ => by omega
 | d + 1, k, hd, hk, st, p, hg, hp => by
  by_cases hin : In β st k p
  ·exact ⟨1, st, by unfold In at hin; simp only [run]; rw [if_pos hin], hg, Ext.refl k st, hin, .inl rfl⟩
  ·have lk := look_ok hb hi live hk (fun h st p g fp => add_ok d (k + 1) (by omega) h st p g fp)
   have F := hg k (Nat.le_refl _) hk
   have hS : (st.pushS k p).S k = st.S k ++ [p] := by show (if k = k then _ else _) = _; rw [if_pos rfl]
   have hSj : ∀ j, j ≠ k → (st.pushS k p).S j = st.S j := fun j h => by show (if j = k then _ else _) = _; rw [if_neg h]
   have hx : Ext k st (st.pushS k p) := ⟨fun j _ x t h => h, fun j hj g h => by
    by_cases c : j = k
    ·subst c; rw [hS]; simp [h]
    ·rw [hSj j c]; exact h, fun j hj => hSj j (by omega), fun j _ => rfl⟩
   have sub : ∀ g ∈ st.S k, g ∈ (st.pushS k p).S k := hx.S k (Nat.le_refl _)
   have g1 : Good β (st.pushS k p) (k + 1) := good_congr (st := st) (fun j _ => rfl) (fun j hj => hSj j (by omega)) (hg.le (by omega))
   have hh1 : Half β (st.pushS k p) k := ⟨g1, ⟨F.lev.one, fun x t h => by
    obtain ⟨a, b, c, e⟩ := F.lev.ent x t h
    exact ⟨a, b, c, e.sub sub⟩, fun g h => by
    rw [hS] at h
    rcases List.mem_append.1 h with h | h
    ·exact F.lev.gen g h
    ·simp only [List.mem_singleton] at h
     subst h; exact hp, F.lev.key, by rw [hS]; exact F.lev.ind.push fun c => hin ((mem hb hi _ k st rfl (by omega) hg p hp).2 (by unfold gp; rw [if_pos hk]; exact c))⟩, fun hn g h => by
    rw [hSj _ (by omega)] at h
    exact (F.down hn g h).sub sub⟩
   have hpm : p ∈ (st.pushS k p).S k := by rw [hS]; simp
   obtain ⟨f, st', h1, h2, h3⟩ := orbitAll_ok hb hi live hk p hp (st.T k) (fun st q hh hq hm => lk _ st q (Nat.le_refl _) hh hq hm) (List.range n) (st.pushS k p) (fun x t h => h) hh1 hpm
   refine ⟨f + 1, st', by unfold In at hin; simp only [run]; rw [if_neg hin]; exact h1, ?_, hx.trans h2.ext, ?_, .inr (h2.same.trans hS)⟩
   ·refine h2.half.good.cons ⟨h2.half.lev, h2.half.down, fun x t h4 g hgm => ?_⟩
    rw [h2.same, hS] at hgm
    cases c : get (st.T k) x with
    | none => exact h2.cl x t h4 c g (by rw [hS]; exact hgm)
    | some u =>
     have h5 := h2.ext.T k (Nat.le_refl _) x u c
     rw [h4] at h5
     obtain rfl : t = u := by simpa using h5
     obtain ⟨a1, a2, a3, a4⟩ := F.lev.ent x t c
     rcases List.mem_append.1 hgm with hgm | hgm
     ·exact in_mono hb hi hk (hg.le (by omega)) h2.half.good F.lev (hx.trans h2.ext) (a3.mul (F.lev.gen g hgm)) (F.cl x t c g hgm)
     ·simp only [List.mem_singleton] at hgm
      subst hgm
      exact h3 x (List.mem_range.2 a1) t c
   ·have := h3 (β k) (List.mem_range.2 (hb k hk)) _ F.lev.one
    rwa [Pm.one_mul] at this
def begin_ (n : Nat) (β : Nat → Nat) : St n := ⟨fun _ => [], fun k => [(β k, Pm.one n)]⟩
include hb in
theorem begin_good : Good β (begin_ n β) 0 := fun j _ hj => by
 have L : Lev β (begin_ n β) j := by
  refine ⟨by simp [begin_, get], fun x t h => ?_, fun g h => by simp [begin_] at h, ⟨by simp [begin_], fun x hx => ?_⟩, Ind.nil⟩
  ·simp only [begin_, get] at h
   split at h
   ·rename_i c
    subst c
    simp only [Option.some.injEq] at h
    subst h
    exact ⟨hb j hj, Pm.at_one n _, Fix.one _, .one⟩
   ·cases h
  ·simp only [begin_, List.map_cons, List.map_nil, List.mem_singleton] at hx
   subst hx
   exact hb j hj
 exact ⟨L, fun _ g h => by simp [begin_] at h, fun x t _ g h => by simp [begin_] at h⟩
def addAll (live : Bool) (β : Nat → Nat) (f : Nat) : List (Pm n) → St n → Option (St n)
 | [], st => some st
 | p :: ps, st => match run live β f true 0 p st with
  | some st' => addAll live β f ps st'
  | none => none
theorem addAll_mono {f g : Nat} (h : f ≤ g) : ∀ (ps : List (Pm n)) (st r : St n), addAll live β f ps st = some r → addAll live β g ps st = some r
 | [], _, _, k => k
 | p :: ps, st, r, k => by
  simp only [addAll] at k ⊢
  split at k
  ·rename_i st' e
   rw [run_mono live β h e]
   exact addAll_mono h ps st' r k
  ·cases k
include hb hi in
theorem addAll_ok (hn : 0 < n) : ∀ (ps : List (Pm n)) (st : St n), Good β st 0 → ∃ f st', addAll live β f ps st = some st' ∧ Good β st' 0 ∧ (∀ g ∈ st.S 0, g ∈ st'.S 0) ∧ (∀ g ∈ st'.S 0, g ∈ st.S 0 ∨ g ∈ ps) ∧ ∀ p ∈ ps, Mon (st'.S 0) p
 | [], st, h => ⟨0, st, rfl, h, fun g h => h, fun g h => .inl h, fun p hp => by simp at hp⟩
 | p :: ps, st, h => by
  obtain ⟨f1, st1, e1, p1⟩ := add_ok hb hi live n 0 (by omega) hn st p h (fun j hj => by omega)
  obtain ⟨f2, st2, e2, g2, s2, m2, i2⟩ := addAll_ok hn ps st1 p1.good
  refine ⟨f1 + f2, st2, ?_, g2, fun g hg => s2 g (p1.ext.S 0 (Nat.le_refl _) g hg), fun g hg => ?_, fun x hx => ?_⟩
  ·simp only [addAll]
   rw [run_mono live β (Nat.le_add_right f1 f2) e1]
   exact addAll_mono live (Nat.le_add_left f2 f1) ps st1 st2 e2
  ·rcases m2 g hg with h | h
   ·rcases p1.gens with c | c
    ·rw [c] at h; exact .inl h
    ·rw [c] at h
     rcases List.mem_append.1 h with h | h
     ·exact .inl h
     ·simp only [List.mem_singleton] at h
      subst h; exact .inr (by simp)
   ·exact .inr (by simp [h])
  ·rcases List.mem_cons.1 hx with rfl | hx
   ·have h1 := (mem hb hi n 0 st1 (by omega) (by omega) p1.good x fun j hj => by omega).1 p1.mem
    unfold gp at h1
    rw [if_pos hn] at h1
    exact h1.sub s2
   ·exact i2 x hx
def Orb (β : Nat → Nat) (gens : List (Pm n)) (k x : Nat) : Prop := ∃ p, Mon gens p ∧ Fix β k p ∧ p.at (β k) = x
structure Of (β : Nat → Nat) (gens : List (Pm n)) (st : St n) : Prop where
 good : Good β st 0
 mem : ∀ k, k ≤ n → ∀ p, Fix β k p → (In β st k p ↔ Mon gens p)
 orb : ∀ k, k < n → ∀ x, (get (st.T k) x).isSome = true ↔ Orb β gens k x
include hb hi in
theorem of_good {gens : List (Pm n)} {st : St n} (hn : 0 < n) (g : Good β st 0) (h : ∀ p, Mon (st.S 0) p ↔ Mon gens p) : Of β gens st := by
 have m0 : ∀ p, In β st 0 p ↔ Mon gens p := fun p => by
  rw [Ch.mem hb hi n 0 st (by omega) (by omega) g p fun j hj => by omega, ← h]
  unfold gp
  rw [if_pos hn]
 have down : ∀ k, k ≤ n → ∀ p, Fix β k p → (In β st k p ↔ In β st 0 p) := by
  intro k
  induction k with
  | zero => intro _ p _; exact Iff.rfl
  | succ k ih =>
   intro hk p hp
   rw [← ih (by omega) p (hp.le (by omega)), in_iff (show k < n by omega) p]
   have e : p.at (β k) = β k := hp k (by omega)
   rw [e, (g k (by omega) (by omega)).lev.one]
   constructor
   ·intro h1
    exact ⟨_, rfl, by rw [Pm.inv_one, Pm.mul_one]; exact h1⟩
   ·rintro ⟨t, h1, h2⟩
    simp only [Option.some.injEq] at h1
    subst h1
    rwa [Pm.inv_one, Pm.mul_one] at h2
 have hm : ∀ k, k ≤ n → ∀ p, Fix β k p → (In β st k p ↔ Mon gens p) := fun k hk p hp => (down k hk p hp).trans (m0 p)
 refine ⟨g, hm, fun k hk x => ?_⟩
 have L := (g k (by omega) hk).lev
 constructor
 ·intro h1
  obtain ⟨t, ht⟩ := Option.isSome_iff_exists.1 h1
  obtain ⟨a1, a2, a3, a4⟩ := L.ent x t ht
  refine ⟨t, (hm k (by omega) t a3).1 ?_, a3, a2⟩
  refine (Ch.mem hb hi _ k st rfl (by omega) (g.le (by omega)) t a3).2 ?_
  unfold gp
  rw [if_pos hk]; exact a4
 ·rintro ⟨p, h1, h2, rfl⟩
  obtain ⟨t, ht, _⟩ := (in_iff hk p).1 ((hm k (by omega) p h2).2 h1)
  rw [ht]; rfl
include hb hi in
theorem group_ok (hn : 0 < n) (gens : List (Pm n)) : ∃ f st, addAll live β f gens (begin_ n β) = some st ∧ Of β gens st := by
 obtain ⟨f, st, h1, h2, h3, h4, h5⟩ := addAll_ok hb hi live hn gens (begin_ n β) (begin_good hb)
 refine ⟨f, st, h1, of_good hb hi hn h2 fun p => ⟨fun h => h.sub fun g hg => ?_, fun h => h.into h5⟩⟩
 rcases h4 g hg with h | h
 ·simp [begin_] at h
 ·exact h
end law
end Ch
end
section
set_option linter.unusedVariables false
set_option linter.unusedSimpArgs false
namespace Ch
open Pg
def codeL (n : Nat) : List Nat → Nat
 | [] => 0
 | x :: l => x + n * codeL n l
theorem codeL_lt {n : Nat} : ∀ l : List Nat, (∀ x ∈ l, x < n) → codeL n l < n ^ l.length
 | [], _ => by simp [codeL]
 | x :: l, h => by
  have h1 := codeL_lt l fun y hy => h y (by simp [hy])
  have h2 := h x (by simp)
  simp only [codeL, List.length_cons, Nat.pow_succ]
  have h3 : n * (codeL n l + 1) ≤ n * n ^ l.length := Nat.mul_le_mul_left n h1
  rw [Nat.mul_add, Nat.mul_one] at h3
  rw [Nat.mul_comm (n ^ l.length) n]
  omega
theorem codeL_inj {n : Nat} : ∀ l m : List Nat, (∀ x ∈ l, x < n) → (∀ x ∈ m, x < n) → l.length = m.length → codeL n l = codeL n m → l = m
 | [], [], _, _, _, _ => rfl
 | [], _ :: _, _, _, h, _ => by simp at h
 | _ :: _, [], _, _, h, _ => by simp at h
 | x :: l, y :: m, hl, hm, h, e => by
  have hx := hl x (by simp)
  have hy := hm y (by simp)
  simp only [codeL] at e
  have e1 : x = y := by
   have := congrArg (· % n) e
   simpa [Nat.add_mul_mod_self_left, Nat.mod_eq_of_lt hx, Nat.mod_eq_of_lt hy] using this
  subst e1
  have e2 : codeL n l = codeL n m := Nat.eq_of_mul_eq_mul_left (show 0 < n by omega) (by omega)
  rw [codeL_inj l m (fun z hz => hl z (by simp [hz])) (fun z hz => hm z (by simp [hz])) (by simpa using h) e2]
theorem Pm.small {n : Nat} (p : Pm n) : ∀ x ∈ p.l, x < n := fun x hx => by
 obtain ⟨i, h1, rfl⟩ := List.mem_iff_getElem.1 hx
 have := p.ok.lt i (by rw [← p.ok.len]; exact h1)
 rwa [ap_get h1] at this
theorem pm_ext {n : Nat} {p q : Pm n} (h : p.l = q.l) : p = q := Pm.ext fun i _ => by unfold Pm.at; rw [h]
theorem nodup_map {α β : Type} {f : α → β} : ∀ l : List α, l.Nodup → (∀ a ∈ l, ∀ b ∈ l, f a = f b → a = b) → (l.map f).Nodup
 | [], _, _ => by simp
 | a :: l, h, hf => by
  rw [List.nodup_cons] at h
  rw [List.map_cons, List.nodup_cons]
  refine ⟨fun hm => ?_, nodup_map l h.2 fun x hx y hy => hf x (by simp [hx]) y (by simp [hy])⟩
  obtain ⟨b, hb, e⟩ := List.mem_map.1 hm
  have := hf b (by simp [hb]) a (by simp) e
  subst this
  exact h.1 hb
theorem pm_count {n : Nat} (L : List (Pm n)) (h : L.Nodup) : L.length ≤ n ^ n := by
 have h1 := nodup_len (L.map fun p => codeL n p.l) (List.range (n ^ n)) (nodup_map L h fun a _ b _ e => pm_ext (codeL_inj _ _ (Pm.small a) (Pm.small b) (by rw [a.ok.len, b.ok.len]) e)) fun x hx => by
  obtain ⟨p, _, rfl⟩ := List.mem_map.1 hx
  have := codeL_lt p.l (Pm.small p)
  rw [p.ok.len] at this
  exact List.mem_range.2 this
 simpa using h1
theorem ind_prods {n : Nat} : ∀ (m : Nat) (S : List (Pm n)), S.length = m → Ind S → ∃ L : List (Pm n), L.Nodup ∧ L.length = 2 ^ m ∧ ∀ p ∈ L, Mon S p
 | 0, S, h, _ => by
  obtain rfl := List.length_eq_zero_iff.1 h
  exact ⟨[Pm.one n], by simp, rfl, fun p hp => by
   simp only [List.mem_singleton] at hp
   subst hp; exact .one⟩
 | m + 1, S, h, hi => by
  have hne : S ≠ [] := by intro c; rw [c] at h; cases h
  obtain ⟨T, p, rfl⟩ : ∃ T p, S = T ++ [p] := ⟨S.dropLast, S.getLast hne, (List.dropLast_concat_getLast hne).symm⟩
  obtain ⟨h1, h2⟩ := hi.pop
  obtain ⟨L, l1, l2, l3⟩ := ind_prods m T (by simpa using h) h1
  refine ⟨L ++ L.map (·.mul p), ?_, by simp [l2, Nat.pow_succ]; omega, fun q hq => ?_⟩
  ·rw [List.nodup_append]
   refine ⟨l1, nodup_map L l1 fun a _ b _ e => ?_, fun a ha b hb e => ?_⟩
   ·rw [← Pm.mul_mul_inv (p := a) (q := p), e, Pm.mul_mul_inv]
   ·obtain ⟨c, hc, rfl⟩ := List.mem_map.1 hb
    refine h2 ?_
    have h3 := (l3 c hc).inv.mul (l3 a ha)
    rwa [e, ← Pm.assoc, Pm.inv_mul, Pm.one_mul] at h3
  ·rcases List.mem_append.1 hq with hq | hq
   ·exact (l3 q hq).sub fun g hg => by simp [hg]
   ·obtain ⟨c, hc, rfl⟩ := List.mem_map.1 hq
    exact .step ((l3 c hc).sub fun g hg => by simp [hg]) (by simp)
theorem ind_len {n : Nat} (hn : n ≤ 64) {S : List (Pm n)} (h : Ind S) : S.length ≤ 384 := by
 obtain ⟨L, l1, l2, _⟩ := ind_prods S.length S rfl h
 have h1 := pm_count L l1
 rw [l2] at h1
 obtain ⟨E, hE⟩ : ∃ E, E = 64 := ⟨_, rfl⟩
 have h2 : n ^ n ≤ E ^ E := Nat.le_trans (Nat.pow_le_pow_left (by omega) n) (Nat.pow_le_pow_right (by omega) (by omega))
 have h3 : E ^ E ≤ (2 ^ 6) ^ E := Nat.pow_le_pow_left (by omega) E
 rw [← Nat.pow_mul] at h3
 have := (Nat.pow_le_pow_iff_right (by omega)).1 (Nat.le_trans h1 (Nat.le_trans h2 h3))
 omega
end Ch
end
section
set_option linter.unusedVariables false
set_option linter.unusedSimpArgs false
namespace Ch
open Pg
variable {n : Nat}
structure Grow (st r : St n) : Prop where
 T : ∀ j x t, get (st.T j) x = some t → get (r.T j) x = some t
 S : ∀ j, (st.S j).length ≤ (r.S j).length
theorem Grow.refl (st : St n) : Grow st st := ⟨fun _ _ _ h => h, fun _ => Nat.le_refl _⟩
theorem Grow.trans {a b c : St n} (h : Grow a b) (g : Grow b c) : Grow a c := ⟨fun j x t e => g.T j x t (h.T j x t e), fun j => Nat.le_trans (h.S j) (g.S j)⟩
theorem Grow.pushS (st : St n) (k : Nat) (p : Pm n) : Grow st (st.pushS k p) := ⟨fun _ _ _ h => h, fun j => by
 simp only [St.pushS]
 split
 ·rename_i e; subst e; simp
 ·exact Nat.le_refl _⟩
theorem Grow.putT (st : St n) (k x : Nat) (p : Pm n) : Grow st (st.putT k x p) := ⟨fun j y t h => by
 simp only [St.putT]
 split
 ·rename_i e; subst e; rw [get_append, h]
 ·exact h, fun _ => Nat.le_refl _⟩
theorem lookAll_grow {lk : Pm n → St n → Option (St n)} (h : ∀ q st r, lk q st = some r → Grow st r) (q : Pm n) : ∀ gs st r, lookAll lk q gs st = some r → Grow st r
 | [], st, r, k => by simp only [lookAll, Option.some.injEq] at k; subst k; exact .refl _
 | g :: gs, st, r, k => by
  simp only [lookAll] at k
  split at k
  ·rename_i st' e
   exact (h _ _ _ e).trans (lookAll_grow h q gs st' r k)
  ·cases k
theorem orbitAll_grow {lk : Pm n → St n → Option (St n)} {gt : St n → Nat → Option (Pm n)} (h : ∀ q st r, lk q st = some r → Grow st r) (p : Pm n) : ∀ xs st r, orbitAll lk gt p xs st = some r → Grow st r
 | [], st, r, k => by simp only [orbitAll, Option.some.injEq] at k; subst k; exact .refl _
 | x :: xs, st, r, k => by
  simp only [orbitAll] at k
  split at k
  ·exact orbitAll_grow h p xs st r k
  ·split at k
   ·rename_i st' e
    exact (h _ _ _ e).trans (orbitAll_grow h p xs st' r k)
   ·cases k
theorem run_grow (live : Bool) (β : Nat → Nat) : ∀ f b k p (st r : St n), run live β f b k p st = some r → Grow st r
 | 0, _, _, _, _, _, h => by simp [run] at h
 | f + 1, true, k, p, st, r, h => by
  rw [run] at h
  split at h
  ·simp only [Option.some.injEq] at h; subst h; exact .refl _
  ·exact (Grow.pushS st k p).trans (orbitAll_grow (fun q st r => run_grow live β f false k q st r) p _ _ _ h)
 | f + 1, false, k, q, st, r, h => by
  rw [run] at h
  split at h
  ·split at h
   ·exact run_grow live β f true _ _ _ _ h
   ·simp only [Option.some.injEq] at h; subst h; exact .refl _
  ·exact (Grow.putT st k _ q).trans (lookAll_grow (fun q st r => run_grow live β f false k q st r) q _ _ _ h)
theorem addAll_grow (live : Bool) (β : Nat → Nat) (f : Nat) : ∀ (ps : List (Pm n)) (st r : St n), addAll live β f ps st = some r → Grow st r
 | [], st, r, k => by simp only [addAll, Option.some.injEq] at k; subst k; exact .refl _
 | p :: ps, st, r, k => by
  simp only [addAll] at k
  split at k
  ·rename_i st' e
   exact (run_grow live β f _ _ _ _ _ e).trans (addAll_grow live β f ps st' r k)
  ·cases k
theorem lookAll_old {lk : Pm n → St n → Option (St n)} {j : Nat} (h : ∀ q st r, lk q st = some r → r.S j = st.S j) (q : Pm n) : ∀ gs st r, lookAll lk q gs st = some r → r.S j = st.S j
 | [], st, r, k => by simp only [lookAll, Option.some.injEq] at k; subst k; rfl
 | g :: gs, st, r, k => by
  simp only [lookAll] at k
  split at k
  ·rename_i st' e
   exact (lookAll_old h q gs st' r k).trans (h _ _ _ e)
  ·cases k
theorem orbitAll_old {lk : Pm n → St n → Option (St n)} {gt : St n → Nat → Option (Pm n)} {j : Nat} (h : ∀ q st r, lk q st = some r → r.S j = st.S j) (p : Pm n) : ∀ xs st r, orbitAll lk gt p xs st = some r → r.S j = st.S j
 | [], st, r, k => by simp only [orbitAll, Option.some.injEq] at k; subst k; rfl
 | x :: xs, st, r, k => by
  simp only [orbitAll] at k
  split at k
  ·exact orbitAll_old h p xs st r k
  ·split at k
   ·rename_i st' e
    exact (orbitAll_old h p xs st' r k).trans (h _ _ _ e)
   ·cases k
theorem run_old (live : Bool) (β : Nat → Nat) : ∀ f b k p (st r : St n), run live β f b k p st = some r → ∀ j, (b = true → j < k) → j ≤ k → r.S j = st.S j
 | 0, _, _, _, _, _, h, _, _, _ => by simp [run] at h
 | f + 1, true, k, p, st, r, h, j, hj, _ => by
  have hj := hj rfl
  rw [run] at h
  split at h
  ·simp only [Option.some.injEq] at h; subst h; rfl
  ·refine (orbitAll_old (fun q st r e => run_old live β f false k q st r e j (fun c => by cases c) (by omega)) p _ _ _ h).trans ?_
   simp only [St.pushS]
   rw [if_neg (by omega)]
 | f + 1, false, k, q, st, r, h, j, _, hj => by
  rw [run] at h
  split at h
  ·split at h
   ·exact run_old live β f true _ _ _ _ h j (fun _ => by omega) (by omega)
   ·simp only [Option.some.injEq] at h; subst h; rfl
  ·have := lookAll_old (j := j) (fun q st r e => run_old live β f false k q st r e j (fun c => by cases c) hj) q _ _ _ h
   exact this
theorem orbitAll_filter {lk : Pm n → St n → Option (St n)} {gt : St n → Nat → Option (Pm n)} (p : Pm n) (g : Nat → Bool) (hg : ∀ x, g x = false → ∀ st, gt st x = none) : ∀ xs st, orbitAll lk gt p (xs.filter g) st = orbitAll lk gt p xs st
 | [], st => rfl
 | x :: xs, st => by
  cases h : g x with
  | false =>
   rw [List.filter_cons_of_neg (by simp [h]), orbitAll_filter p g hg xs st]
   conv => rhs; rw [orbitAll]
   rw [hg x h st]
  | true =>
   rw [List.filter_cons_of_pos h, orbitAll, orbitAll]
   cases gt st x with
   | none => exact orbitAll_filter p g hg xs st
   | some t =>
    simp only
    cases lk (t.mul p) st with
    | none => rfl
    | some st' => exact orbitAll_filter p g hg xs st'
theorem get_mem {l : List (Nat × Pm n)} {x : Nat} : (get l x).isSome = true ↔ x ∈ l.map (·.1) := by
 induction l with
 | nil => simp [get]
 | cons a l ih =>
  simp only [get, List.map_cons, List.mem_cons]
  split
  ·rename_i e; simp [e]
  ·rename_i e
   rw [ih]
   constructor
   ·exact .inr
   ·rintro (h | h)
    ·exact absurd h.symm e
    ·exact h
def keys (l : List (Nat × Pm n)) : List Nat := (List.range n).filter fun x => (get l x).isSome
theorem keys_perm {l : List (Nat × Pm n)} (h1 : (l.map (·.1)).Nodup) (h2 : ∀ x ∈ l.map (·.1), x < n) : (keys l).Perm (l.map (·.1)) :=
 (List.perm_ext_iff_of_nodup (List.Pairwise.filter _ List.nodup_range) h1).2 fun x => by
  rw [List.mem_filter, List.mem_range]
  show x < n ∧ (get l x).isSome = true ↔ _
  rw [get_mem]
  exact ⟨fun h => h.2, fun h => ⟨h2 x h, h⟩⟩
theorem keys_sorted (l : List (Nat × Pm n)) : (keys l).Pairwise (· < ·) := List.Pairwise.filter _ List.pairwise_lt_range
theorem orbit_keys {lk : Pm n → St n → Option (St n)} (l : List (Nat × Pm n)) (k : Nat) (p : Pm n) (st : St n) : orbitAll lk (pick false l k) p (keys l) st = orbitAll lk (pick false l k) p (List.range n) st :=
 orbitAll_filter p _ (fun x h st => by
  unfold pick
  rw [if_neg (by simp [h])]) _ _
theorem mem_keys {l : List (Nat × Pm n)} {x : Nat} (h : x ∈ keys l) : x < n ∧ (get l x).isSome = true := by
 unfold keys at h
 rw [List.mem_filter, List.mem_range] at h
 exact h
end Ch
end
section
set_option maxHeartbeats 8000000
set_option linter.unusedVariables false
set_option linter.unusedSimpArgs false
set_option maxRecDepth 10000
namespace Go.Proofs.Ytkffcclalncgdaa.Iv
open Go Go.Iv Go.RowKit Pg Ch
theorem call_at {P : Program} {T : Tab} (hT : T.Ok P) (hm : P.follows .mixedOrders = true) (Es : List (Entry P)) {f : FuncId} {args : List AV} {h h' : Hp} {e : AEnd} (k : SemCall P f args h e h') (le : Hp.Le h h') :
    ∃ call, Base P T call ∧ call f args h = some (e, h') ∧ ∀ g a h2, g ≠ f → call g a h2 = tabL Es g a h2 := by
 obtain ⟨E, hE⟩ : ∃ E : Entry P, E = ⟨f, fun a g e2 g2 => a = args ∧ g = h ∧ e2 = e ∧ g2 = h', by rintro _ _ _ _ ⟨rfl, rfl, rfl, rfl⟩; exact ⟨k, le⟩⟩ := ⟨_, rfl⟩
 have hf : E.f = f := by rw [hE]
 refine ⟨tabL (E :: Es), tabL_base _ hT hm, ?_, fun g a h2 hg => tabL_miss E Es g a h2 (by rw [hf]; exact hg)⟩
 obtain ⟨e1, h1, h2, h3⟩ := Entry.some (E := E) (args := args) (h := h) (e := e) (h' := h') (by rw [hE]; exact ⟨rfl, rfl, rfl, rfl⟩)
 rw [tabL_hit E Es f args h hf.symm, h2]
 rw [hE] at h3
 obtain ⟨_, _, rfl, rfl⟩ := h3
 rfl
theorem binA_islE {T : Tab} {t e : TypeId} {a b : Nat} {z : List Value} (h : T.types.get t = some ⟨.slice e, a, b, z⟩) (ox oy : Operand) (l : List AV) (zz o n c d : Nat) (hn : 0 < n) : binA T .eql t ox oy (.isl l zz o n) (.flat (.slice none c d)) = some (.flat (.bool false)) := by
 obtain ⟨m, rfl⟩ : ∃ m, n = m + 1 := ⟨n - 1, by omega⟩
 exact binA_eq T .eql t ox oy _ _ false (by simp only [evEq, h]) (.inl rfl) (by simp) (by simp)
theorem binA_islN {T : Tab} {t e : TypeId} {a b : Nat} {z : List Value} (h : T.types.get t = some ⟨.slice e, a, b, z⟩) (ox oy : Operand) (l : List AV) (zz o n c d : Nat) (hn : 0 < n) : binA T .neq t ox oy (.isl l zz o n) (.flat (.slice none c d)) = some (.flat (.bool true)) := by
 obtain ⟨m, rfl⟩ : ∃ m, n = m + 1 := ⟨n - 1, by omega⟩
 exact binA_eq T .neq t ox oy _ _ false (by simp only [evEq, h]) (.inr rfl) (by simp) (by simp)
def nilS : AV := .flat (.slice none 0 0)
def optV {n : Nat} : Option (Pm n) → AV
 | none => nilS
 | some p => pl p.l
def gv (g : Option Nat) (m : Nat) : AV := match g with
 | none => nilS
 | some b => .slice b 0 m (.toEnd 1)
def ent {n : Nat} (e : Nat × Pm n) : Int × AV := ((e.1 : Int), pl e.2.l)
structure Lay where
 C : Nat
 K : Nat
 L : Nat → Nat
 M : Nat → Nat
structure Stands {n : Nat} (y : Lay) (β : Nat → Nat) (G : AV) (gb : Nat → Option Nat) (st : St n) (h : Hp) : Prop where
 chain : h.m y.C = some (.cells [pc n, G, gv (if n = 0 then none else some y.K) n] 73 false)
 links : 0 < n → h.m y.K = some (.cells ((List.range n).map fun k => .ptr (y.L k) 0) 67 true)
 link : ∀ k, k < n → h.m (y.L k) = some (.cells [pc (β k), gv (gb k) (st.S k).length, .map (y.M k)] 70 false)
 map : ∀ k, k < n → h.m (y.M k) = some (.map ((st.T k).map ent))
 gens : ∀ k, k < n → match gb k with
  | none => st.S k = []
  | some b => h.m b = some (.cells ((st.S k).map fun p => pl p.l) 23 true)
 key : ∀ k, k < n → ((st.T k).map (·.1)).Nodup ∧ ∀ x ∈ (st.T k).map (·.1), x < n
 mdis : ∀ i j, i < n → j < n → y.M i = y.M j → i = j
 ldis : ∀ i j, i < n → j < n → y.L i = y.L j → i = j
 gdis : ∀ i j b, i < n → j < n → gb i = some b → gb j = some b → i = j
 born : ∀ i, h.next ≤ i → h.m i = none
theorem Stands.chain' {n : Nat} {y : Lay} {β : Nat → Nat} {G : AV} {gb : Nat → Option Nat} {st : St n} {h : Hp} (s : Stands y β G gb st h) (hn : 0 < n) : h.m y.C = some (.cells [pc n, G, .slice y.K 0 n (.toEnd 1)] 73 false) := by
 have := s.chain
 rw [if_neg (by omega)] at this
 exact this
theorem findM_ent {n : Nat} (x : Nat) : ∀ l : List (Nat × Pm n), findM (l.map ent) (x : Int) = (get l x).map fun t => pl t.l
 | [] => rfl
 | (y, t) :: l => by
  simp only [List.map_cons, ent, findM, Ch.get, ieq_dec]
  by_cases e : y = x
  ·subst e; simp
  ·have : ¬ (x : Int) = (y : Int) := by omega
   simp only [this, if_false, e, decide_false, cond_false]
   exact findM_ent x l
theorem lt_next {h : Hp} (hb : ∀ i, h.next ≤ i → h.m i = none) {i : Nat} {o : AO} (k : h.m i = some o) : i < h.next := by
 apply Decidable.byContradiction
 intro c
 rw [hb i (by omega)] at k; cases k
theorem pl_cons {n : Nat} (hn : 0 < n) (p : Pm n) : pl p.l = .isl (p.l.map pc) 1 0 n := by unfold pl; rw [p.ok.len]
theorem sift_sem {n : Nat} (hn : n ≤ 1000) {y : Lay} {β : Nat → Nat} {G : AV} {gb : Nat → Option Nat} {st : St n} {h : Hp} (s : Stands y β G gb st h) {k : Nat} (hk : k < n) (hβ : β k < n) (p : Pm n) :
    SemCall Try.prog 71 [.ptr (y.L k) 0, pl p.l] h (.ret (optV ((get (st.T k) (p.at (β k))).map fun t => p.mul t.inv))) h := by
 refine sem_still tables.ok Try.func71 rfl rfl rfl rfl ?_
 have B : Base Try.prog tab _ := tabL_base [EcInv, EcMul] tables.ok mixed
 generalize hL : tabL [EcInv, EcMul] = call at B
 have c_EcInv : ∀ a h, call 87 a h = EcInv.ans a h := fun _ _ => hL ▸ rfl
 have c_EcMul : ∀ a h, call 54 a h = EcMul.ans a h := fun _ _ => hL ▸ rfl
 clear hL
 have hL := s.link k hk
 have hM := s.map k hk
 have lL := lt_next s.born hL
 have lM := lt_next s.born hM
 have hx : p.l[β k]? = some (p.at (β k)) := by
  have := p.ok.len
  unfold Pm.at
  rw [ap_get (by omega)]; exact List.getElem?_eq_getElem (by omega)
 have g1 := pl_get hx
 have g2 := findM_ent (p.at (β k)) (st.T k)
 rw [pl_cons (by omega) p]
 generalize y.L k = lk at *
 generalize y.M k = mk at *
 cases hg : get (st.T k) (p.at (β k)) with
 | none =>
  rw [hg] at g2
  generalize p.at (β k) = x at *
  simp only [Option.map_none] at g2
  unfold Try.f71 bodyOf entry; simp only [Option.getD_some, List.length_cons, List.length_nil, Nat.reduceAdd, Nat.reduceSub]
  repeat (first
   | refine wp_seqQ ?_ | refine wp_blockQ ?_ | refine wp_scopeQ ?_
   | ((first | refine wp_skipQ ?_ | refine wp_labelQ ?_ | refine wp_exitQ ?_ | refine wp_retQ ?_); simp only [kQ, Nat.reduceEqDiff, reduceIte])
   | ((first | refine wp_dreg B (id := 1) [0, 1, 3, 7, 0, 0, 32, 96, 224, 496, 1008, 2047, 4095, 8191, 8191, 16383, 65535] (by kernel_rfl) ?_ | refine wp_reg B ?_); simp (disch := omega) only [kW, kG, Nat.reduceEqDiff, reduceIte, Nat.reduceLT, Nat.reduceLeDiff, Nat.reduceAdd, Nat.reduceSub, Nat.reduceMul, Nat.reducePow, Nat.reduceDiv, Nat.reduceMod, evIndexAddr, TD.agg, evFieldAddr, binA_eqB ty4, binA_neB ty4, ty3, ty4, ty22, ty23, ty68, ty70, fn87, fn54, c_EcInv, EcInv_ans, c_EcMul, EcMul_ans, hL, hM, pc, g1, g2])
   | refine wp_condT rfl ?_ | refine wp_condF rfl ?_)
  simp (disch := omega) only [kS, Nat.reduceEqDiff, reduceIte, Nat.reduceLT, Nat.reduceLeDiff, Nat.reduceAdd, Nat.reduceSub, Nat.reduceMul, Nat.reducePow, Nat.reduceDiv, Nat.reduceMod, evIndexAddr, TD.agg, evFieldAddr, binA_eqB ty4, binA_neB ty4, ty3, ty4, ty22, ty23, ty68, ty70, fn87, fn54, c_EcInv, EcInv_ans, c_EcMul, EcMul_ans, optV, nilS]
 | some t =>
  rw [hg] at g2
  generalize p.at (β k) = x at *
  simp only [Option.map_some] at g2
  have k1 : ∀ h, EcInv.ans [pl t.l] h = some (.ret (pl t.inv.l), h) := fun h => EcInv_ans t.l h (by rw [t.ok.len]; exact t.ok) (by rw [t.ok.len]; omega)
  have k2 : ∀ h, EcMul.ans [.isl (p.l.map pc) 1 0 n, pl t.inv.l] h = some (.ret (pl (p.mul t.inv).l), h) := fun h => by
   rw [← pl_cons (by omega) p]
   exact EcMul_ans p.l t.inv.l h (by rw [p.ok.len]; omega) (fun x hx => by rw [t.inv.ok.len]; exact Pm.small p x hx) (by rw [t.inv.ok.len]; omega)
  unfold Try.f71 bodyOf entry; simp only [Option.getD_some, List.length_cons, List.length_nil, Nat.reduceAdd, Nat.reduceSub]
  repeat (first
   | refine wp_seqQ ?_ | refine wp_blockQ ?_ | refine wp_scopeQ ?_
   | ((first | refine wp_skipQ ?_ | refine wp_labelQ ?_ | refine wp_exitQ ?_ | refine wp_retQ ?_); simp only [kQ, Nat.reduceEqDiff, reduceIte])
   | ((first | refine wp_dreg B (id := 1) [0, 1, 3, 7, 0, 0, 32, 96, 224, 496, 1008, 2047, 4095, 8191, 8191, 16383, 65535] (by kernel_rfl) ?_ | refine wp_reg B ?_); simp (disch := omega) only [kW, kG, Nat.reduceEqDiff, reduceIte, Nat.reduceLT, Nat.reduceLeDiff, Nat.reduceAdd, Nat.reduceSub, Nat.reduceMul, Nat.reducePow, Nat.reduceDiv, Nat.reduceMod, evIndexAddr, TD.agg, evFieldAddr, binA_eqB ty4, binA_neB ty4, ty3, ty4, ty22, ty23, ty68, ty70, fn87, fn54, c_EcInv, EcInv_ans, c_EcMul, EcMul_ans, hL, hM, pc, g1, g2, k1, k2])
   | refine wp_condT rfl ?_ | refine wp_condF rfl ?_)
  simp (disch := omega) only [kS, Nat.reduceEqDiff, reduceIte, Nat.reduceLT, Nat.reduceLeDiff, Nat.reduceAdd, Nat.reduceSub, Nat.reduceMul, Nat.reducePow, Nat.reduceDiv, Nat.reduceMod, evIndexAddr, TD.agg, evFieldAddr, binA_eqB ty4, binA_neB ty4, ty3, ty4, ty22, ty23, ty68, ty70, fn87, fn54, c_EcInv, EcInv_ans, c_EcMul, EcMul_ans, optV]
theorem sifted_sem {n : Nat} (hn : n ≤ 1000) {y : Lay} {β : Nat → Nat} {G : AV} {gb : Nat → Option Nat} {st : St n} {h : Hp} (s : Stands y β G gb st h) (hβ : ∀ k, k < n → β k < n) {k : Nat} (hk : k < n) (p : Pm n) :
    SemCall Try.prog 46 [.slice y.K k (n - k) (.toEnd 1), pl p.l] h (.ret (optV (sift β st (n - k) k p))) h := by
 refine sem_still tables.ok Try.func46 rfl rfl rfl rfl ?_
 have hK := s.links (by omega)
 have lK := lt_next s.born hK
 obtain ⟨m, hm⟩ : ∃ m, m = n - k := ⟨_, rfl⟩
 rw [← hm]
 have B := base0
 unfold Try.f46 bodyOf entry; simp only [Option.getD_some, List.length_cons, List.length_nil, Nat.reduceAdd, Nat.reduceSub]
 repeat (first
  | refine wp_seqQ ?_ | refine wp_blockQ ?_ | refine wp_scopeQ ?_
  | ((first | refine wp_skipQ ?_ | refine wp_labelQ ?_ | refine wp_exitQ ?_ | refine wp_retQ ?_); simp only [kQ, Nat.reduceEqDiff, reduceIte])
  | (refine wp_reg B ?_; simp (disch := omega) only [kW, Nat.reduceEqDiff, reduceIte, Nat.reduceLT, Nat.reduceLeDiff, Nat.reduceAdd, Nat.reduceSub, Nat.reduceMul, Nat.reducePow, Nat.reduceDiv, Nat.reduceMod, evIndexAddr, TD.agg, evFieldAddr, ty3, ty22, ty23, ty65, ty67, ty68, ty70, fn71])
  | refine wp_condT rfl ?_ | refine wp_condF rfl ?_)
 refine wp_loopQ (fun f z => ∃ (i : Nat) (q : Pm n) (tm : Nat → Option AV), z = ⟨tm, 22, h, []⟩ ∧ f = m - i ∧ i ≤ m ∧ tm 1 = some (pl q.l) ∧ tm 5 = some (.func (.func 71) [] []) ∧ tm 8 = some (.slice y.K k m (.toEnd 1)) ∧ tm 9 = some (.flat (.int .i64 (m : Int))) ∧ tm 10 = some (.flat (.int .i64 (i : Int))) ∧ sift β st (m - i) (k + i) q = sift β st m k p) m ?_ ?_
 ·exact ⟨0, p, _, rfl, rfl, Nat.zero_le _, rfl, rfl, rfl, rfl, rfl, rfl⟩
 ·rintro f z ⟨i, q, tm, rfl, rfl, hi, t1, t5, t8, t9, t10, hq⟩
  repeat (first
   | refine wp_seqQ ?_ | refine wp_blockQ ?_ | refine wp_scopeQ ?_
   | ((first | refine wp_skipQ ?_ | refine wp_labelQ ?_ | refine wp_exitQ ?_ | refine wp_retQ ?_); simp only [kQ, Nat.reduceEqDiff, reduceIte])
   | (refine wp_reg B ?_; simp (disch := omega) only [kW, Nat.reduceEqDiff, reduceIte, Nat.reduceLT, Nat.reduceLeDiff, Nat.reduceAdd, Nat.reduceSub, Nat.reduceMul, Nat.reducePow, Nat.reduceDiv, Nat.reduceMod, evIndexAddr, TD.agg, evFieldAddr, ty3, ty22, ty23, ty65, ty67, ty68, ty70, fn71, t1, t5, t8, t9, t10])
   | refine wp_condT rfl ?_ | refine wp_condF rfl ?_)
  refine wp_if rfl (fun ilt => ?_) (fun ige => ?_)
  ·have ki : k + i < n := by omega
   have sm := sift_sem hn s ki (hβ _ ki) q
   obtain ⟨call, B, c1, _⟩ := call_at tables.ok mixed [] sm (Hp.Le.refl h)
   have hKc : (List.map (fun k => AV.ptr (y.L k) 0) (List.range n))[k + i]? = some (.ptr (y.L (k + i)) 0) := by rw [List.getElem?_map, List.getElem?_range ki]; rfl
   have hs : sift β st (m - i) (k + i) q = match get (st.T (k + i)) (q.at (β (k + i))) with
    | none => none
    | some t => sift β st (m - (i + 1)) (k + (i + 1)) (q.mul t.inv) := by
    rw [show m - i = m - (i + 1) + 1 by omega, sift]; rfl
   cases hg : get (st.T (k + i)) (q.at (β (k + i))) with
   | none =>
    rw [hg] at c1 hs
    simp only [Option.map_none] at c1
    repeat (first
     | refine wp_seqQ ?_ | refine wp_blockQ ?_ | refine wp_scopeQ ?_
     | ((first | refine wp_skipQ ?_ | refine wp_labelQ ?_ | refine wp_exitQ ?_ | refine wp_retQ ?_); simp only [kQ, Nat.reduceEqDiff, reduceIte])
     | (refine wp_reg B ?_; simp (disch := omega) only [kW, Nat.reduceEqDiff, reduceIte, Nat.reduceLT, Nat.reduceLeDiff, Nat.reduceAdd, Nat.reduceSub, Nat.reduceMul, Nat.reducePow, Nat.reduceDiv, Nat.reduceMod, evIndexAddr, TD.agg, evFieldAddr, ty3, ty22, ty23, ty65, ty67, ty68, ty70, fn71, t1, t5, t8, t9, t10, hK, hKc, c1, optV, nilS])
     | refine wp_condT rfl ?_ | refine wp_condF rfl ?_)
    rw [← hq, hs]
    simp (disch := omega) only [kS, Nat.reduceEqDiff, reduceIte, Nat.reduceLT, Nat.reduceLeDiff, Nat.reduceAdd, Nat.reduceSub, Nat.reduceMul, Nat.reducePow, Nat.reduceDiv, Nat.reduceMod, evIndexAddr, TD.agg, evFieldAddr, ty3, ty22, ty23, ty65, ty67, ty68, ty70, fn71, optV, nilS]
   | some t =>
    rw [hg] at c1 hs
    simp only [Option.map_some, optV] at c1
    have hp := pl_cons (show 0 < n by omega) (q.mul t.inv)
    repeat (first
     | refine wp_seqQ ?_ | refine wp_blockQ ?_ | refine wp_scopeQ ?_
     | ((first | refine wp_skipQ ?_ | refine wp_labelQ ?_ | refine wp_exitQ ?_ | refine wp_retQ ?_); simp only [kQ, Nat.reduceEqDiff, reduceIte])
     | (refine wp_reg B ?_; simp (disch := omega) only [kW, Nat.reduceEqDiff, reduceIte, Nat.reduceLT, Nat.reduceLeDiff, Nat.reduceAdd, Nat.reduceSub, Nat.reduceMul, Nat.reducePow, Nat.reduceDiv, Nat.reduceMod, evIndexAddr, TD.agg, evFieldAddr, ty3, ty22, ty23, ty65, ty67, ty68, ty70, fn71, t1, t5, t8, t9, t10, hK, hKc, c1, hp, binA_islE ty23])
     | refine wp_condT rfl ?_ | refine wp_condF rfl ?_)
    refine ⟨_, ?_, i + 1, q.mul t.inv, _, rfl, rfl, by omega, by rw [hp]; rfl, t5, t8, t9, rfl, ?_⟩
    ·omega
    ·rw [← hq, hs]
  ·obtain rfl : i = m := by omega
   repeat (first
    | refine wp_seqQ ?_ | refine wp_blockQ ?_ | refine wp_scopeQ ?_
    | ((first | refine wp_skipQ ?_ | refine wp_labelQ ?_ | refine wp_exitQ ?_ | refine wp_retQ ?_); simp only [kQ, Nat.reduceEqDiff, reduceIte])
    | (refine wp_reg B ?_; simp (disch := omega) only [kW, Nat.reduceEqDiff, reduceIte, Nat.reduceLT, Nat.reduceLeDiff, Nat.reduceAdd, Nat.reduceSub, Nat.reduceMul, Nat.reducePow, Nat.reduceDiv, Nat.reduceMod, evIndexAddr, TD.agg, evFieldAddr, ty3, ty22, ty23, ty65, ty67, ty68, ty70, fn71, t1, t5, t8, t9, t10])
    | refine wp_condT rfl ?_ | refine wp_condF rfl ?_)
   rw [← hq, Nat.sub_self]
   simp (disch := omega) only [kS, Nat.reduceEqDiff, reduceIte, Nat.reduceLT, Nat.reduceLeDiff, Nat.reduceAdd, Nat.reduceSub, Nat.reduceMul, Nat.reducePow, Nat.reduceDiv, Nat.reduceMod, evIndexAddr, TD.agg, evFieldAddr, ty3, ty22, ty23, ty65, ty67, ty68, ty70, fn71, optV]
   rfl
end Go.Proofs.Ytkffcclalncgdaa.Iv
end
section
set_option maxHeartbeats 8000000
set_option linter.unusedVariables false
set_option linter.unusedSimpArgs false
set_option maxRecDepth 10000
namespace Go.Proofs.Ytkffcclalncgdaa.Iv
open Go Go.Iv Go.RowKit Pg Ch
structure Keep (y : Lay) (n : Nat) (gb : Nat → Option Nat) (h : Hp) (gb' : Nat → Option Nat) (h' : Hp) : Prop where
 m : ∀ i, i < h.next → (∀ j, j < n → i ≠ y.L j ∧ i ≠ y.M j ∧ gb j ≠ some i) → h'.m i = h.m i
 g : ∀ j b, j < n → gb' j = some b → gb j = some b ∨ h.next ≤ b
 next : h.next ≤ h'.next
theorem Keep.refl (y : Lay) (n : Nat) (gb : Nat → Option Nat) (h : Hp) : Keep y n gb h gb h := ⟨fun _ _ _ => rfl, fun _ _ _ k => .inl k, Nat.le_refl _⟩
theorem Keep.trans {y : Lay} {n : Nat} {g1 g2 g3 : Nat → Option Nat} {h1 h2 h3 : Hp} (a : Keep y n g1 h1 g2 h2) (b : Keep y n g2 h2 g3 h3) : Keep y n g1 h1 g3 h3 :=
 ⟨fun i hi hd => (b.m i (Nat.lt_of_lt_of_le hi a.next) fun j hj => ⟨(hd j hj).1, (hd j hj).2.1, fun c => by
     rcases a.g j i hj c with h | h
     ·exact (hd j hj).2.2 h
     ·omega⟩).trans (a.m i hi hd),
  fun j x hj k => by
   rcases b.g j x hj k with h | h
   ·exact a.g j x hj h
   ·exact .inr (Nat.le_trans a.next h), Nat.le_trans a.next b.next⟩
theorem Stands.ltC {n : Nat} {y : Lay} {β : Nat → Nat} {G : AV} {gb : Nat → Option Nat} {st : St n} {h : Hp} (s : Stands y β G gb st h) : y.C < h.next := lt_next s.born s.chain
theorem Stands.ltK {n : Nat} {y : Lay} {β : Nat → Nat} {G : AV} {gb : Nat → Option Nat} {st : St n} {h : Hp} (s : Stands y β G gb st h) (hn : 0 < n) : y.K < h.next := lt_next s.born (s.links hn)
theorem Stands.ltL {n : Nat} {y : Lay} {β : Nat → Nat} {G : AV} {gb : Nat → Option Nat} {st : St n} {h : Hp} (s : Stands y β G gb st h) {k : Nat} (hk : k < n) : y.L k < h.next := lt_next s.born (s.link k hk)
theorem Stands.ltM {n : Nat} {y : Lay} {β : Nat → Nat} {G : AV} {gb : Nat → Option Nat} {st : St n} {h : Hp} (s : Stands y β G gb st h) {k : Nat} (hk : k < n) : y.M k < h.next := lt_next s.born (s.map k hk)
theorem Stands.gen {n : Nat} {y : Lay} {β : Nat → Nat} {G : AV} {gb : Nat → Option Nat} {st : St n} {h : Hp} (s : Stands y β G gb st h) {k b : Nat} (hk : k < n) (hg : gb k = some b) : h.m b = some (.cells ((st.S k).map fun p => pl p.l) 23 true) := by
 have := s.gens k hk
 rw [hg] at this
 exact this
theorem Stands.gen0 {n : Nat} {y : Lay} {β : Nat → Nat} {G : AV} {gb : Nat → Option Nat} {st : St n} {h : Hp} (s : Stands y β G gb st h) {k : Nat} (hk : k < n) (hg : gb k = none) : st.S k = [] := by
 have := s.gens k hk
 rw [hg] at this
 exact this
theorem Stands.neM {n : Nat} {y : Lay} {β : Nat → Nat} {G : AV} {gb : Nat → Option Nat} {st : St n} {h : Hp} (s : Stands y β G gb st h) {k i : Nat} (hk : k < n) {l : List AV} {te : TypeId} {x : Bool} (hi : h.m i = some (.cells l te x)) : i ≠ y.M k := fun c => by
 have := s.map k hk
 rw [← c, hi] at this; cases this
theorem neT {h : Hp} {i j : Nat} {l l' : List AV} {te te' : TypeId} {x x' : Bool} (hi : h.m i = some (.cells l te x)) (hj : h.m j = some (.cells l' te' x')) (ht : te ≠ te') : i ≠ j := fun c => by
 subst c
 rw [hi] at hj
 simp only [Option.some.injEq, AO.cells.injEq] at hj
 exact ht hj.2.1
theorem setM_new {n : Nat} (x : Nat) (v : AV) : ∀ l : List (Nat × Pm n), Ch.get l x = none → setM (l.map ent) (x : Int) v = l.map ent ++ [((x : Int), v)]
 | [], _ => rfl
 | (y, t) :: l, h => by
  simp only [Ch.get] at h
  split at h
  ·cases h
  ·rename_i e
   have : ¬ (x : Int) = (y : Int) := by omega
   simp only [List.map_cons, ent, setM, ieq_dec, this, decide_false, cond_false, List.cons_append]
   rw [setM_new x v l h]
theorem Stands.put {n : Nat} {y : Lay} {β : Nat → Nat} {G : AV} {gb : Nat → Option Nat} {st : St n} {h : Hp} (s : Stands y β G gb st h) {k : Nat} (hk : k < n) {x : Nat} (hx : x < n) (hg : Ch.get (st.T k) x = none) (q : Pm n) (lo : Nat) :
    Stands y β G gb (st.putT k x q) ⟨h.next, lo, upd h.m (y.M k) (some (.map ((st.T k).map ent ++ [((x : Int), pl q.l)])))⟩ ∧ Keep y n gb h gb ⟨h.next, lo, upd h.m (y.M k) (some (.map ((st.T k).map ent ++ [((x : Int), pl q.l)])))⟩ := by
 refine ⟨⟨?_, ?_, fun j hj => ?_, fun j hj => ?_, fun j hj => ?_, fun j hj => ?_, s.mdis, s.ldis, s.gdis, fun i hi => ?_⟩, ⟨fun i hi hd => ?_, fun _ _ _ k => .inl k, Nat.le_refl _⟩⟩
 ·simp only [upd_ne _ _ (s.neM hk s.chain)]; exact s.chain
 ·intro hn; simp only [upd_ne _ _ (s.neM hk (s.links hn))]; exact s.links hn
 ·simp only [upd_ne _ _ (s.neM hk (s.link j hj))]; exact s.link j hj
 ·by_cases e : j = k
  ·subst e
   simp only [upd_eq, St.putT, if_true, List.map_append, List.map_cons, List.map_nil, ent]
  ·have : y.M j ≠ y.M k := fun c => e (s.mdis j k hj hk c)
   simp only [upd_ne _ _ this, St.putT, if_neg e]; exact s.map j hj
 ·have := s.gens j hj
  cases hb : gb j with
  | none => rw [hb] at this; exact this
  | some b =>
   rw [hb] at this
   simp only at this ⊢
   rw [upd_ne _ _ (s.neM hk this)]; exact this
 ·have := s.key j hj
  by_cases e : j = k
  ·subst e
   simp only [St.putT, if_true, List.map_append, List.map_cons, List.map_nil]
   refine ⟨?_, fun z hz => ?_⟩
   ·rw [List.nodup_append]
    refine ⟨this.1, by simp, fun a ha b hb => ?_⟩
    simp only [List.mem_singleton] at hb
    subst hb
    intro c; subst c
    have := get_mem.2 ha
    rw [hg] at this; cases this
   ·rcases List.mem_append.1 hz with hz | hz
    ·exact this.2 z hz
    ·simp only [List.mem_singleton] at hz; subst hz; exact hx
  ·simp only [St.putT, if_neg e]; exact this
 ·have := s.ltM hk
  simp only at hi ⊢
  rw [upd_ne _ _ (by omega)]; exact s.born i hi
 ·simp only
  rw [upd_ne _ _ (hd k hk).2.1]
def AddOk {n : Nat} (y : Lay) (β : Nat → Nat) (G : AV) (f : Nat) : Prop := ∀ (gb : Nat → Option Nat) (st : St n) (h : Hp), Stands y β G gb st h → ∀ (k : Nat) (p : Pm n) (st' : St n), k < n → run false β f true k p st = some st' → (∀ j, j < n → (st'.S j).length ≤ 1000) →
 ∃ e h', SemCall Try.prog 64 [.ptr y.C 0, pc k, pl p.l] h e h' ∧ Hp.Le h h' ∧ e = .ret (.tuple []) ∧ ∃ gb', Stands y β G gb' st' h' ∧ (∀ j, j < k → gb' j = gb j) ∧ Keep y n gb h gb' h'
def LookOk {n : Nat} (y : Lay) (β : Nat → Nat) (G : AV) (f : Nat) : Prop := ∀ (gb : Nat → Option Nat) (st : St n) (h : Hp), Stands y β G gb st h → ∀ (k : Nat) (p : Pm n) (st' : St n), k < n → run false β f false k p st = some st' → (∀ j, j < n → (st'.S j).length ≤ 1000) →
 ∃ e h', SemCall Try.prog 73 [.ptr y.C 0, pc k, pl p.l] h e h' ∧ Hp.Le h h' ∧ e = .ret (.tuple []) ∧ ∃ gb', Stands y β G gb' st' h' ∧ (∀ j, j ≤ k → gb' j = gb j) ∧ Keep y n gb h gb' h'
theorem look_ok {n : Nat} (hn : n ≤ 1000) {y : Lay} {β : Nat → Nat} {G : AV} (hβ : ∀ k, k < n → β k < n) (f : Nat) (ihA : AddOk (n := n) y β G f) (ihL : LookOk (n := n) y β G f) : LookOk (n := n) y β G (f + 1) := by
 intro gb st h s k q st' hk hr hlen
 refine sem_heap tables.ok Try.func73 rfl rfl rfl rfl ?_
 have hC := s.chain' (by omega)
 have hK := s.links (by omega)
 have hL := s.link k hk
 have hM := s.map k hk
 have lC := s.ltC
 have lK := s.ltK (by omega)
 have lL := s.ltL hk
 have lM := s.ltM hk
 have hKc : (List.map (fun k => AV.ptr (y.L k) 0) (List.range n))[k]? = some (.ptr (y.L k) 0) := by rw [List.getElem?_map, List.getElem?_range hk]; rfl
 have sm := sift_sem hn s hk (hβ k hk) q
 obtain ⟨call, B, c1, _⟩ := call_at tables.ok mixed [] sm (Hp.Le.refl h)
 rw [run] at hr
 cases hg : Ch.get (st.T k) (q.at (β k)) with
 | some t =>
  rw [hg] at c1 hr
  simp only [Option.map_some, optV] at c1 hr
  have hp := pl_cons (show 0 < n by omega) (q.mul t.inv)
  have hq := pl_cons (show 0 < n by omega) q
  unfold Try.f73 bodyOf entry; simp only [Option.getD_some, List.length_cons, List.length_nil, Nat.reduceAdd, Nat.reduceSub]
  repeat (first
   | refine wp_seqQ ?_ | refine wp_blockQ ?_ | refine wp_scopeQ ?_
   | ((first | refine wp_skipQ ?_ | refine wp_labelQ ?_ | refine wp_exitQ ?_ | refine wp_retQ ?_); simp only [kQ, Nat.reduceEqDiff, reduceIte])
   | ((fail_if_success refine wp_reg (id := 3) B ?_); (first | refine wp_dreg B (id := 5) [0, 1, 3, 7, 0, 0, 32, 96, 224, 496, 1008, 0, 4095] (by kernel_rfl) ?_ | refine wp_reg B ?_); simp (disch := omega) only [kW, kG, Nat.reduceEqDiff, reduceIte, Nat.reduceLT, Nat.reduceLeDiff, Nat.reduceAdd, Nat.reduceSub, Nat.reduceMul, Nat.reducePow, Nat.reduceDiv, Nat.reduceMod, evIndexAddr, TD.agg, evFieldAddr, ty3, ty22, ty23, ty27, ty65, ty67, ty68, ty70, ty73, fn71, fn64, fn54, fn73, hC, hK, hL, hKc, c1, pc, hp, binA_islN ty23])
   | refine wp_condT rfl ?_ | refine wp_condF rfl ?_)
  by_cases hk1 : k + 1 < n
  ·rw [if_pos hk1] at hr
   obtain ⟨e, h', sc, le, rfl, gb', s', hgb, kp⟩ := ihA gb st h s (k + 1) (q.mul t.inv) st' hk1 hr hlen
   obtain ⟨call, B, c1, _⟩ := call_at tables.ok mixed [] sc le
   have e1 : ((k + 1 : Nat) : Int) = (k : Int) + 1 := by omega
   simp only [pc, hp, e1] at c1
   repeat (first
    | refine wp_seqQ ?_ | refine wp_blockQ ?_ | refine wp_scopeQ ?_
    | ((first | refine wp_skipQ ?_ | refine wp_labelQ ?_ | refine wp_exitQ ?_ | refine wp_retQ ?_); simp only [kQ, Nat.reduceEqDiff, reduceIte])
    | ((first | refine wp_dreg B (id := 5) [0, 1, 3, 7, 0, 0, 32, 96, 224, 496, 1008, 0, 4095] (by kernel_rfl) ?_ | refine wp_reg B ?_); simp (disch := omega) only [kW, kG, Nat.reduceEqDiff, reduceIte, Nat.reduceLT, Nat.reduceLeDiff, Nat.reduceAdd, Nat.reduceSub, Nat.reduceMul, Nat.reducePow, Nat.reduceDiv, Nat.reduceMod, evIndexAddr, TD.agg, evFieldAddr, ty3, ty22, ty23, ty27, ty65, ty67, ty68, ty70, ty73, fn71, fn64, fn54, fn73, hC, hK, hL, hKc, c1, pc, hp])
    | refine wp_condT rfl ?_ | refine wp_condF rfl ?_)
   simp (disch := omega) only [kS, Nat.reduceEqDiff, reduceIte, Nat.reduceLT, Nat.reduceLeDiff, Nat.reduceAdd, Nat.reduceSub, Nat.reduceMul, Nat.reducePow, Nat.reduceDiv, Nat.reduceMod, evIndexAddr, TD.agg, evFieldAddr, ty3, ty22, ty23, ty27, ty65, ty67, ty68, ty70, ty73, fn71, fn64, fn54, fn73]
   exact ⟨gb', s', fun j hj => hgb j (by omega), kp⟩
  ·rw [if_neg hk1] at hr
   simp only [Option.some.injEq] at hr
   subst hr
   repeat (first
    | refine wp_seqQ ?_ | refine wp_blockQ ?_ | refine wp_scopeQ ?_
    | ((first | refine wp_skipQ ?_ | refine wp_labelQ ?_ | refine wp_exitQ ?_ | refine wp_retQ ?_); simp only [kQ, Nat.reduceEqDiff, reduceIte])
    | ((first | refine wp_dreg B (id := 5) [0, 1, 3, 7, 0, 0, 32, 96, 224, 496, 1008, 0, 4095] (by kernel_rfl) ?_ | refine wp_reg B ?_); simp (disch := omega) only [kW, kG, Nat.reduceEqDiff, reduceIte, Nat.reduceLT, Nat.reduceLeDiff, Nat.reduceAdd, Nat.reduceSub, Nat.reduceMul, Nat.reducePow, Nat.reduceDiv, Nat.reduceMod, evIndexAddr, TD.agg, evFieldAddr, ty3, ty22, ty23, ty27, ty65, ty67, ty68, ty70, ty73, fn71, fn64, fn54, fn73, hC, hK, hL, hKc, c1, pc, hp])
    | refine wp_condT rfl ?_ | refine wp_condF rfl ?_)
   simp (disch := omega) only [kS, Nat.reduceEqDiff, reduceIte, Nat.reduceLT, Nat.reduceLeDiff, Nat.reduceAdd, Nat.reduceSub, Nat.reduceMul, Nat.reducePow, Nat.reduceDiv, Nat.reduceMod, evIndexAddr, TD.agg, evFieldAddr, ty3, ty22, ty23, ty27, ty65, ty67, ty68, ty70, ty73, fn71, fn64, fn54, fn73]
   exact ⟨gb, s, fun _ _ => rfl, Keep.refl _ _ _ _⟩
 | none =>
  rw [hg] at c1 hr
  simp only [Option.map_none, optV, nilS] at c1 hr
  have hx : q.l[β k]? = some (q.at (β k)) := by
   have := q.ok.len
   have := hβ k hk
   unfold Pm.at
   rw [ap_get (by omega)]; exact List.getElem?_eq_getElem (by omega)
  have hbn := hβ k hk
  have hxn : q.at (β k) < n := q.lt hbn
  have g1 := pl_get hx
  have g2 := setM_new (q.at (β k)) (pl q.l) (st.T k) hg
  have hp := pl_cons (show 0 < n by omega) q
  obtain ⟨lo, hlo⟩ : ∃ lo, lo = lowP (y.M k) h.low := ⟨_, rfl⟩
  obtain ⟨s1, kp1⟩ := s.put hk hxn hg q lo
  generalize q.at (β k) = x at *
  obtain ⟨h1, hh1⟩ : ∃ h1 : Hp, h1 = ⟨h.next, lo, upd h.m (y.M k) (some (.map ((st.T k).map ent ++ [((x : Int), pl q.l)])))⟩ := ⟨_, rfl⟩
  have hh2 : (⟨h.next, lowP (y.M k) h.low, upd h.m (y.M k) (some (.map ((st.T k).map ent ++ [((x : Int), .isl (q.l.map pc) 1 0 n)])))⟩ : Hp) = h1 := by rw [hh1, hlo, hp]
  have hn1 : h1.next = h.next := by rw [hh1]
  rw [← hh1] at s1 kp1
  have hL1 := s1.link k hk
  obtain ⟨m, hm⟩ : ∃ m, m = (st.S k).length := ⟨_, rfl⟩
  have hm1 : ((st.putT k x q).S k).length = m := hm.symm
  rw [hm1] at hL1
  unfold Try.f73 bodyOf entry; simp only [Option.getD_some, List.length_cons, List.length_nil, Nat.reduceAdd, Nat.reduceSub]
  rw [hp] at c1 g2 ⊢
  repeat (first
   | refine wp_seqQ ?_ | refine wp_blockQ ?_ | refine wp_scopeQ ?_
   | ((first | refine wp_skipQ ?_ | refine wp_labelQ ?_ | refine wp_exitQ ?_ | refine wp_retQ ?_); simp only [kQ, Nat.reduceEqDiff, reduceIte])
   | ((fail_if_success refine wp_reg (id := 6) B ?_); (first | refine wp_dreg B (id := 5) [0, 1, 3, 7, 0, 0, 32, 96, 224, 496, 1008, 0, 4095] (by kernel_rfl) ?_ | refine wp_reg B ?_); simp (disch := omega) only [kW, kG, Nat.reduceEqDiff, reduceIte, Nat.reduceLT, Nat.reduceLeDiff, Nat.reduceAdd, Nat.reduceSub, Nat.reduceMul, Nat.reducePow, Nat.reduceDiv, Nat.reduceMod, evIndexAddr, TD.agg, evFieldAddr, ty3, ty22, ty23, ty27, ty65, ty67, ty68, ty70, ty73, fn71, fn64, fn54, fn73, hC, hK, hL, hKc, c1, pc, hM, g1, g2])
   | refine wp_condT rfl ?_ | refine wp_condF rfl ?_)
  rw [hh2]
  have hlenv : evLen tab 22 (gv (gb k) m) = some (.flat (.int .i64 (m : Int))) := by
   cases hb : gb k with
   | none =>
    have := s.gen0 hk hb
    rw [this] at hm
    simp only [List.length_nil] at hm
    subst hm
    simp only [gv, nilS, len_nil, ty22]
   | some b => simp only [gv, len_slice, ty22]
  have hm9 : m ≤ 1000 := by
   have h1 := (lookAll_grow (fun q st r e => run_grow false β f false k q st r e) q _ _ _ hr).S k
   have h2 := hlen k hk
   rw [hm1] at h1
   omega
  have ld := hL1
  clear hK hC hL hM c1 g1 g2 sm
  have hgk : ∀ j, j < m → ∃ b g, gb k = some b ∧ (st.S k)[j]? = some g := fun j hj => by
   cases hb : gb k with
   | none => rw [s.gen0 hk hb] at hm; simp at hm; omega
   | some b => exact ⟨b, (st.S k)[j], rfl, List.getElem?_eq_getElem (by omega)⟩
  repeat (first
   | refine wp_seqQ ?_ | refine wp_blockQ ?_ | refine wp_scopeQ ?_
   | ((first | refine wp_skipQ ?_ | refine wp_labelQ ?_ | refine wp_exitQ ?_ | refine wp_retQ ?_); simp only [kQ, Nat.reduceEqDiff, reduceIte])
   | ((first | refine wp_dreg B (id := 5) [0, 1, 3, 7, 0, 0, 32, 96, 224, 496, 1008, 0, 4095] (by kernel_rfl) ?_ | refine wp_reg B ?_); simp (disch := omega) only [kW, kG, Nat.reduceEqDiff, reduceIte, Nat.reduceLT, Nat.reduceLeDiff, Nat.reduceAdd, Nat.reduceSub, Nat.reduceMul, Nat.reducePow, Nat.reduceDiv, Nat.reduceMod, evIndexAddr, TD.agg, evFieldAddr, ty3, ty22, ty23, ty27, ty65, ty67, ty68, ty70, ty73, fn71, fn64, fn54, fn73, hL1, hlenv])
   | refine wp_condT rfl ?_ | refine wp_condF rfl ?_)
  refine wp_loopQ (fun f' z => ∃ (i : Nat) (tm : Nat → Option AV) (h2 : Hp) (gb2 : Nat → Option Nat) (st2 : St n), z = ⟨tm, 63, h2, []⟩ ∧ f' = m - i ∧ i ≤ m ∧ tm 0 = some (.ptr y.C 0) ∧ tm 1 = some (pc k) ∧ tm 2 = some (pl q.l) ∧ tm 50 = some (gv (gb k) m) ∧ tm 51 = some (.flat (.int .i64 (m : Int))) ∧ tm 52 = some (.flat (.int .i64 (i : Int))) ∧ Stands y β G gb2 st2 h2 ∧ (∀ j, j ≤ k → gb2 j = gb j) ∧ Keep y n gb h gb2 h2 ∧ st2.S k = st.S k ∧ lookAll (run false β f false k) q ((st.S k).drop i) st2 = some st') m ?_ ?_
  ·exact ⟨0, _, _, gb, st.putT k x q, rfl, rfl, Nat.zero_le _, rfl, rfl, by rw [hp]; rfl, rfl, rfl, rfl, s1, fun _ _ => rfl, kp1, rfl, hr⟩
  ·rintro f' z ⟨i, tm, h2, gb2, st2, rfl, rfl, hi, t0, t1, t2, t50, t51, t52, s2, hgb2, kp2, hS2, hl2⟩
   repeat (first
    | refine wp_seqQ ?_ | refine wp_blockQ ?_ | refine wp_scopeQ ?_
    | ((first | refine wp_skipQ ?_ | refine wp_labelQ ?_ | refine wp_exitQ ?_ | refine wp_retQ ?_); simp only [kQ, Nat.reduceEqDiff, reduceIte])
    | ((first | refine wp_dreg B (id := 5) [0, 1, 3, 7, 0, 0, 32, 96, 224, 496, 1008, 0, 4095] (by kernel_rfl) ?_ | refine wp_reg B ?_); simp (disch := omega) only [kW, kG, Nat.reduceEqDiff, reduceIte, Nat.reduceLT, Nat.reduceLeDiff, Nat.reduceAdd, Nat.reduceSub, Nat.reduceMul, Nat.reducePow, Nat.reduceDiv, Nat.reduceMod, evIndexAddr, TD.agg, evFieldAddr, ty3, ty22, ty23, ty27, ty65, ty67, ty68, ty70, ty73, fn71, fn64, fn54, fn73, t0, t1, t2, t50, t51, t52])
    | refine wp_condT rfl ?_ | refine wp_condF rfl ?_)
   refine wp_if rfl (fun ilt => ?_) (fun ige => ?_)
   ·obtain ⟨b, g, hb, hgi⟩ := hgk i (by omega)
    have hd : (st.S k).drop i = g :: (st.S k).drop (i + 1) := by
     rw [List.drop_eq_getElem_cons (by omega)]
     congr 1
     exact (List.getElem?_eq_some_iff.1 hgi).2
    rw [hd, lookAll] at hl2
    cases hrun : run false β f false k (q.mul g) st2 with
    | none => rw [hrun] at hl2; cases hl2
    | some st3 =>
     rw [hrun] at hl2
     simp only at hl2
     have hgr := lookAll_grow (fun q st r e => run_grow false β f false k q st r e) q _ _ _ hl2
     obtain ⟨e, h3, sc, le, rfl, gb3, s3, hgb3, kp3⟩ := ihL gb2 st2 h2 s2 k (q.mul g) st3 hk hrun fun j hj => Nat.le_trans (hgr.S j) (hlen j hj)
     obtain ⟨call, B, c1, c2⟩ := call_at tables.ok mixed [EcMul] sc le
     have c3 : ∀ a h, call 54 a h = EcMul.ans a h := fun a h => (c2 _ a h (by decide)).trans (tabL_hit EcMul [] _ a h rfl)
     have k2 : ∀ h, EcMul.ans [pl q.l, pl g.l] h = some (.ret (pl (q.mul g).l), h) := fun h => EcMul_ans q.l g.l h (by rw [q.ok.len]; omega) (fun x hx => by rw [g.ok.len]; exact Pm.small q x hx) (by rw [g.ok.len]; omega)
     have hbm := s2.gen hk ((hgb2 k (Nat.le_refl _)).trans hb)
     rw [hS2] at hbm
     have hbc : (List.map (fun p : Pm n => pl p.l) (st.S k))[i]? = some (pl g.l) := by rw [List.getElem?_map, hgi]; rfl
     rw [hb] at t50
     simp only [gv] at t50
     simp only [pc] at t1 c1
     have hlm : (st.S k).length = m := hm.symm
     repeat (first
      | refine wp_seqQ ?_ | refine wp_blockQ ?_ | refine wp_scopeQ ?_
      | ((first | refine wp_skipQ ?_ | refine wp_labelQ ?_ | refine wp_exitQ ?_ | refine wp_retQ ?_); simp only [kQ, Nat.reduceEqDiff, reduceIte])
      | ((first | refine wp_dreg B (id := 5) [0, 1, 3, 7, 0, 0, 32, 96, 224, 496, 1008, 0, 4095] (by kernel_rfl) ?_ | refine wp_reg B ?_); simp (disch := omega) only [kW, kG, Nat.reduceEqDiff, reduceIte, Nat.reduceLT, Nat.reduceLeDiff, Nat.reduceAdd, Nat.reduceSub, Nat.reduceMul, Nat.reducePow, Nat.reduceDiv, Nat.reduceMod, evIndexAddr, TD.agg, evFieldAddr, ty3, ty22, ty23, ty27, ty65, ty67, ty68, ty70, ty73, fn71, fn64, fn54, fn73, t0, t1, t2, t50, t51, t52, hbm, hbc, c3, k2, c1])
      | refine wp_condT rfl ?_ | refine wp_condF rfl ?_)
     have ho := run_old false β f false k _ _ _ hrun k (fun c => by cases c) (Nat.le_refl _)
     refine ⟨_, ?_, i + 1, _, _, gb3, st3, rfl, rfl, by omega, t0, t1, t2, by rw [hb]; exact t50, t51, rfl, s3, fun j hj => (hgb3 j hj).trans (hgb2 j hj), kp2.trans kp3, ho.trans hS2, hl2⟩
     omega
   ·obtain rfl : i = m := by omega
    rw [List.drop_eq_nil_of_le (by omega)] at hl2
    simp only [lookAll, Option.some.injEq] at hl2
    subst hl2
    repeat (first
     | refine wp_seqQ ?_ | refine wp_blockQ ?_ | refine wp_scopeQ ?_
     | ((first | refine wp_skipQ ?_ | refine wp_labelQ ?_ | refine wp_exitQ ?_ | refine wp_retQ ?_); simp only [kQ, Nat.reduceEqDiff, reduceIte])
     | ((first | refine wp_dreg B (id := 5) [0, 1, 3, 7, 0, 0, 32, 96, 224, 496, 1008, 0, 4095] (by kernel_rfl) ?_ | refine wp_reg B ?_); simp (disch := omega) only [kW, kG, Nat.reduceEqDiff, reduceIte, Nat.reduceLT, Nat.reduceLeDiff, Nat.reduceAdd, Nat.reduceSub, Nat.reduceMul, Nat.reducePow, Nat.reduceDiv, Nat.reduceMod, evIndexAddr, TD.agg, evFieldAddr, ty3, ty22, ty23, ty27, ty65, ty67, ty68, ty70, ty73, fn71, fn64, fn54, fn73, t0, t1])
     | refine wp_condT rfl ?_ | refine wp_condF rfl ?_)
    simp (disch := omega) only [kS, Nat.reduceEqDiff, reduceIte, Nat.reduceLT, Nat.reduceLeDiff, Nat.reduceAdd, Nat.reduceSub, Nat.reduceMul, Nat.reducePow, Nat.reduceDiv, Nat.reduceMod, evIndexAddr, TD.agg, evFieldAddr, ty3, ty22, ty23, ty27, ty65, ty67, ty68, ty70, ty73, fn71, fn64, fn54, fn73]
    exact ⟨gb2, s2, hgb2, kp2⟩
end Go.Proofs.Ytkffcclalncgdaa.Iv
end
section
namespace Go.Proofs
open Go.Shelf
def Try.lays189_ren : Go.Shelf.Ren := ⟨fun | 189 => 41 | 125 => 67 | 257 => 66 | 128 => 72 | 129 => 84 | 294 => 75 | 295 => 76 | 296 => 77 | 297 => 78 | 298 => 79 | 299 => 80 | 216 => 81 | 300 => 82 | 301 => 83 | 328 => 88 | 329 => 89 | 330 => 90 | 331 => 91 | 332 => 92 | 215 => 93 | 343 => 94 | n => n, fun | 28 => 23 | 3 => 3 | 46 => 87 | 0 => 0 | 51 => 86 | 53 => 54 | 4 => 4 | 183 => 113 | 182 => 112 | 131 => 118 | 5 => 5 | 9 => 9 | 218 => 122 | 222 => 126 | 228 => 129 | 229 => 130 | n => n, fun | n => n⟩
theorem Try.lays189 : Go.Proofs.Lays.n189 Try.prog Try.lays189_ren := {
 mixed := by kernel_rfl
 f125 := Try.func67.trans (congrArg some (by kernel_rfl))
 f128 := Try.func72.trans (congrArg some (by kernel_rfl))
 f129 := Try.func84.trans (congrArg some (by kernel_rfl))
 f189 := Try.func41.trans (congrArg some (by kernel_rfl))
 f215 := Try.func93.trans (congrArg some (by kernel_rfl))
 f216 := Try.func81.trans (congrArg some (by kernel_rfl))
 f257 := Try.func66.trans (congrArg some (by kernel_rfl))
 f294 := Try.func75.trans (congrArg some (by kernel_rfl))
 f295 := Try.func76.trans (congrArg some (by kernel_rfl))
 f296 := Try.func77.trans (congrArg some (by kernel_rfl))
 f297 := Try.func78.trans (congrArg some (by kernel_rfl))
 f298 := Try.func79.trans (congrArg some (by kernel_rfl))
 f299 := Try.func80.trans (congrArg some (by kernel_rfl))
 f300 := Try.func82.trans (congrArg some (by kernel_rfl))
 f301 := Try.func83.trans (congrArg some (by kernel_rfl))
 f328 := Try.func88.trans (congrArg some (by kernel_rfl))
 f329 := Try.func89.trans (congrArg some (by kernel_rfl))
 f330 := Try.func90.trans (congrArg some (by kernel_rfl))
 f331 := Try.func91.trans (congrArg some (by kernel_rfl))
 f332 := Try.func92.trans (congrArg some (by kernel_rfl))
 f343 := Try.func94.trans (congrArg some (by kernel_rfl))
 t0 := Try.underlying0
 a0 := Try.isAgg0
 z0 := Try.sizeOf0
 v0 := Try.zeroValue0
 t3 := Try.underlying3
 a3 := Try.isAgg3
 z3 := Try.sizeOf3
 v3 := Try.zeroValue3
 t4 := Try.underlying4
 a4 := Try.isAgg4
 z4 := Try.sizeOf4
 v4 := Try.zeroValue4
 t5 := Try.underlying5
 a5 := Try.isAgg5
 z5 := Try.sizeOf5
 v5 := Try.zeroValue5
 t9 := Try.underlying9
 a9 := Try.isAgg9
 z9 := Try.sizeOf9
 v9 := Try.zeroValue9
 t28 := Try.underlying23
 a28 := Try.isAgg23
 z28 := Try.sizeOf23
 v28 := Try.zeroValue23
 t46 := Try.underlying87
 a46 := Try.isAgg87
 z46 := Try.sizeOf87
 v46 := Try.zeroValue87
 t51 := Try.underlying86
 a51 := Try.isAgg86
 z51 := Try.sizeOf86
 v51 := Try.zeroValue86
 t53 := Try.underlying54
 a53 := Try.isAgg54
 z53 := Try.sizeOf54
 v53 := Try.zeroValue54
 t131 := Try.underlying118
 a131 := Try.isAgg118
 z131 := Try.sizeOf118
 v131 := Try.zeroValue118
 t182 := Try.underlying112
 a182 := Try.isAgg112
 z182 := Try.sizeOf112
 v182 := Try.zeroValue112
 t183 := Try.underlying113
 a183 := Try.isAgg113
 z183 := Try.sizeOf113
 v183 := Try.zeroValue113
 t218 := Try.underlying122
 a218 := Try.isAgg122
 z218 := Try.sizeOf122
 v218 := Try.zeroValue122
 t222 := Try.underlying126
 a222 := Try.isAgg126
 z222 := Try.sizeOf126
 v222 := Try.zeroValue126
 t228 := Try.underlying129
 a228 := Try.isAgg129
 z228 := Try.sizeOf129
 v228 := Try.zeroValue129
 t229 := Try.underlying130
 a229 := Try.isAgg130
 z229 := Try.sizeOf130
 v229 := Try.zeroValue130 }
open Go.Sort Go.RowKit in
theorem Try.slices_Sort_int (blk off cap : Nat) (zs : List Int) (w : World) (hH : Holds (Value.int .i64) w blk off zs.toArray) (hblk : blk < w.heap.size) (hsz : zs.length < 4611686018427387904) :
    Calls Try.prog 41 #[.slice (some ⟨blk, off, none⟩) zs.length cap] w fun e w' =>
     e = .returned (.tuple #[]) ∧ ∃ n os, w' = grow (putRow (Value.int .i64) (Sort.ahead w n) blk off (zs.mergeSort fun x y => decide (x ≤ y)).toArray) os := Any.slices_Sort_int Try.lays189 blk off cap zs w hH hblk hsz
def Try.laysNm215_ren : Go.Shelf.Ren := ⟨fun | 15 => 51 | n => n, fun | 22 => 23 | 3 => 3 | 4 => 4 | n => n, fun | n => n⟩
theorem Try.laysNm215 : Go.Proofs.Lays2.n15 Try.prog Try.laysNm215_ren := {
 mixed := by kernel_rfl
 f15 := Try.func51.trans (congrArg some (by kernel_rfl))
 t3 := Try.underlying3
 a3 := Try.isAgg3
 z3 := Try.sizeOf3
 v3 := Try.zeroValue3
 t4 := Try.underlying4
 a4 := Try.isAgg4
 z4 := Try.sizeOf4
 v4 := Try.zeroValue4
 t22 := Try.underlying23
 a22 := Try.isAgg23
 z22 := Try.sizeOf23
 v22 := Try.zeroValue23
 i3 := by kernel_rfl }
open Go.RowKit Go.Lib in
theorem Try.slices_Clone_int (b off n c : Nat) (zs : List Int) (w : World) (hz : n ≤ zs.length) (hbig : n * 8 ≤ 140737488355328) (hc : ∀ j, j < zs.length → w.cell? ⟨b, off + j, none⟩ = some (.int .i64 (zs.getD j 0))) :
    Calls Try.prog 51 #[.slice (some ⟨b, off, none⟩) n c] w fun e w' => ∃ v', e = .returned v' ∧ w'.ownsRow w.heap.size 3 1 v' n ((zs.take n).map (Value.int .i64)) ∧ v' ≠ .slice none 0 0 ∧ Below w.heap.size w w' := Any.slices_Clone_int Try.laysNm215 b off n c zs w hz hbig hc
open Go.RowKit Go.Lib in
theorem Try.slices_Clone_int_nil (n c : Nat) (w : World) :
    Calls Try.prog 51 #[.slice none n c] w fun e w' => e = .returned (.slice none 0 0) ∧ w' = w := Any.slices_Clone_int_nil Try.laysNm215 n c w
open Go.RowKit Go.Lib in
theorem Try.slices_Clone_int_zero (a : Addr) (c : Nat) (w : World) :
    Calls Try.prog 51 #[.slice (some a) 0 c] w fun e w' => ∃ v', e = .returned v' ∧ w'.ownsRow w.heap.size 3 1 v' 0 [] ∧ v' ≠ .slice none 0 0 ∧ Below w.heap.size w w' := Any.slices_Clone_int_zero Try.laysNm215 a c w
end Go.Proofs
end
section
set_option maxHeartbeats 4000000
set_option linter.unusedVariables false
set_option linter.unusedSimpArgs false
namespace Go.Proofs.Ytkffcclalncgdaa.Iv
open Go Go.Iv Go.RowKit Go.Sort
def jc (x : Int) : AV := .flat (.int .i64 x)
def unj : AV → Int
 | .flat (.int .i64 x) => x
 | _ => 0
theorem perm_ints {l' : List AV} {l : List Int} (h : l'.Perm (l.map jc)) : ∃ zs : List Int, l' = zs.map jc ∧ zs.Perm l := by
 refine ⟨l'.map unj, ?_, ?_⟩
 ·rw [List.map_map]
  conv => lhs; rw [← List.map_id l']
  refine List.map_congr_left fun a ha => ?_
  obtain ⟨x, _, rfl⟩ := List.mem_map.1 (h.mem_iff.1 ha)
  rfl
 ·have := h.map unj
  rw [List.map_map] at this
  have e : l.map (unj ∘ jc) = l := by
   conv => rhs; rw [← List.map_id l]
   exact List.map_congr_left fun _ _ => rfl
  rwa [e] at this
theorem rel_ints {ρ : Ren} : ∀ {zs : List Int} {p : List Value}, AV.relL ρ (zs.map jc) p → p = zs.map (Value.int .i64)
 | [], p, h => relL_nil.1 h
 | z :: zs, p, h => by
  obtain ⟨y, ys, rfl, h1, h2⟩ := relL_cons.1 h
  simp only [jc, AV.rel] at h1
  rw [h1, rel_ints h2]; rfl
theorem ints_rel (ρ : Ren) : ∀ (zs : List Int), AV.relL ρ (zs.map jc) (zs.map (Value.int .i64))
 | [] => by simp [AV.relL]
 | z :: zs => relL_cons.2 ⟨_, _, rfl, by simp [jc, AV.rel], ints_rel ρ zs⟩
def srtI (l : List Int) : List Int := l.mergeSort fun x y => decide (x ≤ y)
theorem srt_perm {a b : List Int} (h : a.Perm b) : srtI a = srtI b :=
 List.Perm.eq_of_pairwise (le := fun x y => decide (x ≤ y) = true) (fun x y _ _ h1 h2 => by simp at h1 h2; omega)
  (List.pairwise_mergeSort (fun x y z h1 h2 => by simp at *; omega) (fun x y => by simp; omega) a) (List.pairwise_mergeSort (fun x y z h1 h2 => by simp at *; omega) (fun x y => by simp; omega) b)
  ((List.mergeSort_perm a _).trans (h.trans (List.mergeSort_perm b _).symm))
theorem srt_len (a : List Int) : (srtI a).length = a.length := (List.mergeSort_perm a _).length_eq
theorem putCells_app (ts : List Int) (p r : List Value) (hl : p.length = ts.length) : putCells (Value.int .i64) 0 ts.toArray ⟨p ++ r⟩ = ⟨ts.map (Value.int .i64) ++ r⟩ := by
 apply Array.ext'
 apply List.ext_getElem?
 intro k
 simp only [putCells, Array.toList_mapIdx, List.getElem?_mapIdx, Nat.zero_le, true_and, Nat.zero_add, List.size_toArray, Nat.sub_zero]
 by_cases h : k < ts.length
 ·rw [List.getElem?_append_left (by omega), List.getElem?_append_left (by simpa using h), List.getElem?_eq_getElem (by omega : k < p.length), List.getElem?_map, List.getElem?_eq_getElem h]
  simp [h]
 ·rw [List.getElem?_append_right (by omega), List.getElem?_append_right (by simp; omega), List.length_map, hl]
  cases r[k - ts.length]? with
  | none => rfl
  | some v => simp [h]
theorem sort_sem {h h' : Hp} {b n : Nat} {c : Cap} {l : List Int} {te : TypeId} {ext : Bool} (hg : h.m b = some (.perm (l.map jc) te ext)) (hn : n = l.length) (hl : l.length < 4611686018427387904) (hp : h.put b (some (.cells ((srtI l).map jc) te ext)) = some h') :
    SemCall Try.prog 41 [.slice b 0 n c] h (.ret (.tuple [])) h' := by
 intro D ρ w args' hr fr ha
 obtain ⟨v, vs, rfl, hv, hvs⟩ := relL_cons.1 ha
 rw [relL_nil.1 hvs]
 obtain ⟨b', n', c', hρ, rfl⟩ : ∃ b' n' c', ρ b = some (b', n') ∧ v = .slice (some ⟨b', 0, none⟩) n c' := by
  cases c with
  | exact c =>
   simp only [AV.rel] at hv
   obtain ⟨b', n', h1, h2⟩ := hv
   exact ⟨b', n', c, h1, h2⟩
  | toEnd e =>
   simp only [AV.rel] at hv
   obtain ⟨b', n', c', h1, h2, _⟩ := hv
   exact ⟨b', n', c', h1, h2⟩
 obtain ⟨hD, o', hb, l', hl', p, r, rfl, h1, h2, h3, h4⟩ := hr.obj b b' n' _ hρ hg
 obtain ⟨zs, rfl, hz⟩ := perm_ints hl'
 obtain rfl := rel_ints h2
 have hzl := hz.length_eq
 have hlt : b' < w.heap.size := (Array.getElem?_eq_some_iff.1 hb).1
 subst hn
 rw [← hzl]
 refine (Try.slices_Sort_int b' 0 c' zs w (holds_of_blockI hb (by simp)) hlt (by omega)).mono ?_
 rintro e w' ⟨rfl, m, os, hw'⟩
 have hb2 := heap_sortedI (n := m) (os := os) (zs.mergeSort fun x y => decide (x ≤ y)).toArray hb
 rw [← hw', putCells_app _ _ _ (by simp)] at hb2
 have gb := grownBy_sortedI (w := w) (g := b') (n := m) (os := os) (zs.mergeSort fun x y => decide (x ≤ y)).toArray
 rw [← hw'] at gb
 obtain ⟨w1, hw1⟩ : ∃ w1 : World, w1 = { w' with heap := w'.heap.extract 0 w.heap.size } := ⟨_, rfl⟩
 have hs1 : w1.heap.size = w.heap.size := by rw [hw1]; have := gb.size; simp; omega
 have he1 : ∀ k, k < w.heap.size → w1.heap[k]? = w'.heap[k]? := fun k hk => by rw [hw1]; have := gb.size; simp [Array.getElem?_extract]; omega
 have st := hr.write (w' := w1) hp hρ (by show h.m b ≠ none; rw [hg]; simp) ⟨_, (he1 b' hlt).trans hb2, (srtI zs).map (Value.int .i64), r, rfl, by simpa [srt_len, srtI] using h1, by rw [srt_perm hz.symm]; exact ints_rel ρ _, h3, fun v hv => by
  rcases List.mem_append.1 hv with hv | hv
  ·obtain ⟨x, _, rfl⟩ := List.mem_map.1 hv
   intro q hq; cases hq
  ·exact h4 v (List.mem_append.2 (.inr hv))⟩ (by rw [hw1]; exact gb.os) (by rw [hw1]; exact gb.tape) (by rw [hw1]; exact gb.output) hs1 (fun j hj => by
   by_cases c : j < w.heap.size
   ·rw [he1 j c]; exact gb.block j c (by simp; exact hj)
   ·rw [Array.getElem?_eq_none (by omega), Array.getElem?_eq_none (by omega)])
 have bl : RowKit.Below w1.heap.size w1 w' := ⟨by rw [hw1], by rw [hw1], by rw [hw1], by rw [hs1]; exact gb.size, fun k hk => (he1 k (by omega)).symm⟩
 exact ⟨ρ, st.trans (Step.below st.hr bl), _, rfl, by simp [AV.rel, AV.relL]⟩
end Go.Proofs.Ytkffcclalncgdaa.Iv
end
section
set_option maxHeartbeats 8000000
set_option linter.unusedVariables false
set_option linter.unusedSimpArgs false
set_option maxRecDepth 10000
namespace Go.Proofs.Ytkffcclalncgdaa.Iv
open Go Go.Iv Go.RowKit Pg Ch
def slo (tm : Nat → Option AV) (t : Nat) : AV := match tm t with
 | some v => v
 | none => .tuple []
def SlotLe (tm tm' : Nat → Option AV) (u : Nat) : Prop := ∀ (ρ : Ren) (v : Value), (slo tm u).rel ρ v → (slo tm' u).rel ρ v
theorem SlotLe.refl (tm : Nat → Option AV) (u : Nat) : SlotLe tm tm u := fun _ _ h => h
theorem le_upd {tm tm' : Nat → Option AV} {t : Nat} {a b : AV} (P : Nat → Prop) (hab : ∀ (ρ : Ren) (v : Value), a.rel ρ v → b.rel ρ v) (h : ∀ u, (P u ∧ u ≠ t) → SlotLe tm tm' u) : ∀ u, P u → SlotLe (upd tm t (some a)) (upd tm' t (some b)) u := fun u hu ρ v k => by
 by_cases e : u = t
 ·subst e
  simp only [slo, upd_eq] at k ⊢
  exact hab ρ v k
 ·simp only [slo, upd_ne _ _ e] at k ⊢
  exact h u ⟨hu, e⟩ ρ v k
theorem nodup_le {α : Type} [DecidableEq α] : ∀ (l m : List α), l.Nodup → (∀ x ∈ l, x ∈ m) → l.length ≤ m.length
 | [], _, _, _ => Nat.zero_le _
 | a :: l, m, h, k => by
  rw [List.nodup_cons] at h
  have ha := k a (by simp)
  have := nodup_le l (m.erase a) h.2 fun x hx => by
   have : x ≠ a := fun e => h.1 (e ▸ hx)
   exact (List.mem_erase_of_ne this).2 (k x (List.mem_cons_of_mem _ hx))
  rw [List.length_erase_of_mem ha] at this
  have hpos := List.length_pos_of_mem ha
  simp only [List.length_cons]
  omega
theorem top_int (ρ : Ren) (k : IntKind) (z : Int) (v : Value) (h : (AV.flat (.int k z)).rel ρ v) : AV.top.rel ρ v := by
 simp only [AV.rel] at h ⊢
 subst h; rfl
theorem top_sl (ρ : Ren) (b o n : Nat) (c : Cap) (v : Value) (h : (AV.slice b o n c).rel ρ v) : AV.top.rel ρ v := by
 cases c with
 | exact c =>
  simp only [AV.rel] at h ⊢
  obtain ⟨_, _, _, rfl⟩ := h; rfl
 | toEnd e =>
  simp only [AV.rel] at h ⊢
  obtain ⟨_, _, _, _, rfl, _⟩ := h; rfl
theorem top_ptr (ρ : Ren) (a : Option Addr) (v : Value) (h : (AV.flat (.pointer a)).rel ρ v) : AV.top.rel ρ v := by
 simp only [AV.rel] at h ⊢
 subst h; rfl
theorem top_isl (ρ : Ren) (l : List AV) (z o n : Nat) (v : Value) (h : (AV.isl l z o n).rel ρ v) : AV.top.rel ρ v := by
 simp only [AV.rel] at h ⊢
 obtain ⟨_, _, rfl, _⟩ := h; rfl
theorem tup_nx (ρ : Ren) (z : Int) (u : AV) (hu : ∀ v, u.rel ρ v → topV v = true) (v : Value) (h : (AV.tuple [.flat (.bool true), .flat (.int .i64 z), u]).rel ρ v) : (AV.tuple [.flat (.bool true), .top, .top]).rel ρ v := by
 simp only [AV.rel] at h ⊢
 obtain ⟨l', rfl, h⟩ := h
 obtain ⟨a, a2, rfl, h1, h⟩ := relL_cons.1 h
 obtain ⟨b, bs, rfl, h2, h⟩ := relL_cons.1 h
 obtain ⟨c, cs, rfl, h3, h⟩ := relL_cons.1 h
 rw [relL_nil.1 h]
 exact ⟨_, rfl, relL_cons.2 ⟨_, _, rfl, h1, relL_cons.2 ⟨_, _, rfl, top_int ρ _ _ _ h2, relL_cons.2 ⟨_, _, rfl, by simp only [AV.rel]; exact hu _ h3, relL_nil.2 rfl⟩⟩⟩⟩
theorem tup_en (ρ : Ren) (z : Int) (u : AV) (hu : ∀ v, u.rel ρ v → topV v = true) (v : Value) (h : (AV.tuple [.flat (.int .i64 z), u]).rel ρ v) : (AV.tuple [.top, .top]).rel ρ v := by
 simp only [AV.rel] at h ⊢
 obtain ⟨l', rfl, h⟩ := h
 obtain ⟨b, bs, rfl, h2, h⟩ := relL_cons.1 h
 obtain ⟨c, cs, rfl, h3, h⟩ := relL_cons.1 h
 rw [relL_nil.1 h]
 exact ⟨_, rfl, relL_cons.2 ⟨_, _, rfl, top_int ρ _ _ _ h2, relL_cons.2 ⟨_, _, rfl, by simp only [AV.rel]; exact hu _ h3, relL_nil.2 rfl⟩⟩⟩
theorem ent_top {n : Nat} {l : List (Nat × Pm n)} {z : Int} {u : AV} (h : (z, u) ∈ l.map ent) (ρ : Ren) (v : Value) (k : u.rel ρ v) : topV v = true := by
 obtain ⟨e, _, he⟩ := List.mem_map.1 h
 simp only [ent, Prod.mk.injEq] at he
 rw [← he.2] at k
 have := top_isl ρ _ _ _ _ v k
 simpa only [AV.rel] using this
theorem Stands.mono {n : Nat} {y : Lay} {β : Nat → Nat} {G : AV} {gb : Nat → Option Nat} {st : St n} {h h' : Hp} (s : Stands y β G gb st h) (hr : ∀ i, i < h.next → h'.m i = h.m i) (hb : ∀ i, h'.next ≤ i → h'.m i = none) : Stands y β G gb st h' := by
 refine ⟨?_, ?_, fun j hj => ?_, fun j hj => ?_, fun j hj => ?_, s.key, s.mdis, s.ldis, s.gdis, hb⟩
 ·rw [hr _ s.ltC]; exact s.chain
 ·intro hn; rw [hr _ (s.ltK hn)]; exact s.links hn
 ·rw [hr _ (s.ltL hj)]; exact s.link j hj
 ·rw [hr _ (s.ltM hj)]; exact s.map j hj
 ·have := s.gens j hj
  cases hg : gb j with
  | none => rw [hg] at this; exact this
  | some b =>
   rw [hg] at this
   simp only at this ⊢
   rw [hr _ (lt_next s.born this)]; exact this
theorem Keep.mono {n : Nat} {y : Lay} {gb : Nat → Option Nat} {h h' : Hp} (hr : ∀ i, i < h.next → h'.m i = h.m i) (hn : h.next ≤ h'.next) : Keep y n gb h gb h' := ⟨fun i hi _ => hr i hi, fun _ _ _ k => .inl k, hn⟩
theorem fst_ent {n : Nat} (l : List (Nat × Pm n)) : (l.map ent).map (·.1) = (l.map (·.1)).map fun (x : Nat) => (x : Int) := by
 rw [List.map_map, List.map_map]; rfl
theorem srt_keys {n : Nat} {l : List (Nat × Pm n)} (h1 : (l.map (·.1)).Nodup) (h2 : ∀ x ∈ l.map (·.1), x < n) : srtI ((l.map ent).map (·.1)) = (keys l).map fun (x : Nat) => (x : Int) := by
 refine List.Perm.eq_of_pairwise (le := fun x y => decide (x ≤ y) = true) (fun x y _ _ h1 h2 => by simp at h1 h2; omega)
  (List.pairwise_mergeSort (fun x y z h1 h2 => by simp at *; omega) (fun x y => by simp; omega) _) ?_ ((List.mergeSort_perm _ _).trans ?_)
 ·rw [List.pairwise_map]
  exact (keys_sorted l).imp fun h => by simp; omega
 ·rw [fst_ent]
  exact (keys_perm h1 h2).symm.map _
theorem map_jc (l : List Nat) : (l.map fun (x : Nat) => (x : Int)).map jc = l.map pc := by rw [List.map_map]; rfl
end Go.Proofs.Ytkffcclalncgdaa.Iv
end
