/-
  A part of the proof of FireMay: KO0. No condition.
-/
import Derived.Test.YthhbpkpnhpdeoaaGreatDoorKE1
namespace KX
open Go Go.Ev Go.Proofs
noncomputable def o174_75 : Orc := ⟨[.string (ofL [99, 114, 101, 97, 116, 101, 32, 116, 97, 98, 108, 101, 32, 116, 32, 40, 97, 32, 105, 110, 116, 44, 32, 98, 32, 105, 110, 116, 41, 59])], 75, [(0, .cells 0 [.int .i64 0, .int .i64 0, .string (ofL [])])], .tuple ⟨[.slice (some ⟨3076, 0, none⟩) 11 11, .agg ⟨[.int .i64 0, .string (ofL []), .int .i64 0, .int .i64 0]⟩]⟩, 3097, [(0, .cells 0 [.int .i64 0, .int .i64 0, .string (ofL [])]), (3076, .cells 5 [.int .i64 2, .string (ofL [99, 114, 101, 97, 116, 101]), .int .i64 0, .int .i64 1, .int .i64 1, .int .i64 2, .string (ofL [116, 97, 98, 108, 101]), .int .i64 0, .int .i64 1, .int .i64 8, .int .i64 1, .string (ofL [116]), .int .i64 0, .int .i64 1, .int .i64 14, .int .i64 5, .string (ofL [40]), .int .i64 0, .int .i64 1, .int .i64 16, .int .i64 1, .string (ofL [97]), .int .i64 0, .int .i64 1, .int .i64 17, .int .i64 2, .string (ofL [105, 110, 116]), .int .i64 0, .int .i64 1, .int .i64 19, .int .i64 5, .string (ofL [44]), .int .i64 0, .int .i64 1, .int .i64 22, .int .i64 1, .string (ofL [98]), .int .i64 0, .int .i64 1, .int .i64 24, .int .i64 2, .string (ofL [105, 110, 116]), .int .i64 0, .int .i64 1, .int .i64 26, .int .i64 5, .string (ofL [41]), .int .i64 0, .int .i64 1, .int .i64 29, .int .i64 5, .string (ofL [59]), .int .i64 0, .int .i64 1, .int .i64 30])]⟩
theorem o174_75_ok : OrcOK Tryz.prog 174 o174_75 := orcOK E1_ok (by kernel_rfl)
end KX
