/-
  A part of the proof of FireMay: KO2. No condition.
-/
import Derived.Test.YthhbpkpnhpdeoaaGreatDoorKO0
import Derived.Test.YthhbpkpnhpdeoaaGreatDoorKO1
namespace KX
open Go Go.Ev Go.Proofs
noncomputable def nat2 (f : Nat) : Option (List Value → St → Option (Value × St)) := match Nat.beq f 174 with
  | true => some (orcN [o174_75, o174_4196])
  | false => nat1 f
noncomputable def E2 : Env := ⟨ft, tt, nat2, extF⟩
theorem E2_ok : EnvOK Tryz.prog E2 := { tab _ with
  mixed := mixed
  nat := fun f g h => by
    have h : nat2 f = some g := h
    unfold nat2 at h
    split at h
    · rename_i he
      cases h
      have := Nat.eq_of_beq_eq_true he
      subst this
      refine orcN_ok fun o ho => ?_
      simp only [List.mem_cons, List.mem_nil_iff, or_false] at ho
      rcases ho with rfl | rfl
      · exact o174_75_ok
      · exact o174_4196_ok
    · exact E1_ok.nat f g h }
noncomputable def o8_11 : Orc := ⟨[.slice (some ⟨10, 0, none⟩) 2 2, .int .u16 0], 11, [(0, .cells 0 [.int .i64 0, .int .i64 0, .string (ofL [])]), (10, .cells 1 [.string (ofL [99, 114, 101, 97, 116, 101, 32, 116, 97, 98, 108, 101, 32, 116, 32, 40, 97, 32, 105, 110, 116, 44, 32, 98, 32, 105, 110, 116, 41, 59]), .string (ofL [99, 114, 101, 97, 116, 101, 32, 116, 114, 105, 103, 103, 101, 114, 32, 114, 32, 98, 101, 102, 111, 114, 101, 32, 117, 112, 100, 97, 116, 101, 32, 111, 102, 32, 97, 32, 111, 110, 32, 116, 32, 102, 111, 114, 32, 101, 97, 99, 104, 32, 114, 111, 119, 32, 119, 104, 101, 110, 32, 40, 58, 110, 101, 119, 46, 97, 32, 62, 32, 58, 111, 108, 100, 46, 97, 41, 32, 98, 101, 103, 105, 110, 32, 100, 101, 108, 101, 116, 101, 32, 102, 114, 111, 109, 32, 116, 59, 32, 101, 110, 100, 59])])], .agg ⟨[.slice (some ⟨17718, 0, none⟩) 3 3, .slice (some ⟨17834, 0, none⟩) 2 2, .slice (some ⟨17721, 0, none⟩) 0 0, .int .i64 2]⟩, 17947, [(0, .cells 0 [.int .i64 0, .int .i64 0, .string (ofL [])]), (10, .cells 1 [.string (ofL [99, 114, 101, 97, 116, 101, 32, 116, 97, 98, 108, 101, 32, 116, 32, 40, 97, 32, 105, 110, 116, 44, 32, 98, 32, 105, 110, 116, 41, 59]), .string (ofL [99, 114, 101, 97, 116, 101, 32, 116, 114, 105, 103, 103, 101, 114, 32, 114, 32, 98, 101, 102, 111, 114, 101, 32, 117, 112, 100, 97, 116, 101, 32, 111, 102, 32, 97, 32, 111, 110, 32, 116, 32, 102, 111, 114, 32, 101, 97, 99, 104, 32, 114, 111, 119, 32, 119, 104, 101, 110, 32, 40, 58, 110, 101, 119, 46, 97, 32, 62, 32, 58, 111, 108, 100, 46, 97, 41, 32, 98, 101, 103, 105, 110, 32, 100, 101, 108, 101, 116, 101, 32, 102, 114, 111, 109, 32, 116, 59, 32, 101, 110, 100, 59])]), (3933, .cells 4 [.string (ofL [97]), .int .i64 1, .bool false, .slice none 0 0, .string (ofL [98]), .int .i64 1, .bool false, .slice none 0 0]), (4111, .cells 6 []), (4112, .cells 2 [.slice (some ⟨3933, 0, none⟩) 2 2, .slice (some ⟨4111, 0, none⟩) 0 0]), (15140, .cells 1 [.string (ofL [97])]), (15165, .cells 2 [.int .i64 2, .slice (some ⟨15140, 0, none⟩) 1 1]), (15657, .cells 1 [.string (ofL [110, 101, 119]), .string (ofL [97])]), (15745, .cells 14 [.int .i64 2, .slice (some ⟨15657, 0, none⟩) 2 2, .string (ofL [58]), .bool false, .int .i64 0, .int .i64 0, .string (ofL []), .int .i64 0, .int .i64 0, .int .i64 0, .slice none 0 0, .slice none 0 0, .int .i64 1, .int .i64 61, .int .i64 2, .slice (some ⟨15993, 0, none⟩) 2 2, .string (ofL [58]), .bool false, .int .i64 0, .int .i64 0, .string (ofL []), .int .i64 0, .int .i64 0, .int .i64 0, .slice none 0 0, .slice none 0 0, .int .i64 1, .int .i64 70]), (15993, .cells 1 [.string (ofL [111, 108, 100]), .string (ofL [97])]), (16102, .cells 14 [.int .i64 4, .slice none 0 0, .string (ofL [62]), .bool false, .int .i64 0, .int .i64 0, .string (ofL []), .int .i64 0, .int .i64 0, .int .i64 0, .slice (some ⟨15745, 0, none⟩) 2 2, .slice none 0 0, .int .i64 1, .int .i64 68]), (16164, .cells 12 [.string (ofL [114]), .bool false, .slice none 0 0, .int .i64 0, .bool false, .bool false, .bool false, .slice none 0 0, .slice (some ⟨16762, 0, none⟩) 1 1, .slice none 0 0, .int .i64 1, .int .i64 78]), (16686, .cells 1 [.string (ofL [116])]), (16735, .cells 8 [.int .i64 3, .slice (some ⟨16686, 0, none⟩) 1 1, .slice none 0 0, .slice none 0 0, .slice none 0 0, .slice none 0 0, .int .i64 1, .int .i64 84]), (16762, .cells 13 [.int .i64 14, .string (ofL []), .slice none 0 0, .slice none 0 0, .slice none 0 0, .slice none 0 0, .slice none 0 0, .slice none 0 0, .slice (some ⟨16735, 0, none⟩) 1 1, .bool false, .bool false, .int .i64 1, .int .i64 84]), (17718, .cells 1 [.string (ofL [97]), .string (ofL [98]), .string (ofL [117])]), (17721, .cells 4 []), (17786, .cells 1 [.string (ofL [117]), .string (ofL [116])]), (17787, .cells 5 [.bool true, .bool true, .slice (some ⟨15165, 0, none⟩) 1 1, .slice (some ⟨17786, 0, none⟩) 2 2, .slice (some ⟨16102, 0, none⟩) 1 1]), (17788, .cells 4 [.bool false, .slice none 0 0, .slice (some ⟨16164, 0, none⟩) 1 1, .slice (some ⟨17787, 0, none⟩) 1 1]), (17834, .cells 10 [.string (ofL [117]), .string (ofL [114]), .int .i64 7, .slice none 0 0, .slice none 0 0, .slice none 0 0, .slice none 0 0, .slice (some ⟨17788, 0, none⟩) 1 1, .int .i64 2, .bool true, .string (ofL [117]), .string (ofL [116]), .int .i64 1, .slice (some ⟨4112, 0, none⟩) 1 1, .slice none 0 0, .slice none 0 0, .slice none 0 0, .slice none 0 0, .int .i64 1, .bool true])]⟩
theorem o8_11_ok : OrcOK Tryz.prog 8 o8_11 := orcOK E2_ok (by kernel_rfl)
end KX
