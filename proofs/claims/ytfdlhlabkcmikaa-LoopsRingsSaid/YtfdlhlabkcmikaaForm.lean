/- Contracts of package code: Form, registers, One, Goes, Target, Check return what the plain definitions say; a program of fewer than a million instructions. -/
import Derived.Test.YtfdlhlabkcmikaaProg
import Derived.Test.YtfdlhlabkcmikaaBase
import Derived.Test.YtfdlhlabkcmikaaSpec
import Derived.WalkSpells
import Derived.LoopN
namespace Go.Proofs.Ytfdlhlabkcmikaa
open Go.RowKit

def formAgg : Value := Value.agg
  #[Value.int IntKind.u8 1, Value.string { data := #[] }, Value.int IntKind.u8 2, Value.string { data := #[] },
    Value.int IntKind.u8 3, Value.string { data := #[114, 110] }, Value.int IntKind.u8 4,
    Value.string { data := #[114, 114] }, Value.int IntKind.u8 5, Value.string { data := #[114, 114] },
    Value.int IntKind.u8 6, Value.string { data := #[114, 114] }, Value.int IntKind.u8 7,
    Value.string { data := #[114, 114] }, Value.int IntKind.u8 8, Value.string { data := #[114, 114, 112] },
    Value.int IntKind.u8 9, Value.string { data := #[116] }, Value.int IntKind.u8 10,
    Value.string { data := #[114, 116] }, Value.int IntKind.u8 11, Value.string { data := #[114, 116] }]
theorem form_idx (k : Nat) (hk : k < 11) (w : World) : (Instr.index 105 formAgg (.int .i64 k)).run Try.prog w = .ok (.agg #[.int .u8 (k + 1), .string (formStr (k + 1))]) w := by
  have h : k = 0 ∨ k = 1 ∨ k = 2 ∨ k = 3 ∨ k = 4 ∨ k = 5 ∨ k = 6 ∨ k = 7 ∨ k = 8 ∨ k = 9 ∨ k = 10 := by omega
  rcases h with rfl | rfl | rfl | rfl | rfl | rfl | rfl | rfl | rfl | rfl | rfl <;> (show _ = _; kernel_rfl)
theorem formK_mid (op : Int) (h : 1 ≤ op ∧ op ≤ 11) : (formK op).isSome = true := by
  unfold formK
  rw [if_neg (by omega)]
  repeat (first | rfl | (split; rfl))
  omega
theorem formK_out (op : Int) (h : op ≤ 32 ∨ 49 < op) (h2 : op < 1 ∨ 11 < op) : formK op = none := by
  unfold formK
  rw [if_neg (by omega), if_neg (by omega), if_neg (by omega), if_neg (by omega), if_neg (by omega), if_neg (by omega), if_neg (by omega)]

set_option maxRecDepth 100000 in
set_option maxHeartbeats 4000000 in
/-- code.Form. -/
theorem form_any (op : Int) (w : World) (h0 : 0 ≤ op) (h1 : op < 256) : Calls Try.prog 51 #[.int .u8 op] w fun e w' => e = .returned (.tuple #[.string (formStr op), .bool (formK op).isSome]) ∧ Below w.heap.size w w' := by
  by_cases hw : 32 < op ∧ op ≤ 49
  · obtain ⟨ha, hb⟩ := hw
    go_enter Try.func51, Try.ntmps51
    go_wp2_with fail
    go_ret2
    have : formK op = some (3, 0) := by unfold formK; rw [if_pos ⟨ha, hb⟩]
    exact ⟨by simp [formStr, this], Below.refl _ _⟩
  · have hw : op ≤ 32 ∨ 49 < op := by omega
    rcases hw with hw | hw
    all_goals
      have hidx := form_idx
      unfold formAgg at hidx
      go_enter Try.func51, Try.ntmps51
      go_wp2_with fail
      go_loopw [24] (fun t wr => ∃ k : Nat, k ≤ 11 ∧ t = .int .i64 k ∧ (op < 1 ∨ k < op) ∧ Below w.heap.size w wr) (fun t _ => 11 - (intOf t).toNat)
      case atStart => exact ⟨0, by omega, rfl, by omega, Below.refl _ _⟩
      case round =>
        obtain ⟨k, hk, rfl, hop, hb⟩ := hrel
        have Hop := Lib.hid hop
        clear hop
        by_cases hlt : k < 11
        · have hi := fun w => hidx k hlt w
          clear hidx
          have := hb.size
          by_cases hop2 : op = k + 1
          · have he : (formK op).isSome = true := formK_mid op (by omega)
            have e1 : ((k : Int) + 1 == op) = true := by simp; omega
            have Hop2 := Lib.hid hop2
            clear hop2
            go_wp2_with fail
            go_ret2
            exact ⟨by rw [he, Hop2.out]; rfl, hb.alloc (by omega) _⟩
          · have he : ((k : Int) + 1 == op) = false := by simp; omega
            go_wp2_with fail
            go_roundw
            case rel => have := Hop.out; exact ⟨k + 1, by omega, by go_num, by omega, hb.alloc (by omega) _⟩
            case measure => simp [intOf]; omega
        · obtain rfl : k = 11 := by omega
          go_wp2_with fail
          go_ret2
          have e1 := formK_out op (by omega) (by have := Hop.out; omega)
          exact ⟨by simp [formStr, e1], hb⟩
end Go.Proofs.Ytfdlhlabkcmikaa
