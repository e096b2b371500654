/- Chapter 1: FracWrong is true. -/
import Derived.Test.YtbblfgfaoolloaaDoorWr4
import Derived.Test.YtbblfgfaoolloaaDoorWq0
import Derived.Test.YtbblfgfaoolloaaDoorWq1
import Derived.Test.YtbblfgfaoolloaaDoorWq2
import Derived.Test.YtbblfgfaoolloaaDoorWq3
import Derived.Test.YtbblfgfaoolloaaDoorWq4
import Derived.Test.YtbblfgfaoolloaaDoorWq5
import Derived.Test.YtbblfgfaoolloaaDoorWq6
import Derived.Test.YtbblfgfaoolloaaDoorWq7
namespace Go.Proofs.YtbblfgfaoolloaaDoor
open Go Go.Ev Go.Ev.Bits

theorem way_run (a b n : Int) (w : Nat) (hw : w < 256) : callsM CW noZ 60 9 [.int .i64 a, .int .i64 b, .int .i16 n, .int .u8 (w : Int)] = LW a b n w := by
  by_cases g0 : w < 8
  · have := List.map_inj_left.1 (t9_0 a b n) (w - 0) (List.mem_range.2 (by omega))
    rw [show w - 0 + 0 = w by omega] at this
    exact this
  by_cases g1 : w < 16
  · have := List.map_inj_left.1 (t9_1 a b n) (w - 8) (List.mem_range.2 (by omega))
    rw [show w - 8 + 8 = w by omega] at this
    exact this
  by_cases g2 : w < 24
  · have := List.map_inj_left.1 (t9_2 a b n) (w - 16) (List.mem_range.2 (by omega))
    rw [show w - 16 + 16 = w by omega] at this
    exact this
  by_cases g3 : w < 32
  · have := List.map_inj_left.1 (t9_3 a b n) (w - 24) (List.mem_range.2 (by omega))
    rw [show w - 24 + 24 = w by omega] at this
    exact this
  by_cases g4 : w < 40
  · have := List.map_inj_left.1 (t9_4 a b n) (w - 32) (List.mem_range.2 (by omega))
    rw [show w - 32 + 32 = w by omega] at this
    exact this
  by_cases g5 : w < 48
  · have := List.map_inj_left.1 (t9_5 a b n) (w - 40) (List.mem_range.2 (by omega))
    rw [show w - 40 + 40 = w by omega] at this
    exact this
  by_cases g6 : w < 56
  · have := List.map_inj_left.1 (t9_6 a b n) (w - 48) (List.mem_range.2 (by omega))
    rw [show w - 48 + 48 = w by omega] at this
    exact this
  by_cases g7 : w < 64
  · have := List.map_inj_left.1 (t9_7 a b n) (w - 56) (List.mem_range.2 (by omega))
    rw [show w - 56 + 56 = w by omega] at this
    exact this
  by_cases g8 : w < 72
  · have := List.map_inj_left.1 (t9_8 a b n) (w - 64) (List.mem_range.2 (by omega))
    rw [show w - 64 + 64 = w by omega] at this
    exact this
  by_cases g9 : w < 80
  · have := List.map_inj_left.1 (t9_9 a b n) (w - 72) (List.mem_range.2 (by omega))
    rw [show w - 72 + 72 = w by omega] at this
    exact this
  by_cases g10 : w < 88
  · have := List.map_inj_left.1 (t9_10 a b n) (w - 80) (List.mem_range.2 (by omega))
    rw [show w - 80 + 80 = w by omega] at this
    exact this
  by_cases g11 : w < 96
  · have := List.map_inj_left.1 (t9_11 a b n) (w - 88) (List.mem_range.2 (by omega))
    rw [show w - 88 + 88 = w by omega] at this
    exact this
  by_cases g12 : w < 104
  · have := List.map_inj_left.1 (t9_12 a b n) (w - 96) (List.mem_range.2 (by omega))
    rw [show w - 96 + 96 = w by omega] at this
    exact this
  by_cases g13 : w < 112
  · have := List.map_inj_left.1 (t9_13 a b n) (w - 104) (List.mem_range.2 (by omega))
    rw [show w - 104 + 104 = w by omega] at this
    exact this
  by_cases g14 : w < 120
  · have := List.map_inj_left.1 (t9_14 a b n) (w - 112) (List.mem_range.2 (by omega))
    rw [show w - 112 + 112 = w by omega] at this
    exact this
  by_cases g15 : w < 128
  · have := List.map_inj_left.1 (t9_15 a b n) (w - 120) (List.mem_range.2 (by omega))
    rw [show w - 120 + 120 = w by omega] at this
    exact this
  by_cases g16 : w < 136
  · have := List.map_inj_left.1 (t9_16 a b n) (w - 128) (List.mem_range.2 (by omega))
    rw [show w - 128 + 128 = w by omega] at this
    exact this
  by_cases g17 : w < 144
  · have := List.map_inj_left.1 (t9_17 a b n) (w - 136) (List.mem_range.2 (by omega))
    rw [show w - 136 + 136 = w by omega] at this
    exact this
  by_cases g18 : w < 152
  · have := List.map_inj_left.1 (t9_18 a b n) (w - 144) (List.mem_range.2 (by omega))
    rw [show w - 144 + 144 = w by omega] at this
    exact this
  by_cases g19 : w < 160
  · have := List.map_inj_left.1 (t9_19 a b n) (w - 152) (List.mem_range.2 (by omega))
    rw [show w - 152 + 152 = w by omega] at this
    exact this
  by_cases g20 : w < 168
  · have := List.map_inj_left.1 (t9_20 a b n) (w - 160) (List.mem_range.2 (by omega))
    rw [show w - 160 + 160 = w by omega] at this
    exact this
  by_cases g21 : w < 176
  · have := List.map_inj_left.1 (t9_21 a b n) (w - 168) (List.mem_range.2 (by omega))
    rw [show w - 168 + 168 = w by omega] at this
    exact this
  by_cases g22 : w < 184
  · have := List.map_inj_left.1 (t9_22 a b n) (w - 176) (List.mem_range.2 (by omega))
    rw [show w - 176 + 176 = w by omega] at this
    exact this
  by_cases g23 : w < 192
  · have := List.map_inj_left.1 (t9_23 a b n) (w - 184) (List.mem_range.2 (by omega))
    rw [show w - 184 + 184 = w by omega] at this
    exact this
  by_cases g24 : w < 200
  · have := List.map_inj_left.1 (t9_24 a b n) (w - 192) (List.mem_range.2 (by omega))
    rw [show w - 192 + 192 = w by omega] at this
    exact this
  by_cases g25 : w < 208
  · have := List.map_inj_left.1 (t9_25 a b n) (w - 200) (List.mem_range.2 (by omega))
    rw [show w - 200 + 200 = w by omega] at this
    exact this
  by_cases g26 : w < 216
  · have := List.map_inj_left.1 (t9_26 a b n) (w - 208) (List.mem_range.2 (by omega))
    rw [show w - 208 + 208 = w by omega] at this
    exact this
  by_cases g27 : w < 224
  · have := List.map_inj_left.1 (t9_27 a b n) (w - 216) (List.mem_range.2 (by omega))
    rw [show w - 216 + 216 = w by omega] at this
    exact this
  by_cases g28 : w < 232
  · have := List.map_inj_left.1 (t9_28 a b n) (w - 224) (List.mem_range.2 (by omega))
    rw [show w - 224 + 224 = w by omega] at this
    exact this
  by_cases g29 : w < 240
  · have := List.map_inj_left.1 (t9_29 a b n) (w - 232) (List.mem_range.2 (by omega))
    rw [show w - 232 + 232 = w by omega] at this
    exact this
  by_cases g30 : w < 248
  · have := List.map_inj_left.1 (t9_30 a b n) (w - 240) (List.mem_range.2 (by omega))
    rw [show w - 240 + 240 = w by omega] at this
    exact this
  have := List.map_inj_left.1 (t9_31 a b n) (w - 248) (List.mem_range.2 (by omega))
  rw [show w - 248 + 248 = w by omega] at this
  exact this
theorem wrong_run (a b n w : Int) (ha : -9223372036854775808 ≤ a ∧ a ≤ 9223372036854775807) (hb : -9223372036854775808 ≤ b ∧ b ≤ 9223372036854775807) (hn : -32768 ≤ n ∧ n ≤ 32767) (hw : 0 ≤ w ∧ w ≤ 255) :
    callsM CW noZ 60 9 [.int .i64 a, .int .i64 b, .int .i16 n, .int .u8 w] = some (.bool true) := by
  obtain ⟨w, rfl⟩ : ∃ k : Nat, w = k := ⟨w.toNat, by omega⟩
  rw [way_run a b n w (by omega)]
  exact LW_eq a b n w ha hb hn
end Go.Proofs.YtbblfgfaoolloaaDoor
