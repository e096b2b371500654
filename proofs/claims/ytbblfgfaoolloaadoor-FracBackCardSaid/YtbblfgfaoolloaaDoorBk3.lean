/- Chapter 1: FracBack: Text and Cut. -/
import Derived.Test.YtbblfgfaoolloaaDoorBk2
import Derived.Lib.ItoaLen
namespace Go.Proofs.YtbblfgfaoolloaaDoor
open Go Go.Ev Go.Ev.Bits

theorem u2k_ok' {n d : Int} (h1 : i64k n = true) (h2 : i64k d = true) : u2k n d = true := by unfold u2k; rw [h1, h2]; rfl
noncomputable def cI (n : Int) : Bool := leI (-9223372036854775808) n && leI n 9223372036854775807
noncomputable def iS (n : Int) : List UInt8 := shut (Lib.itoa n)
noncomputable def t18R (n d : Int) : Option AV := gd (u2k n d) (bif !(shut (rtN n d)) then some (.tup [.str [], .int .i64 2]) else gd (cI n) (bif decide (d > 1) then gd (cI d) (gd (Nat.ble (1 + (iS d).length) 9223372036854775807) (gd (Nat.ble ((iS n).length + ([47] ++ iS d).length) 9223372036854775807) (some (.tup [.str (iS n ++ ([47] ++ iS d)), .int .i64 0])))) else some (.tup [.str (iS n), .int .i64 0])))
theorem t18 (n d : Int) : callsM CB noZ 60 18 [.agg [.int .i64 n, .int .i64 d]] = t18R n d := by kernel_rfl
def tx (n d : Int) : List UInt8 := bif rtN n d then txt n d else []
def er (n d : Int) : Int := bif rtN n d then 0 else 2
theorem it_len {n : Int} (h : -9223372036854775808 ≤ n ∧ n ≤ 9223372036854775807) : (Lib.itoa n).length ≤ 21 := Lib.itoa_length_le n h.1 h.2
theorem tx_len {n d : Int} (h : -9223372036854775808 ≤ n ∧ n ≤ 9223372036854775807) (h2 : -9223372036854775808 ≤ d ∧ d ≤ 9223372036854775807) : (txt n d).length ≤ 43 := by
  have l1 := it_len h
  have l2 := it_len h2
  unfold txt
  cases decide (d > 1)
  · simp; omega
  · simp; omega
theorem t18R_eq (n d : Int) (hn : -9223372036854775808 ≤ n ∧ n ≤ 9223372036854775807) (hd : -9223372036854775808 ≤ d ∧ d ≤ 9223372036854775807) : t18R n d = some (.tup [.str (tx n d), .int .i64 (er n d)]) := by
  have l1 := it_len hn
  have l2 := it_len hd
  unfold t18R tx er iS
  rw [gd_eq (u2k_ok' (i64k_iff.2 hn) (i64k_iff.2 hd)), shut_eq, shut_eq, shut_eq]
  cases rtN n d
  · rfl
  · have c1 : cI n = true := i64k_iff.2 hn
    have c2 : cI d = true := i64k_iff.2 hd
    rw [gd_eq c1, gd_eq c2, gd_eq (Nat.ble_eq_true_of_le (by omega)), gd_eq (Nat.ble_eq_true_of_le (by simp; omega))]
    unfold txt
    cases decide (d > 1)
    · simp only [cond_true, cond_false, Bool.not_true, List.append_nil]
    · rfl
noncomputable def sText : List AV → T AV
  | [.agg [.int .i64 n, .int .i64 d]] => .chk (i64k n && i64k d) (.leaf (.tup [.str (shut (tx n d)), .int .i64 (shut (er n d))]))
  | _ => .fail
theorem iso18t : ∀ args v, (sText args).run = some v → callsM CB noZ 60 18 args = some v := by
  intro args v hr
  unfold sText at hr
  split at hr
  · rename_i n d
    obtain ⟨hc, hr2⟩ := T.of_chk hr
    clear hr
    simp only [Bool.and_eq_true, i64k_iff] at hc
    rw [t18, t18R_eq n d hc.1 hc.2]
    rw [shut_eq, shut_eq] at hr2
    exact hr2
  · simp [T.run] at hr
theorem sum18t : SumAt CB (18, sText) := ⟨callsM_fn okB noZB (iso18t [.agg [.int .i64 0, .int .i64 0]] (.tup [.str (shut (tx 0 0)), .int .i64 (shut (er 0 0))]) rfl), fun args v hr => callsM_iso okB noZB (iso18t args v hr)⟩

/-! ### Cut -/
noncomputable def t25R (s : List UInt8) (i : Int) : Option AV := bif [47] == s then gd (true && leI 1 (s.length : Int) && leI (s.length : Int) (s.length : Int)) (some (.tup [.str (List.drop 0 (List.take 0 s)), .str (List.drop 1 (List.take ((s.length : Nat) : Int).toNat s)), .bool true])) else
  bif decide (i ≥ 0) then gd (true && leI 0 i && leI i (s.length : Int)) (gd (true && leI 0 (IntKind.i64.wrap (i + 1)) && leI (IntKind.i64.wrap (i + 1)) (s.length : Int) && leI (s.length : Int) (s.length : Int)) (some (.tup [.str (List.drop 0 (List.take i.toNat s)), .str (List.drop (IntKind.i64.wrap (i + 1)).toNat (List.take ((s.length : Nat) : Int).toNat s)), .bool true])))
  else some (.tup [.str s, .str [], .bool false])
theorem t25 (s : List UInt8) : callsM CB noZ 60 25 [.str s, .str [47]] = t25R s (shut (Lib.indexByte s 47)) := by kernel_rfl
theorem leI_t {a b : Int} (h : a ≤ b) : leI a b = true := leI_iff.2 h
theorem t25R_eq (s : List UInt8) (hs : s.length ≤ 1000000) : t25R s (shut (Lib.indexByte s 47)) = some (.tup [.str (spl s).1, .str ((spl s).2.getD []), .bool (spl s).2.isSome]) := by
  rw [shut_eq]
  unfold t25R
  cases h0 : ([47] == s)
  · rw [cond_false]
    rcases spl_or s with ⟨h1, h2⟩ | ⟨x, y, h1, h2, h3⟩
    · rw [ib_no h1, h2]; rfl
    · rw [h3]
      have hl : s.length = x.length + 1 + y.length := by rw [h2]; simp; omega
      have hi : Lib.indexByte s 47 = (x.length : Int) := by rw [h2]; exact ib_at y h1
      rw [hi]
      have e1 : IntKind.i64.wrap ((x.length : Int) + 1) = ((x.length + 1 : Nat) : Int) := by rw [i64w (by omega)]; rfl
      rw [e1, decide_eq_true (by omega), cond_true, gd_eq (by rw [leI_t (by omega), leI_t (by omega)]; rfl), gd_eq (by rw [leI_t (by omega), leI_t (by omega), leI_t (by omega)]; rfl)]
      rw [Int.toNat_natCast, Int.toNat_natCast, Int.toNat_natCast, List.drop_zero, List.take_length, h2]
      rw [List.take_left' rfl]
      have e3 : List.drop (x.length + 1) (x ++ 47 :: y) = y := by
        rw [List.drop_append, List.drop_of_length_le (by omega)]
        simp
      rw [e3]
      rfl
  · rw [beq_iff_eq] at h0
    subst h0
    rfl
noncomputable def sCut : List AV → T AV
  | [.str s, .str [47]] => .chk (Nat.ble s.length 1000000) (.leaf (.tup [.str (shut (spl s).1), .str (shut ((spl s).2.getD [])), .bool (shut (spl s).2.isSome)]))
  | _ => .fail
theorem iso25 : ∀ args v, (sCut args).run = some v → callsM CB noZ 60 25 args = some v := by
  intro args v hr
  unfold sCut at hr
  split at hr
  · rename_i s
    obtain ⟨hc, hr2⟩ := T.of_chk hr
    clear hr
    rw [t25, t25R_eq s (Nat.le_of_ble_eq_true hc)]
    rw [shut_eq, shut_eq, shut_eq] at hr2
    exact hr2
  · simp [T.run] at hr
theorem sum25 : SumAt CB (25, sCut) := ⟨callsM_fn okB noZB (iso25 [.str [], .str [47]] (.tup [.str (shut (spl []).1), .str (shut ((spl []).2.getD [])), .bool (shut (spl []).2.isSome)]) rfl), fun args v hr => callsM_iso okB noZB (iso25 args v hr)⟩
noncomputable def tabR : List (Nat × (List AV → T AV)) := [(18, sText), (25, sCut)]
noncomputable def CR : Ctx := withSum CB tabR
theorem okR : Ok CR := ok_with okB ⟨sum18t, sum25, trivial⟩
theorem noZR : ZOk CR noZ := noZ_ok (show ∀ f fd, CR.code f = some fd → fd.keep.Nodup from keepOk)
end Go.Proofs.YtbblfgfaoolloaaDoor
