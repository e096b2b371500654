/- Chapter 1: FracBack: the library's functions. -/
import Derived.Test.YtbblfgfaoolloaaDoorF10
import Derived.Test.YtbblfgfaoolloaaDoorTa
import Derived.Test.YtbblfgfaoolloaaDoorShelf2
import Derived.Test.YtbblfgfaoolloaaDoorBk1
namespace Go.Proofs.YtbblfgfaoolloaaDoor
open Go Go.Ev Go.Ev.Bits

theorem sum_less' {C : Ctx} {f : FuncId} {F G : List AV → T AV} (h : SumAt C (f, F)) (hg : ∀ args v, (G args).run = some v → (F args).run = some v) : SumAt C (f, G) := ⟨h.1, fun args v hr => h.2 args v (hg args v hr)⟩
/-- What Atoi gives. -/
def vA (s : List UInt8) : Int := match Lib.atoiAll s with
  | .ok v => v
  | .range => Lib.atoiSat s
  | _ => 0
def okA (s : List UInt8) : Bool := match Lib.atoiAll s with
  | .ok _ => true
  | _ => false
theorem vA_rng (s : List UInt8) : -9223372036854775808 ≤ vA s ∧ vA s ≤ 9223372036854775807 := by
  unfold vA
  cases h : Lib.atoiAll s with
  | range =>
    simp only
    unfold Lib.atoiSat
    split <;> omega
  | ok v =>
    simp only
    unfold Lib.atoiAll at h
    split at h
    · cases h
    · simp only at h
      split at h
      · cases h
      · cases h
      · rename_i u hu
        split at h
        · cases h
        · rename_i h1
          split at h
          · cases h
          · rename_i h2
            injection h with h
            subst h
            split
            · rename_i h3; simp only [h3, true_and] at h2; omega
            · rename_i h3; simp only [h3, not_false_eq_true, true_and] at h1; omega
  | _ => simp
noncomputable def sAtoiB : List AV → T AV
  | [.str s] => .chk (Nat.ble s.length 281474976710656) (.br (shut (okA s)) (.leaf (.tup [.int .i64 (shut (vA s)), .nili])) (.leaf (.tup [.int .i64 (shut (vA s)), .ifc 101 .undef])))
  | _ => .fail
theorem sum27a : SumAt C4 (27, sAtoi 101) := sum_Atoi (g1 := 1) (g2 := 2) ⟨_, fn27.1, by kernel_rfl, by kernel_rfl⟩ rfl rfl Tryd.strconv_Atoi_ok Tryd.strconv_Atoi_syntax Tryd.strconv_Atoi_range
theorem sum27b : SumAt C4 (27, sAtoiB) := sum_less' sum27a fun args v hr => by
  unfold sAtoiB at hr
  split at hr
  · rename_i s
    obtain ⟨hc, hr2⟩ := T.of_chk hr
    clear hr
    unfold sAtoi
    simp only [T.run, shut_eq] at hr2
    unfold okA vA at hr2
    show (T.chk (Nat.ble s.length 281474976710656) _).run = some v
    rw [hc]
    cases h : Lib.atoiAll s with
    | ok x => rw [h] at hr2; exact hr2
    | range => rw [h] at hr2; exact hr2
    | _ => rw [h] at hr2; exact hr2
  · simp [T.run] at hr
noncomputable def sIdx : List AV → T AV
  | [.str s, .int .u8 c] => .leaf (.int .i64 (shut (Lib.indexByte s c.toNat.toUInt8)))
  | _ => .fail
theorem sum86 : SumAt C4 (86, sIdx) := sum_less' (sum_IndexByte (C := C4) ⟨_, fn86.1, by kernel_rfl, by kernel_rfl⟩ Tryd.stringslite_IndexByte) fun args v hr => by
  unfold sIdx at hr
  split at hr
  · rw [shut_eq] at hr; exact hr
  · simp [T.run] at hr
theorem sum24 : SumAt C4 (24, sItoaA) := sum_ItoaA (C := C4) (g := 3) (name := "internal/strconv.uint64pow10") ⟨_, fn24.1, by kernel_rfl, by kernel_rfl⟩ (by kernel_rfl) (by kernel_rfl) fun n h0 h1 w ht => Tryd.strconv_Itoa n h0 h1 w ht
noncomputable def tabB : List (Nat × (List AV → T AV)) := [(24, sItoaA), (27, sAtoiB), (86, sIdx)]
noncomputable def CB : Ctx := withSum C4 tabB
theorem okB : Ok CB := ok_with ok4 ⟨sum24, sum27b, sum86, trivial⟩
theorem keepOkB : ∀ f fd, CB.code f = some fd → fd.keep.Nodup := keepOk
theorem noZB : ZOk CB noZ := noZ_ok keepOkB
end Go.Proofs.YtbblfgfaoolloaaDoor
