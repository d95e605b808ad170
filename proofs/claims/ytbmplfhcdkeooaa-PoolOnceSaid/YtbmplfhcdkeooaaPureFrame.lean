/- The frame of a record, on plain bytes. -/
import Derived.Test.YtbmplfhcdkeooaaPure
import Derived.Test.YtbmplfhcdkeooaaPureHash
namespace Go.Pure

/-- The bytes of the label of a record's sum. -/
def entryL : List UInt8 := [101, 110, 116, 114, 121]
def coreP (n : Int) (b : List UInt8) : List UInt8 := uvar (zig n) ++ (uvar b.length ++ b)
def rawP (b : List UInt8) : List UInt8 := uvar b.length ++ b
/-- The sum of a core. -/
def sumP (c : List UInt8) : Nat := (bytesI entryL c).toNat
def frameP (n : Int) (b : List UInt8) : List UInt8 := rawP (coreP n b) ++ uvar (sumP (coreP n b))

theorem sumI_range (lab : List UInt8) (l : List Int) : 0 ≤ sumI lab l ∧ sumI lab l ≤ 18446744073709551615 := mixI_range _ _
theorem bytesI_toNat (c : List UInt8) : bytesI entryL c = (sumP c : Int) := by
  unfold sumP
  exact (Int.toNat_of_nonneg (sumI_range _ _).1).symm
theorem sumP_lt (c : List UInt8) : sumP c < 18446744073709551616 := by
  have h := sumI_range entryL ((wds c).map (fun n : Nat => Go.RowKit.wrap64 (n : Int)) ++ [(c.length : Int)])
  unfold sumP bytesI
  omega
theorem coreP_len (n : Int) (b : List UInt8) (hlo : -9223372036854775808 ≤ n) (hhi : n ≤ 9223372036854775807) (hb : b.length ≤ 1000000000) : (coreP n b).length ≤ b.length + 20 := by
  unfold coreP
  have h1 := uvar_len (zig_lt n hlo hhi)
  have h2 := uvar_len (n := b.length) (by omega)
  simp only [List.length_append]
  omega
theorem frameP_len (n : Int) (b : List UInt8) (hlo : -9223372036854775808 ≤ n) (hhi : n ≤ 9223372036854775807) (hb : b.length ≤ 100000000) : (frameP n b).length ≤ b.length + 40 := by
  have h0 := coreP_len n b hlo hhi (by omega)
  have h1 := uvar_len (n := (coreP n b).length) (by omega)
  have h2 := uvar_len (sumP_lt (coreP n b))
  unfold frameP rawP
  simp only [List.length_append]
  omega

end Go.Pure
