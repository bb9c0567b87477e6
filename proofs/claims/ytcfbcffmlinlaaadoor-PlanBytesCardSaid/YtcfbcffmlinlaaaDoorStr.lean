/-
  Strings as lists of bytes, for the walks.
-/
import Derived.Test.YtcfbcffmlinlaaaDoorBase
namespace Go.Proofs.YtcfbcffmlinlaaaDoor
open Go.RowKit

/-- The string of these bytes. -/
def St (l : List UInt8) : ByteArray := ⟨l.toArray⟩

@[go_sem] theorem lit_St (l : List UInt8) : ByteArray.mk l.toArray = St l := rfl
@[go_sem] theorem St_app (a b : List UInt8) : St a ++ St b = St (a ++ b) := by
  apply ByteArray.ext
  show (St a ++ St b).data = (a ++ b).toArray
  rw [ByteArray.data_append]
  simp [St]
@[go_sem] theorem St_size (l : List UInt8) : (St l).size = l.length := by simp [St, ByteArray.size]
theorem St_list (l : List UInt8) : (St l).data.toList = l := by simp [St]
theorem St_of (s : ByteArray) : ∃ l, s = St l := ⟨s.data.toList, by unfold St; simp⟩
theorem St_inj {a b : List UInt8} (h : St a = St b) : a = b := by
  have := congrArg (fun s => s.data.toList) h
  simpa [St_list] using this
@[go_sem] theorem St_toList (l : List UInt8) : (St l).toList = l := ByteArray.toList_mk l
theorem vs {a b : List UInt8} (h : a = b) : Value.string (St a) = Value.string (St b) := by rw [h]
theorem ret_str {a b : List UInt8} (h : a = b) : Ending.returned (.string (St a)) = .returned (.string (St b)) := by rw [h]
@[go_sem] theorem St_get (l : List UInt8) (k : Nat) (h : k < (St l).size) : (St l)[k] = l[k]'(by rw [St_size] at h; exact h) := by
  show (St l).data[k] = _
  simp [St]

theorem enc_small (n : Int) (h0 : 0 ≤ n) (h1 : n < 128) : Utf8.encode n = St [UInt8.ofNat n.toNat] := by
  obtain ⟨m, rfl⟩ := Int.eq_ofNat_of_zero_le h0
  have hm : m < 128 := by omega
  have v : Utf8.valid (m : Int) = true := by simp [Utf8.valid]; omega
  simp [Utf8.encode, v, hm, St]

end Go.Proofs.YtcfbcffmlinlaaaDoor
