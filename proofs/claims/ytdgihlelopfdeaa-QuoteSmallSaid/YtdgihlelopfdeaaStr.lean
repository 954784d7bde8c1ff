/-
  A string is its bytes.
-/
import Derived.Test.YtdgihlelopfdeaaTexts
namespace Go.Proofs.Ytdgihlelopfdeaa
open Go.RowKit Q

theorem str_of (a : ByteArray) : ∃ xs : List Int, a = strOfNums xs ∧ By xs ∧ xs.length = a.size := by
  refine ⟨a.data.toList.map (fun u => (u.toNat : Int)), ?_, ?_, by rw [List.length_map]; rfl⟩
  · apply ByteArray.ext
    have h : ∀ l : List UInt8, (l.map (fun u => (u.toNat : Int))).map (fun n => UInt8.ofNat n.toNat) = l := by
      intro l
      induction l with
      | nil => rfl
      | cons u l ih => rw [List.map_cons, List.map_cons, ih, Int.toNat_natCast, UInt8.ofNat_toNat]
    show a.data = ((a.data.toList.map (fun u => (u.toNat : Int))).map (fun n => UInt8.ofNat n.toNat)).toArray
    rw [h]
  · intro x hx
    obtain ⟨u, _, rfl⟩ := List.mem_map.1 hx
    have := u.toNat_lt
    omega
end Go.Proofs.Ytdgihlelopfdeaa
