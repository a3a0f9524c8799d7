/-
  string(bytes).
-/
import Derived.Test.YthahflokacgjjaaC2
namespace Go.Proofs.Ythahflokacgjjaa.WinP
open Go.RowKit Go.WinLaws Go.Proofs.Ythahflokacgjjaa.Pl
set_option linter.unusedVariables false

/-- bytes as a string -/
def strOf (xs : List UInt8) : ByteArray := ⟨xs.toArray⟩
theorem strOf_list (xs : List UInt8) : (strOf xs).data.toList = xs := rfl
theorem strOf_size (xs : List UInt8) : (strOf xs).size = xs.length := rfl
theorem strOf_back (s : ByteArray) : strOf s.data.toList = s := rfl

theorem str_nums (xs : List UInt8) : strOfNums (xs.map fun b => (b.toNat : Int)) = strOf xs := by
  unfold strOfNums strOf
  rw [List.map_map]
  congr 1
  congr 1
  conv => rhs; rw [← List.map_id xs]
  apply List.map_congr_left
  intro b _
  simp

/-- 'string(bytes[k:])' -/
theorem own_str_from {w : World} {g n c k : Nat} {xs : List UInt8} (hn : xs.length = n + k) (h4 : ∀ j u, (bcells xs)[j]? = some u → w.cell? ⟨g, j, none⟩ = some u) :
    (convert 33 9 (.slice (some ⟨g, k, none⟩) n c)).run Try.prog w = .ok (.string (strOf (xs.drop k))) w := by
  have hl : (xs.drop k).length = n := by rw [List.length_drop]; omega
  have := run_convert_bytes_arg (P := Try.prog) w 33 5 Try.underlying33 Try.underlying5 g k n c ((xs.drop k).map fun b => (b.toNat : Int)) (by rw [List.length_map]; exact hl) (fun i hi => ?_) 9 Try.underlying9
  · rw [str_nums] at this
    exact this
  · refine h4 (k + i) _ ?_
    rw [List.getD_eq_getElem?_getD, List.getElem?_map, List.getElem?_drop, bcells, List.getElem?_map, List.getElem?_eq_getElem (show k + i < xs.length by omega)]
    rfl

theorem own_str {w : World} {base : Nat} {v : Value} {xs : List UInt8} (h : Own w base v xs) : (convert 33 9 v).run Try.prog w = .ok (.string (strOf xs)) w := by
  rcases h with ⟨rfl, rfl⟩ | ⟨g, c, rfl, _, _, _, _, _, h4⟩
  · exact run_convert_bytes_nil w 33 5 Try.underlying33 Try.underlying5 0 0 9 Try.underlying9
  · have := own_str_from (k := 0) (c := c) (n := xs.length) rfl h4
    rw [List.drop_zero] at this
    exact this

end Go.Proofs.Ythahflokacgjjaa.WinP
