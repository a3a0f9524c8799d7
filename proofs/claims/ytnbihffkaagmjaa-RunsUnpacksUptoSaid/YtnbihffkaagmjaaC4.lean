/-
  runs.Pack.
-/
import Derived.Test.YtnbihffkaagmjaaC2
namespace Go.Proofs.Ytnbihffkaagmjaa.RunsP
open Go.RowKit Go.RunLaws Go.Proofs.Ytnbihffkaagmjaa.Pl
set_option linter.unusedVariables false

/-- bytes as a string -/
def strOf (xs : List UInt8) : ByteArray := ⟨xs.toArray⟩
theorem strOf_list (xs : List UInt8) : (strOf xs).data.toList = xs := rfl
theorem strOf_size (xs : List UInt8) : (strOf xs).size = xs.length := rfl
theorem strOf_back (s : ByteArray) : strOf s.data.toList = s := rfl

theorem own_str {w : World} {base : Nat} {v : Value} {n : Nat} {xs : List UInt8} (h : w.ownsRow base 5 1 v n (bcells xs)) : (convert 30 9 v).run Try.prog w = .ok (.string (strOf xs)) w := by
  have hl : xs.length = n := by have := h.1; rw [bcells_len] at this; omega
  have e : strOfNums (xs.map fun b => (b.toNat : Int)) = strOf xs := by
    unfold strOfNums strOf
    rw [List.map_map]
    congr 1
    congr 1
    conv => rhs; rw [← List.map_id xs]
    apply List.map_congr_left
    intro b _
    simp
  rcases h.2 with ⟨rfl, rfl⟩ | ⟨g, cap, cur, rfl, _⟩
  · obtain rfl : xs = [] := List.eq_nil_of_length_eq_zero hl
    exact run_convert_bytes_nil w 30 5 Try.underlying30 Try.underlying5 0 0 9 Try.underlying9
  · have := run_convert_bytes_arg (P := Try.prog) w 30 5 Try.underlying30 Try.underlying5 g 0 n cap (xs.map fun b => (b.toNat : Int)) (by simpa using hl) (fun i hi => ?_) 9 Try.underlying9
    · rw [e] at this
      exact this
    · have hc := h.cells (g := g) rfl i (.int .u8 ((xs.map fun b => (b.toNat : Int)).getD i 0)) (by
        rw [List.getD_eq_getElem?_getD, List.getElem?_map, bcells, List.getElem?_map, List.getElem?_eq_getElem (show i < xs.length by omega)]
        rfl)
      have ha : (⟨g, 0, none⟩ : Addr).add i = ⟨g, 0 + i, none⟩ := by unfold Addr.add; split <;> simp_all
      rwa [ha] at hc

theorem list_string {ops : Array Oper} {rest : List Oper} {o : Oper} {a : Act} {w : World} {Q : Exit → Act → World → Prop} (hgd : o.guard = none) (x : Operand) (ho : o.op = .convert 30 9 x)
    (base : Nat) (v : Value) (n : Nat) (xs : List UInt8) (hs : a.eval x = v) (hown : w.ownsRow base 5 1 v n (bcells xs)) (h : wpList Try.prog ops Q rest (a.put o.dst (.string (strOf xs))) w) : wpList Try.prog ops Q (o :: rest) a w := by
  refine wpList_plain hgd fun K hK => ?_
  have hr := own_str hown
  unfold Oper.wp execOp
  simp only [ho, hs, Sem.run_bind, hr, Result.andThen_ok, Sem.run_pure]
  exact hK _ _ h

end Go.Proofs.Ytnbihffkaagmjaa.RunsP
