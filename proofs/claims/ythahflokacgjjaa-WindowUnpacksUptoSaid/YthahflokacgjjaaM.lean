/-
  The plain law of layer 7: what bytes say, as pieces with matches; no program.
-/
import Derived.Below
namespace Go.Proofs.Ythahflokacgjjaa.Pl

def at_ (L : List UInt8) (i : Nat) : UInt8 := L.getD i 0
theorem at_eq {L : List UInt8} {i : Nat} (h : i < L.length) : at_ L i = L[i] := by
  unfold at_
  rw [List.getD_eq_getElem?_getD, List.getElem?_eq_getElem h, Option.getD_some]
theorem at_get {L : List UInt8} {i : Nat} (h : i < L.length) : L[i]? = some (at_ L i) := by rw [at_eq h, List.getElem?_eq_getElem h]

/-- the static text -/
def stat : List UInt8 := [116, 114, 97, 110, 115, 102, 101, 114, 32, 112, 97, 121, 32, 116, 111, 32, 102, 114, 111, 109, 32, 108, 97, 110, 101, 32, 98, 105, 100, 32, 102, 101, 101, 32, 110, 111, 110, 99, 101, 32, 114, 111, 117, 110, 100, 32, 98, 97, 116, 99, 104, 32, 100, 101, 108, 97, 121, 101, 100, 32, 48, 49, 50, 51, 52, 53, 54, 55]

/-- n bytes more, each as the one d + 1 back -/
def copy (K : List UInt8) (d : Nat) : Nat → List UInt8
  | 0 => K
  | n + 1 => let J := copy K d n; J ++ [at_ J (J.length - d - 1)]
theorem copy_len (K : List UInt8) (d : Nat) : ∀ n, (copy K d n).length = K.length + n
  | 0 => rfl
  | n + 1 => by simp only [copy, List.length_append, List.length_cons, List.length_nil, copy_len K d n]; omega

/-- what bytes say -/
def unF (L : List UInt8) (most : Int) : Nat → Nat → List UInt8 → List UInt8 × Int
  | 0, _, _ => ([], 0)
  | f + 1, i, K =>
    if i < L.length then
      if (at_ L i).toNat = 255 then ([], 6)
      else if (at_ L i).toNat ≤ 127 then
        if L.length < i + ((at_ L i).toNat + 2) then ([], 5)
        else if most + 68 < (K.length : Int) + ((at_ L i).toNat + 1) then ([], 3)
        else unF L most f (i + (at_ L i).toNat + 2) (K ++ (L.drop (i + 1)).take ((at_ L i).toNat + 1))
      else
        if L.length < i + 3 then ([], 5)
        else if 32768 ≤ (at_ L (i + 1)).toNat * 256 + (at_ L (i + 2)).toNat ∨ K.length < (at_ L (i + 1)).toNat * 256 + (at_ L (i + 2)).toNat + 1 then ([], 6)
        else if most + 68 < (K.length : Int) + ((at_ L i).toNat - 124) then ([], 3)
        else unF L most f (i + 3) (copy K ((at_ L (i + 1)).toNat * 256 + (at_ L (i + 2)).toNat) ((at_ L i).toNat - 124))
    else (K.drop 68, 0)
def unpack (L : List UInt8) (most : Int) : List UInt8 × Int := if most < 0 then ([], 2) else unF L most (L.length + 1) 0 stat

end Go.Proofs.Ythahflokacgjjaa.Pl
