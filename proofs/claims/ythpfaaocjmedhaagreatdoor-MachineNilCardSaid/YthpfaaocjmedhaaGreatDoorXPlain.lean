/- A part of the proof that a law answers true for every input: an executor of the model over an abstract heap, proved sound, or the use of it. -/
import Derived.Test.YthpfaaocjmedhaaGreatDoorXS0
import Derived.Laws.StructEq
namespace Go.X
open Go

/-- The cells of a type of numbers, texts and bools, told. -/
noncomputable def flatFields (P : Program) (rec : Nat → Option (List CK)) : List Field → Nat → Option (List CK)
  | [], _ => some []
  | f :: fs, o => match f.name == "_", Nat.beq f.offset o, rec f.type with
    | false, true, some ks => match P.info? f.type with
      | some i => match Nat.beq i.size ks.length with
        | true => match flatFields P rec fs (o + ks.length) with
          | some r => some (ks ++ r)
          | none => none
        | false => none
      | none => none
    | _, _, _ => none
noncomputable def flatAt (P : Program) : Nat → Nat → Option (List CK)
  | 0, _ => none
  | d + 1, t => match P.underlying t with
    | some (.int k) => some [.int k]
    | some .string => some [.str]
    | some .bool => some [.bool]
    | some (.struct fs) => match P.stoodInHeld t with
      | true => none
      | false => flatFields P (flatAt P d) fs.toList 0
    | _ => none
noncomputable def plainList (P : Program) : List Nat → T (List CK) → T (List CK)
  | [], t => t
  | i :: l, t => match P.underlying i, flatAt P 9 i, P.eqGuardType P.depth i with
    | some (.struct _), some ks, false => T.put t i (some ks) fun t' => plainList P l t'
    | _, _, _ => plainList P l t
end Go.X
