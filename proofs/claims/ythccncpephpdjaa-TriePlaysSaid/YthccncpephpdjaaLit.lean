/- Slice literals of elements of more than a cell. -/
import Derived.Test.YthccncpephpdjaaV
set_option linter.unusedVariables false
namespace Go.Proofs.Ythccncpephpdjaa.E
open Go.RowKit
variable {n : Nat} {L : List (Nat × Value)} {P : Program} {ops : Array Oper} {Q : Exit → Act → World → Prop} {rest : List Oper} {w0 : World} {H : List Ent}
theorem at_litL {α : Type} {d : Nat} {ty : TypeId} {pos : String} {aft : Array Edge} {t e : TypeId} {m sz : Nat} {parts : List (Nat × Operand)} {vs : List (Nat × Value)} {z : Value} {c : Cd α} (zs xs : List α) (ht : P.underlying t = some (.slice e)) (hz : ∀ w, (sizeOf e).run P w = .ok sz w) (hzv : ∀ w, (zeroValue e).run P w = .ok z w) (hx : evp L parts = some vs) (hm : Nat.ble (m * sz) 16777216 = true) (h0 : Nat.beq (m * sz) 0 = false)
    (hi : ((Array.range (m * sz)).map (z.cells[· % z.cells.size]!)) = (c.all zs).toArray)
    (hf : Instr.fill (fun i => some (i * sz, sz)) (c.all zs).toArray vs = some (c.all xs).toArray) (hdn : Nat.blt d n = true)
    (k : ∀ b, At n ((d, .slice (some ⟨b, 0, none⟩) m m) :: L) (Wd w0 (cellsE b (c.all xs) e :: H)) (wpList P ops Q rest)) :
    At n L (Wd w0 H) (wpList P ops Q (⟨some d, .buildSlice t m parts.toArray, ty, pos, aft, none⟩ :: rest)) :=
  at_litG ht hz hzv hx hm h0 (by rw [hi]; exact hf) hdn k
end Go.Proofs.Ythccncpephpdjaa.E
