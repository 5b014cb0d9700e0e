/- Words for goals that one tactic closes. No condition. -/
import Derived.Below
import Derived.KernelRfl
namespace Go.Proofs.YtddfdmopaeghnadGreatDoor
variable {P Q:Prop}
structure Nx_ (Q:Prop):Prop where o:Q
open RowKit in
theorem aE_ {w:World} {o:Obj}:Below w.heap.size w (w.alloc o):=(Below.refl _ _).alloc (Nat.le_refl _) _
theorem ck_ {α:Type} {a b:α} (h:a=b:=by kernel_rfl):some a=some b:=congrArg some h
theorem so_ (h:P:=by simp;omega):P:=h
theorem me_ (h:P:=by simp [intOf];omega):P:=h
theorem om_ (h:P:=by omega):P:=h
theorem kr_ (h:P:=by kernel_rfl):P:=h
theorem de_ (h:P:=by decide):P:=h
theorem si_ (h:P:=by simp):P:=h
end Go.Proofs.YtddfdmopaeghnadGreatDoor
