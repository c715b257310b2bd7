import Derived.Below
namespace Go.Proofs.Ymbrca
open Go.RowKit
theorem hid {p : Prop} (h : p) : Hid p := h
end Go.Proofs.Ymbrca
