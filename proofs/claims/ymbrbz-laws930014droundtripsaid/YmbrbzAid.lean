import Derived.Below
namespace Go.Proofs.Ymbrbz
open Go.RowKit
theorem hid {p : Prop} (h : p) : Hid p := h
end Go.Proofs.Ymbrbz
