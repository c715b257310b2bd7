import Derived.Below
namespace Go.Proofs.Ymbrcb
open Go.RowKit
theorem hid {p : Prop} (h : p) : Hid p := h
end Go.Proofs.Ymbrcb
