/- Opening classes as an argument. -/
import Derived.Test.YtbogcknkkbnfnaaDoorKa
import Derived.Test.YtbogcknkkbnfnaaDoorProg
import Derived.Deep.RegionWith
namespace Go.Proofs.YtbogcknkkbnfnaaDoor
open Go.RowKit Go.WideShapes Go.Proofs.YtbogcknkkbnfnaaDoorW.PrintWords Go.Proofs.YtbogcknkkbnfnaaDoor.Op

theorem opnRaw {P : Program} {t e : TypeId} (ht : P.underlying t = some (.slice e)) : Opn P kRaw t (fun _ => True) := by
  intro H enc w fuel cs x hx _
  rcases DataW.trod_slice ht hx with ⟨rfl, _⟩ | ⟨a, len, cap, _, _, _, _, rfl, _⟩
  · exact ⟨⟨none, 0, 0⟩, rfl, trivial⟩
  · exact ⟨⟨some a, len, cap⟩, rfl, trivial⟩
def gCl (c : Cl) : Prop := c.name.size ≤ reachBytes ∧ c.super.size ≤ reachBytes ∧ c.faces.length * Tryd.prog.bytesOf 9 ≤ reachBytes ∧ ∀ s ∈ c.faces, s.size ≤ reachBytes
theorem opnCl : Opn Tryd.prog kCl 57 gCl :=
  (opn_iso (opn_struct Tryd.underlying57 (by kernel_rfl) (by kernel_rfl) (by kernel_rfl) (opnS_cons (opnRaw Tryd.underlying52) (opnS_cons (opn_string Tryd.underlying9) (opnS_cons (opn_string Tryd.underlying9) (opnS_cons (opn_bool Tryd.underlying4) (opnS_cons (opn_slice Tryd.underlying53 (by kernel_rfl) (opn_string Tryd.underlying9)) (opnS_cons (opnRaw Tryd.underlying54) (opnS_one (opnRaw Tryd.underlying55))))))))) (fun c : Cl => (c.pool, c.name, c.super, c.face, c.faces, c.fields, c.methods)) (fun p => ⟨p.1, p.2.1, p.2.2.1, p.2.2.2.1, p.2.2.2.2.1, p.2.2.2.2.2.1, p.2.2.2.2.2.2⟩) (fun _ => rfl)).mono (fun c h => ⟨h.2.1, h.2.2.1, h.2.2.2.2.1.1, h.2.2.2.2.1.2⟩)
def gCls (l : List Cl) : Prop := l.length * Tryd.prog.bytesOf 57 ≤ reachBytes ∧ ∀ c ∈ l, gCl c
theorem opnCls : Opn Tryd.prog (Kd.slice 57 kCl) 22 gCls := opn_slice Tryd.underlying22 (by kernel_rfl) opnCl
set_option maxRecDepth 20000 in
theorem openCls {H : Type} {enc : TypeId × Value → H} {W : World} {v : Value} {d : DataW H} {p : List MemPlace} {r : Reach} {b : Nat} (hv : Value.okWide Tryd.prog W r b 22 v) (h : DataW.Trod enc Tryd.prog W 0 (fun _ => true) true 22 v d p) (hw : ∀ n ∈ DataW.weights Tryd.prog 22 d, n ≤ reachBytes) : ∃ A l c, v = .slice A l.length c ∧ l.length ≤ c ∧ Kd.C kCl W A l.length l ∧ gCls l :=
  open_slice Tryd.underlying22 opnCls hv h hw
end Go.Proofs.YtbogcknkkbnfnaaDoor
