/- Opening this package's types as arguments. -/
import Derived.Test.YtcaepnbamnicmaaDoorOp
import Derived.Test.YtcaepnbamnicmaaDoorDh
namespace Go.Proofs.YtcaepnbamnicmaaDoor
open Go.RowKit Go.Proofs.YtcaepnbamnicmaaDoorW.PrintWords Go.Proofs.YtcaepnbamnicmaaDoor.Op

def gTy (t : Ty) : Prop := (Lit.int .i64 t.k).wf = true ∧ t.n.size ≤ reachBytes
theorem opnTy : Opn Tryd.prog kTy 23 gTy :=
  opn_iso (opn_struct Tryd.underlying23 (by kernel_rfl) (by kernel_rfl) (by kernel_rfl) (opnS_cons (opn_int Tryd.underlying3) (opnS_one (opn_string Tryd.underlying9)))) (fun t : Ty => (t.k, t.n)) (fun p => ⟨p.1, p.2⟩) (fun _ => rfl)
def gTys (l : List Ty) : Prop := l.length * Tryd.prog.bytesOf 23 ≤ reachBytes ∧ ∀ a ∈ l, gTy a
theorem opnTys : Opn Tryd.prog (Kd.slice 23 kTy) 27 gTys := opn_slice Tryd.underlying27 (by kernel_rfl) opnTy
theorem tys_len {l : List Ty} (h : gTys l) : l.length * 24 ≤ 140737488351232 := h.1
theorem toArray_of {cs : Array Value} {l : List Value} (h : cs.toList = l) : cs = l.toArray := by rw [← h]
section
variable {H : Type} {enc : TypeId × Value → H} {W : World} {v : Value} {d : DataW H} {p : List MemPlace} {r : Reach} {b : Nat}
theorem openTy (hv : Value.okWide Tryd.prog W r b 23 v) (h : DataW.Trod enc Tryd.prog W 0 (fun _ => true) true 23 v d p) (hw : ∀ n ∈ DataW.weights Tryd.prog 23 d, n ≤ reachBytes) : ∃ t : Ty, v = .agg #[.int .i64 t.k, .string t.n] ∧ gTy t := by
  obtain ⟨t, cs, rfl, hk, hg⟩ := open_agg opnTy (agg_struct Tryd.underlying23 hv) h hw
  exact ⟨t, by rw [toArray_of (kTy_open hk)], hg⟩
theorem openTys (hv : Value.okWide Tryd.prog W r b 27 v) (h : DataW.Trod enc Tryd.prog W 0 (fun _ => true) true 27 v d p) (hw : ∀ n ∈ DataW.weights Tryd.prog 27 d, n ≤ reachBytes) : ∃ A l c, v = .slice A l.length c ∧ l.length ≤ c ∧ Kd.C kTy W A l.length l ∧ gTys l :=
  open_slice Tryd.underlying27 opnTys hv h hw
end
end Go.Proofs.YtcaepnbamnicmaaDoor
