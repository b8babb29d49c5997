/- Opening a proto as an argument. -/
import Derived.Test.YtcaepnbamnicmaaDoorOq
namespace Go.Proofs.YtcaepnbamnicmaaDoor
open Go.RowKit Go.Proofs.YtcaepnbamnicmaaDoorW.PrintWords Go.Proofs.YtcaepnbamnicmaaDoor.Op
def kPr : Kd Pr := Kd.iso (Kd.pair kTy (Kd.slice 23 kTy)) (fun p => (p.ret, p.args))
def gPr (p : Pr) : Prop := gTy p.ret ∧ gTys p.args
theorem opnPr : Opn Tryd.prog kPr 29 gPr :=
  opn_iso (opn_struct Tryd.underlying29 (by kernel_rfl) (by kernel_rfl) (by kernel_rfl) (opnS_cons opnTy (opnS_one opnTys))) (fun p : Pr => (p.ret, p.args)) (fun p => ⟨p.1, p.2⟩) (fun _ => rfl)
theorem kPr_open {w : World} {x : Pr} {cs : List Value} (h : kPr.K w x cs) : ∃ A c, cs = [.int .i64 x.ret.k, .string x.ret.n, .slice A x.args.length c] ∧ x.args.length ≤ c ∧ Kd.C kTy w A x.args.length x.args := by
  obtain ⟨c0, c1, rfl, h0, A, c, rfl, h1, h2⟩ := h
  obtain rfl := kTy_open h0
  exact ⟨A, c, rfl, h1, h2⟩
theorem openPr {H : Type} {enc : TypeId × Value → H} {W : World} {v : Value} {d : DataW H} {p : List MemPlace} {r : Reach} {b : Nat} (hv : Value.okWide Tryd.prog W r b 29 v) (h : DataW.Trod enc Tryd.prog W 0 (fun _ => true) true 29 v d p) (hw : ∀ n ∈ DataW.weights Tryd.prog 29 d, n ≤ reachBytes) : ∃ (x : Pr) (A : Option Addr) (c : Nat), v = .agg #[.int .i64 x.ret.k, .string x.ret.n, .slice A x.args.length c] ∧ x.args.length ≤ c ∧ Kd.C kTy W A x.args.length x.args ∧ gPr x := by
  obtain ⟨t, cs, rfl, hk, hg⟩ := open_agg opnPr (agg_struct Tryd.underlying29 hv) h hw
  obtain ⟨A, c, he, h1, h2⟩ := kPr_open hk
  exact ⟨t, A, c, by rw [toArray_of he], h1, h2, hg⟩
end Go.Proofs.YtcaepnbamnicmaaDoor
