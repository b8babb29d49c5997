/- Rings: whether a class stands below itself. -/
import Derived.Test.YtlihpmhnlooapaaDoorKw
import Derived.Laws.EntriesVeiled
namespace Go.Proofs.YtlihpmhnlooapaaDoor
open Go.RowKit Go.Proofs.YtlihpmhnlooapaaDoorW.PrintWords Go.Maps Go.WideMaps

theorem climb_all (p g N cap m gs cs gf cf : Nat) (aV : Value) (L : List Cl) (S : List Int) (F : List (List Int)) (w0 : World) (hV : SV p g N cap m gs cs gf cf aV L S F w0) (i b1 b2 b3 b4 gq cq : Nat) (tl : List Value) (n : Nat) :
    ClimbAll S F w0 p i b1 b2 b3 b4 gq N cq tl n := by
  induction n using Nat.strongRecOn with
  | _ n ih => exact climb_step p g N cap m gs cs gf cf aV L S F w0 hV i b1 b2 b3 b4 gq cq tl n ih
set_option maxRecDepth 100000 in
theorem mk_bools (N : Nat) (hN : N ≤ 72) (W : World) : (Instr.makeSlice 85 (.int .i64 (N : Int)) (.int .i64 (N : Int))).run Tryd.prog W = .ok (.slice (some ⟨W.heap.size, 0, none⟩) N N) (W.alloc (.cells (List.replicate N (.bool false)).toArray 4)) := by
  obtain ⟨i0, hi, hzz⟩ := Option.map_eq_some_iff.1 (show (Tryd.prog.info? 4).map (fun i => (i.zero, i.size, i.bytes)) = some (some (.bool false), 1, 1) by rfl)
  simp only [Prod.mk.injEq] at hzz
  obtain ⟨hz0, hz1, hz2⟩ := hzz
  have hr := run_make (P := Tryd.prog) W 85 4 i0 (.bool false) (by exact Tryd.underlying85) hi hz0 .i64 .i64 (N : Int) (N : Int) (by omega) (by omega) (by rw [hz2]; omega) (by omega)
  simp only [Int.toNat_natCast] at hr
  rw [hz1, Nat.mul_one] at hr
  rw [hr]
  have : madeCells (Value.bool false).cells N = (List.replicate N (.bool false)).toArray := by
    apply Array.toList_inj.1
    rw [show (Value.bool false).cells = #[.bool false] from rfl, toList_madeCells_one]
  rw [this]
set_option maxRecDepth 100000 in
set_option maxHeartbeats 8000000 in
theorem ring_any (p g N cap m gs cs gf cf : Nat) (aV : Value) (L : List Cl) (S : List Int) (F : List (List Int)) (w : World) (hV : SV p g N cap m gs cs gf cf aV L S F w) (i : Nat) (hi : i < N) :
    Calls Tryd.prog 71 #[.pointer (some ⟨p, 0, none⟩), .int .i64 i] w fun e w' => ∃ b : Bool, e = .returned (.bool b) ∧ Below w.heap.size w w' ∧ (b = true ↔ Rch S F i i) := by
  have hNb := hV.big
  have c0 := blk_cell hV.blk 0
  have zp := blk_lt hV.blk
  have HV := hid hV
  have hmk := mk_bools N hNb
  clear hV
  go_enter Tryd.func71, Tryd.ntmps71
  go_upto_region 4 with fail
  have k1 := blk_alloc (blk_alloc (blk_alloc (blk_alloc (blk_new w (.cells #[.pointer (some ⟨p, 0, none⟩)] 23)) (.cells #[.int .i64 i] 3)) (.cells (Array.replicate N (.bool false)) 4)) (.cells #[.slice (some ⟨w.heap.size + 1 + 1, 0, none⟩) N N] 85)) (.cells #[.func (.func 113) #[] #[.pointer (some ⟨w.heap.size, 0, none⟩), .pointer (some ⟨w.heap.size + 1, 0, none⟩), .pointer (some ⟨w.heap.size + 1 + 1 + 1, 0, none⟩), .pointer (some ⟨w.heap.size + 1 + 1 + 1 + 1, 0, none⟩)]] 54)
  have k2 := blk_alloc (blk_alloc (blk_alloc (blk_new (w.alloc (.cells #[.pointer (some ⟨p, 0, none⟩)] 23)) (.cells #[.int .i64 i] 3)) (.cells (Array.replicate N (.bool false)) 4)) (.cells #[.slice (some ⟨w.heap.size + 1 + 1, 0, none⟩) N N] 85)) (.cells #[.func (.func 113) #[] #[.pointer (some ⟨w.heap.size, 0, none⟩), .pointer (some ⟨w.heap.size + 1, 0, none⟩), .pointer (some ⟨w.heap.size + 1 + 1 + 1, 0, none⟩), .pointer (some ⟨w.heap.size + 1 + 1 + 1 + 1, 0, none⟩)]] 54)
  have k3 := blk_alloc (blk_alloc (blk_new ((w.alloc (.cells #[.pointer (some ⟨p, 0, none⟩)] 23)).alloc (.cells #[.int .i64 i] 3)) (.cells (Array.replicate N (.bool false)) 4)) (.cells #[.slice (some ⟨w.heap.size + 1 + 1, 0, none⟩) N N] 85)) (.cells #[.func (.func 113) #[] #[.pointer (some ⟨w.heap.size, 0, none⟩), .pointer (some ⟨w.heap.size + 1, 0, none⟩), .pointer (some ⟨w.heap.size + 1 + 1 + 1, 0, none⟩), .pointer (some ⟨w.heap.size + 1 + 1 + 1 + 1, 0, none⟩)]] 54)
  have k4 := blk_alloc (blk_new (((w.alloc (.cells #[.pointer (some ⟨p, 0, none⟩)] 23)).alloc (.cells #[.int .i64 i] 3)).alloc (.cells (Array.replicate N (.bool false)) 4)) (.cells #[.slice (some ⟨w.heap.size + 1 + 1, 0, none⟩) N N] 85)) (.cells #[.func (.func 113) #[] #[.pointer (some ⟨w.heap.size, 0, none⟩), .pointer (some ⟨w.heap.size + 1, 0, none⟩), .pointer (some ⟨w.heap.size + 1 + 1 + 1, 0, none⟩), .pointer (some ⟨w.heap.size + 1 + 1 + 1 + 1, 0, none⟩)]] 54)
  have k5 := blk_new ((((w.alloc (.cells #[.pointer (some ⟨p, 0, none⟩)] 23)).alloc (.cells #[.int .i64 i] 3)).alloc (.cells (Array.replicate N (.bool false)) 4)).alloc (.cells #[.slice (some ⟨w.heap.size + 1 + 1, 0, none⟩) N N] 85)) (.cells #[.func (.func 113) #[] #[.pointer (some ⟨w.heap.size, 0, none⟩), .pointer (some ⟨w.heap.size + 1, 0, none⟩), .pointer (some ⟨w.heap.size + 1 + 1 + 1, 0, none⟩), .pointer (some ⟨w.heap.size + 1 + 1 + 1 + 1, 0, none⟩)]] 54)
  have hB := below_alloc (below_alloc (below_alloc (below_alloc (below_alloc (Below.refl w.heap.size w) (.cells #[.pointer (some ⟨p, 0, none⟩)] 23)) (.cells #[.int .i64 i] 3)) (.cells (Array.replicate N (.bool false)) 4)) (.cells #[.slice (some ⟨w.heap.size + 1 + 1, 0, none⟩) N N] 85)) (.cells #[.func (.func 113) #[] #[.pointer (some ⟨w.heap.size, 0, none⟩), .pointer (some ⟨w.heap.size + 1, 0, none⟩), .pointer (some ⟨w.heap.size + 1 + 1 + 1, 0, none⟩), .pointer (some ⟨w.heap.size + 1 + 1 + 1 + 1, 0, none⟩)]] 54)
  simp only [World.size_alloc] at k1 k2 k3 k4 k5
  generalize ((((w.alloc (.cells #[.pointer (some ⟨p, 0, none⟩)] 23)).alloc (.cells #[.int .i64 i] 3)).alloc (.cells (Array.replicate N (.bool false)) 4)).alloc (.cells #[.slice (some ⟨w.heap.size + 1 + 1, 0, none⟩) N N] 85)).alloc (.cells #[.func (.func 113) #[] #[.pointer (some ⟨w.heap.size, 0, none⟩), .pointer (some ⟨w.heap.size + 1, 0, none⟩), .pointer (some ⟨w.heap.size + 1 + 1 + 1, 0, none⟩), .pointer (some ⟨w.heap.size + 1 + 1 + 1 + 1, 0, none⟩)]] 54) = W5 at *
  have HRS := hid (show RS w p i w.heap.size (w.heap.size + 1) (w.heap.size + 1 + 1 + 1) (w.heap.size + 1 + 1 + 1 + 1) (w.heap.size + 1 + 1) N N [] (List.replicate N false) W5 from ⟨hB, k1, k2, k4, k5, by rw [List.map_replicate, List.append_nil, List.toArray_replicate]; exact k3, by simp, by omega⟩)
  have d1 := blk_cell k5 0
  have d2 := blk_cell k2 0
  have HIH := hid (climb_all p g N cap m gs cs gf cf aV L S F w HV.out i w.heap.size (w.heap.size + 1) (w.heap.size + 1 + 1 + 1) (w.heap.size + 1 + 1 + 1 + 1) (w.heap.size + 1 + 1) N [] (unseen (List.replicate N false)) i (List.replicate N false) W5 (Nat.le_refl _) HRS.out hi)
  clear k1 k2 k3 k4 k5 hB c0 hmk
  go_wp2_with (go_at_call 113; refine HIH.out.mono ?_; rintro e w' ⟨b, Sn2, rfl, hO, hS2, hK2⟩; have HO := hid hO; have HS2 := hid hS2; clear hO hS2 hK2)
  go_ret
  exact ⟨b, rfl, HS2.out.below, HO.out.ring⟩
end Go.Proofs.YtlihpmhnlooapaaDoor
