/- The chain: a class, the one above it, and so on. -/
import Derived.Test.YtlihpmhnlooapaaDoorKx
import Derived.Test.YtlihpmhnlooapaaDoorPk
namespace Go.Proofs.YtlihpmhnlooapaaDoor
open Go.RowKit Go.Proofs.YtlihpmhnlooapaaDoorW.PrintWords Go.Maps Go.WideMaps

/-- A set's steps, as the plain law has them. -/
abbrev supF (S : List Int) : Nat → Int := fun i => S.getD i 0
abbrev fsF (F : List (List Int)) : Nat → List Nat := fun i => (F.getD i []).map Int.toNat
abbrev faceF (L : List Cl) : Nat → Bool := fun i => (L.getD i zCl).face
abbrev GoodSet (N : Nat) (L : List Cl) (S : List Int) (F : List (List Int)) : Prop := Link.Good N (supF S) (fsF F) (faceF L)
abbrev ints (l : List Nat) : List Int := l.map (fun (x : Nat) => (x : Int))

theorem chainF_len (sup : Nat → Int) (d : Nat) : ∀ i, (Link.chainF sup d i).length ≤ d := by
  induction d with
  | zero => intro i; simp [Link.chainF]
  | succ d ih =>
    intro i
    simp only [Link.chainF]
    split
    · simp
    · have := ih (sup i.toNat)
      simp; omega
def ChainAt (N : Nat) (sup : Nat → Int) (i : Nat) (pre : List Nat) (k : Int) : Prop := (k = -1 ∧ pre = Link.chainL N sup i) ∨ ∃ j : Nat, k = j ∧ j < N ∧ pre ++ Link.chainL N sup j = Link.chainL N sup i
theorem ChainAt.len {N : Nat} {sup : Nat → Int} {i : Nat} {pre : List Nat} {k : Int} (h : ChainAt N sup i pre k) : pre.length ≤ N + 2 := by
  have hl := chainF_len sup (N + 2) i
  change (Link.chainL N sup i).length ≤ N + 2 at hl
  rcases h with ⟨_, rfl⟩ | ⟨j, _, _, h⟩
  · exact hl
  · rw [← h, List.length_append] at hl
    omega
open Classical in
noncomputable def mkR (N : Nat) (sup : Nat → Int) (fs : Nat → List Nat) (k : Int) : Nat := if k < 0 then 0 else Link.rank N sup fs k.toNat + 1
theorem ChainAt.next {N : Nat} {sup : Nat → Int} {fs : Nat → List Nat} {face : Nat → Bool} (G : Link.Good N sup fs face) {i : Nat} {pre : List Nat} {j : Nat} (h : ChainAt N sup i pre j) : ChainAt N sup i (pre ++ [j]) (sup j) ∧ mkR N sup fs (sup j) < mkR N sup fs j := by
  rcases h with ⟨h, _⟩ | ⟨j', hj, hN, h⟩
  · omega
  · obtain rfl : j = j' := by omega
    by_cases h0 : j = 0
    · subst h0
      rw [G.sup0]
      refine ⟨.inl ⟨rfl, ?_⟩, ?_⟩
      · rw [← h, G.chain_zero]
      · unfold mkR
        simp
    · have hs := G.sup_lt j (by omega) hN
      obtain ⟨u, hu⟩ := Int.eq_ofNat_of_zero_le hs.1
      rw [G.chain_step (by omega) hN, hu, Int.toNat_natCast] at h
      rw [hu]
      refine ⟨.inr ⟨u, rfl, by omega, by rw [← h]; simp⟩, ?_⟩
      have := G.rank_lt hN (j := u) (.inl (by omega))
      unfold mkR
      rw [if_neg (by omega), if_neg (by omega), Int.toNat_natCast, Int.toNat_natCast]
      omega
set_option maxRecDepth 100000 in
set_option maxHeartbeats 8000000 in
theorem chain_any (p g N cap m gs cs gf cf : Nat) (aV : Value) (L : List Cl) (S : List Int) (F : List (List Int)) (w : World) (hV : SV p g N cap m gs cs gf cf aV L S F w) (G : GoodSet N L S F) (i : Nat) (hi : i < N) :
    Calls Tryd.prog 84 #[.pointer (some ⟨p, 0, none⟩), .int .i64 i] w fun e w' => ∃ v, e = .returned v ∧ Below w.heap.size w w' ∧ kI.R 3 w' w.heap.size (fun _ => True) v (ints (Link.chainL N (supF S) i)) := by
  have hNb := hV.big
  have HV := hid hV
  have HG := hid G
  clear hV G
  go_enter Tryd.func84, Tryd.ntmps84
  go_wp2
  go_loopw [1, 4] (fun iV oV wr => ∃ (k : Int) (pre : List Nat), iV = .int .i64 k ∧ Hid (kI.R 3 wr w.heap.size (fun _ => True) oV (ints pre)) ∧ Hid (Below w.heap.size w wr) ∧ Hid (ChainAt N (supF S) i pre k)) (fun iV _ _ => mkR N (supF S) (fsF F) (intOf iV))
  case atStart => exact ⟨_, [], rfl, Kd.R_nil _ _ _ _ _, Below.refl _ _, .inr ⟨i, rfl, hi, rfl⟩⟩
  obtain ⟨k, pre, rfl, HR, HB, HC⟩ := hrel
  by_cases hk : k = -1
  · subst hk
    have HE := hid (show pre = Link.chainL N (supF S) i by
      rcases HC.out with ⟨_, h⟩ | ⟨j, h, _⟩
      · exact h
      · omega)
    go_wp2
    go_ret
    exact ⟨_, rfl, HB.out, by rw [← HE.out]; exact HR.out⟩
  · obtain ⟨j, rfl, hj⟩ : ∃ j : Nat, k = j ∧ j < N := by
      rcases HC.out with ⟨h, _⟩ | ⟨j, h1, h2, _⟩
      · exact absurd h hk
      · exact ⟨j, h1, h2⟩
    have b1 : ((j : Int) != -1) = true := by simp
    have hl := HC.out.len
    have HS := hid (HC.out.next HG.out)
    clear hk
    go_wp2_with (at_builtin; refine Kd.R_append kI w.heap.size rfl (.tmp 14) (.tmp 16) 31 3 _ 8 rfl Tryd.underlying31 infoInt rfl (by decide) (by decide) _ (ints pre) (j : Int) [.int .i64 (j : Int)] (fun _ => True) (fun _ => False) rfl rfl rfl (fun _ h => h.elim) (fun _ _ => trivial) HR.out HB.out HB.out.size (by simp; omega) ?_; intro v1 w1 hR1 hB1 _ _; have c2 := blk_cell (HV.out.step hB1).blk 2; have d0 := (HV.out.step hB1).supAt j hj)
    have HR1 : Hid (kI.R 3 w1 w.heap.size (fun _ => True) v1 (ints (pre ++ [j]))) := by
      have : ints (pre ++ [j]) = ints pre ++ [(j : Int)] := by simp [ints]
      rw [this]; exact hR1
    have HB1 := hid hB1
    clear hR1 hB1
    go_roundw
    case rel => exact ⟨_, pre ++ [j], rfl, HR1, HB1, HS.out.1⟩
    case measure => exact HS.out.2
end Go.Proofs.YtlihpmhnlooapaaDoor
