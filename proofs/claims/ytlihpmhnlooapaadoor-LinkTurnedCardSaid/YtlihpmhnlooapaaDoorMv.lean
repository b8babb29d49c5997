/- Classes handed in, the other way round. -/
import Derived.Test.YtlihpmhnlooapaaDoorMr
namespace Go.Proofs.YtlihpmhnlooapaaDoor
open Go.RowKit Go.Proofs.YtlihpmhnlooapaaDoorW.PrintWords Go.Maps Go.WideMaps

/-- An element as its seven cells, whatever its rows. -/
def kEl : Kd El := Kd.iso (Kd.pair kRaw (Kd.pair Kd.string (Kd.pair Kd.string (Kd.pair Kd.bool (Kd.pair kRaw (Kd.pair kRaw kRaw)))))) (fun e => (e.p, e.n, e.s, e.b, e.f, e.l, e.m))
theorem kEl_open {w : World} {e : El} {cs : List Value} (h : kEl.K w e cs) : cs = e.cells := by
  obtain ⟨_, _, rfl, rfl, _, _, rfl, rfl, _, _, rfl, rfl, _, _, rfl, rfl, _, _, rfl, rfl, _, _, rfl, rfl, rfl⟩ := h
  rfl
theorem kEl_K (w : World) (e : El) : kEl.K w e e.cells :=
  ⟨[_], _, rfl, rfl, [_], _, rfl, rfl, [_], _, rfl, rfl, [_], _, rfl, rfl, [_], _, rfl, rfl, [_], [_], rfl, rfl, rfl⟩
theorem kEl_M (w : World) (base : Nat) (ok : Nat → Prop) (e : El) : kEl.M w base ok e e.cells :=
  ⟨[_], _, rfl, rfl, [_], _, rfl, rfl, [_], _, rfl, rfl, [_], _, rfl, rfl, [_], _, rfl, rfl, [_], [_], rfl, rfl, rfl⟩
theorem kCl_of {w : World} {e : El} {x : Cl} (h : ElCl w e x) : kCl.K w x e.cells := by
  have hf : e.f = ⟨e.f.a, x.faces.length, e.f.c⟩ := by
    have := h.fn
    cases e with
    | mk p n s b f l m => cases f with | mk a n c => simp at this; subst this; rfl
  have := kCl_mk w x e.f.a e.f.c h.fc h.fC
  rw [← h.p, ← h.n, ← h.s, ← h.b, ← h.l, ← h.m] at this
  unfold El.cells
  rw [hf]
  exact this
theorem C_of_els {w : World} {A : Option Addr} {n : Nat} {P : List (El × Cl)} (h : kEl.C w A n (P.map (·.1))) (hP : ∀ z ∈ P, ElCl w z.1 z.2) : kCl.C w A n (P.map (·.2)) := by
  obtain ⟨h1, h2, h3⟩ := h
  refine ⟨by rw [List.length_map] at h1 ⊢; exact h1, h2, fun h0 => ?_⟩
  obtain ⟨ad, e, h4⟩ := h3 h0
  refine ⟨ad, e, fun j p hp => ?_⟩
  rw [List.getElem?_map] at hp
  cases hz : P[j]? with
  | none => rw [hz] at hp; cases hp
  | some z =>
    rw [hz] at hp
    cases hp
    obtain ⟨c, hc, hk, h5⟩ := h4 j z.1 (by rw [List.getElem?_map, hz]; rfl)
    obtain rfl := kEl_open hk
    exact ⟨_, rfl, kCl_of (hP z (List.mem_of_getElem? hz)), h5⟩
set_option maxRecDepth 100000 in
set_option maxHeartbeats 4000000 in
theorem len_nil (w : World) : Calls Tryd.prog 18 #[.pointer none] w fun e w' => e = .returned (.int .i64 0) ∧ w' = w := by
  go_enter Tryd.func18, Tryd.ntmps18
  go_wp2
  go_ret
  exact ⟨rfl, rfl⟩
theorem nodup_of_pairs {l : List Cl} (h : ∀ i k, k < i → i < l.length → (l.getD i zCl).name ≠ (l.getD k zCl).name) : (l.map (·.name)).Nodup := by
  rw [List.Nodup, List.pairwise_map, List.pairwise_iff_getElem]
  intro k i hk hi hki e
  have := h i k hki hi
  rw [List.getD_eq_getElem?_getD, List.getD_eq_getElem?_getD, List.getElem?_eq_getElem hi, List.getElem?_eq_getElem hk] at this
  exact this e.symm
theorem heads_nodup {l : List Cl} (h : (l.map (·.name)).Nodup) : ((l.map headOf).map (·.name)).Nodup := by
  rw [List.map_map]
  exact h
/-- The same classes in another order: the same answer. -/
theorem turn_same {l : List Cl} (hn : (l.map (·.name)).Nodup) {r r' : List Cl} (h : Srtd r (l.map headOf)) (h' : Srtd r' (l.reverse.map headOf)) : r' = r :=
  (srtd_unique ((List.reverse_perm l).symm.map headOf) (heads_nodup hn) h h').symm
/-- What New answers of heads, in full. -/
theorem lawNew2 (l : List Cl) (n : Nat) (hn : l.length = n) (hbig : n ≤ 1034834473171) (hok : ∀ x ∈ l, clOk x) (A : Option Addr) (c : Nat) (W : World) (hBi : Bi W) (hC : kCl.C W A n (l.map headOf)) : Calls Tryd.prog 14 #[.slice A n c] W fun e w' =>
    Below W.heap.size W w' ∧ ((64 < n ∧ e = .returned (.tuple #[.pointer none, .string ⟨#[]⟩, .int .i64 5])) ∨ (¬ 64 < n ∧ ∃ r, Srtd r (l.map headOf) ∧
      ((∃ s x, newErr (builtL ++ r) = some (s, x) ∧ e = .returned (.tuple #[.pointer none, .string s, .int .i64 x])) ∨ ∃ p, newErr (builtL ++ r) = none ∧ e = .returned (.tuple #[.pointer (some ⟨p, 0, none⟩), .string ⟨#[]⟩, .int .i64 0]) ∧ IsSet W.heap.size p (builtL ++ r) w'))) := by
  have hl : (l.map headOf).length = n := by rw [List.length_map, hn]
  rw [← hl] at hC ⊢
  refine (new_any A c (l.map headOf) W hBi hC (by omega) (fun x hx => by
    obtain ⟨y, hy, rfl⟩ := List.mem_map.1 hx
    exact headOf_ok (hok y hy))).mono ?_
  rintro e w' ⟨hB, h⟩
  refine ⟨hB, ?_⟩
  split at h
  · rename_i h64
    exact .inl ⟨h64, h⟩
  · rename_i h64
    obtain ⟨r, hs, h⟩ := h
    refine .inr ⟨h64, r, hs, ?_⟩
    split at h
    · rename_i s x he
      exact .inl ⟨s, x, he, h⟩
    · rename_i he
      obtain ⟨p, h1, h2⟩ := h
      exact .inr ⟨p, he, h1, h2⟩
end Go.Proofs.YtlihpmhnlooapaaDoor
