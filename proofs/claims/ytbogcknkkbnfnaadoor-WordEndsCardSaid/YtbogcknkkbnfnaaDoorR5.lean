/- Texts laid as one: Mv Na Nb Nc Nd. -/
import Derived.Test.YtbogcknkkbnfnaaDoorR4
/- Classes handed in, the other way round. -/
namespace Go.Proofs.YtbogcknkkbnfnaaDoor
open Go.RowKit Go.Proofs.YtbogcknkkbnfnaaDoorW.PrintWords Go.Maps Go.WideMaps

/-- An element as its seven cells, whatever its rows. -/
def kEl : Kd El := Kd.iso (Kd.pair kRaw (Kd.pair Kd.string (Kd.pair Kd.string (Kd.pair Kd.bool (Kd.pair kRaw (Kd.pair kRaw kRaw)))))) (fun e => (e.p, e.n, e.s, e.b, e.f, e.l, e.m))
theorem kEl_open {w : World} {e : El} {cs : List Value} (h : kEl.K w e cs) : cs = e.cells := by
  obtain ⟨_, _, rfl, rfl, _, _, rfl, rfl, _, _, rfl, rfl, _, _, rfl, rfl, _, _, rfl, rfl, _, _, rfl, rfl, rfl⟩ := h
  rfl
theorem kEl_K (w : World) (e : El) : kEl.K w e e.cells :=
  ⟨[_], _, rfl, rfl, [_], _, rfl, rfl, [_], _, rfl, rfl, [_], _, rfl, rfl, [_], _, rfl, rfl, [_], [_], rfl, rfl, rfl⟩
theorem kEl_M (w : World) (base : Nat) (ok : Nat → Prop) (e : El) : kEl.M w base ok e e.cells :=
  ⟨[_], _, rfl, rfl, [_], _, rfl, rfl, [_], _, rfl, rfl, [_], _, rfl, rfl, [_], _, rfl, rfl, [_], [_], rfl, rfl, rfl⟩
theorem kCl_of {w : World} {e : El} {x : Cl} (h : ElCl w e x) : kCl.K w x e.cells := by
  have hf : e.f = ⟨e.f.a, x.faces.length, e.f.c⟩ := by
    have := h.fn
    cases e with
    | mk p n s b f l m => cases f with | mk a n c => simp at this; subst this; rfl
  have := kCl_mk w x e.f.a e.f.c h.fc h.fC
  rw [← h.p, ← h.n, ← h.s, ← h.b, ← h.l, ← h.m] at this
  unfold El.cells
  rw [hf]
  exact this
theorem C_of_els {w : World} {A : Option Addr} {n : Nat} {P : List (El × Cl)} (h : kEl.C w A n (P.map (·.1))) (hP : ∀ z ∈ P, ElCl w z.1 z.2) : kCl.C w A n (P.map (·.2)) := by
  obtain ⟨h1, h2, h3⟩ := h
  refine ⟨by rw [List.length_map] at h1 ⊢; exact h1, h2, fun h0 => ?_⟩
  obtain ⟨ad, e, h4⟩ := h3 h0
  refine ⟨ad, e, fun j p hp => ?_⟩
  rw [List.getElem?_map] at hp
  cases hz : P[j]? with
  | none => rw [hz] at hp; cases hp
  | some z =>
    rw [hz] at hp
    cases hp
    obtain ⟨c, hc, hk, h5⟩ := h4 j z.1 (by rw [List.getElem?_map, hz]; rfl)
    obtain rfl := kEl_open hk
    exact ⟨_, rfl, kCl_of (hP z (List.mem_of_getElem? hz)), h5⟩
set_option maxRecDepth 100000 in
set_option maxHeartbeats 4000000 in
theorem len_nil (w : World) : Calls Tryd.prog 18 #[.pointer none] w fun e w' => e = .returned (.int .i64 0) ∧ w' = w := by
  go_enter Tryd.func18, Tryd.ntmps18
  go_wp2
  go_ret
  exact ⟨rfl, rfl⟩
theorem nodup_of_pairs {l : List Cl} (h : ∀ i k, k < i → i < l.length → (l.getD i zCl).name ≠ (l.getD k zCl).name) : (l.map (·.name)).Nodup := by
  rw [List.Nodup, List.pairwise_map, List.pairwise_iff_getElem]
  intro k i hk hi hki e
  have := h i k hki hi
  rw [List.getD_eq_getElem?_getD, List.getD_eq_getElem?_getD, List.getElem?_eq_getElem hi, List.getElem?_eq_getElem hk] at this
  exact this e.symm
theorem heads_nodup {l : List Cl} (h : (l.map (·.name)).Nodup) : ((l.map headOf).map (·.name)).Nodup := by
  rw [List.map_map]
  exact h
/-- The same classes in another order: the same answer. -/
theorem turn_same {l : List Cl} (hn : (l.map (·.name)).Nodup) {r r' : List Cl} (h : Srtd r (l.map headOf)) (h' : Srtd r' (l.reverse.map headOf)) : r' = r :=
  (srtd_unique ((List.reverse_perm l).symm.map headOf) (heads_nodup hn) h h').symm
/-- What New answers of heads, in full. -/
theorem lawNew2 (l : List Cl) (n : Nat) (hn : l.length = n) (hbig : n ≤ 1034834473171) (hok : ∀ x ∈ l, clOk x) (A : Option Addr) (c : Nat) (W : World) (hBi : Bi W) (hC : kCl.C W A n (l.map headOf)) : Calls Tryd.prog 41 #[.slice A n c] W fun e w' =>
    Below W.heap.size W w' ∧ ((64 < n ∧ e = .returned (.tuple #[.pointer none, .string ⟨#[]⟩, .int .i64 5])) ∨ (¬ 64 < n ∧ ∃ r, Srtd r (l.map headOf) ∧
      ((∃ s x, newErr (builtL ++ r) = some (s, x) ∧ e = .returned (.tuple #[.pointer none, .string s, .int .i64 x])) ∨ ∃ p, newErr (builtL ++ r) = none ∧ e = .returned (.tuple #[.pointer (some ⟨p, 0, none⟩), .string ⟨#[]⟩, .int .i64 0]) ∧ IsSet W.heap.size p (builtL ++ r) w'))) := by
  have hl : (l.map headOf).length = n := by rw [List.length_map, hn]
  rw [← hl] at hC ⊢
  refine (new_any A c (l.map headOf) W hBi hC (by omega) (fun x hx => by
    obtain ⟨y, hy, rfl⟩ := List.mem_map.1 hx
    exact headOf_ok (hok y hy))).mono ?_
  rintro e w' ⟨hB, h⟩
  refine ⟨hB, ?_⟩
  split at h
  · rename_i h64
    exact .inl ⟨h64, h⟩
  · rename_i h64
    obtain ⟨r, hs, h⟩ := h
    refine .inr ⟨h64, r, hs, ?_⟩
    split at h
    · rename_i s x he
      exact .inl ⟨s, x, he, h⟩
    · rename_i he
      obtain ⟨p, h1, h2⟩ := h
      exact .inr ⟨p, he, h1, h2⟩
end Go.Proofs.YtbogcknkkbnfnaaDoor

/- Sorting by insertion; what New answers hangs on the heads alone, and on no order. -/
namespace Go.Proofs.YtbogcknkkbnfnaaDoor
open Go.RowKit Go.Proofs.YtbogcknkkbnfnaaDoorW.PrintWords Go.Maps Go.WideMaps

theorem less_asymm {a b : ByteArray} (h : less a b = true) : less b a = false := by
  cases e : less b a with
  | false => rfl
  | true =>
    have := less_trans a.toList b.toList a.toList h e
    rw [less_irrefl] at this
    cases this
/-- Pairs of an element and its class, by rising names. -/
def SrtdE (R : List (El × Cl)) : Prop := R.Pairwise (fun x y => less y.2.name x.2.name = false)
theorem ins_sorted {x : El × Cl} {R : List (El × Cl)} (h : SrtdE R) {q : Nat} (h1 : ∀ y ∈ R.take q, less x.2.name y.2.name = false) (h2 : ∀ y, R[q]? = some y → less x.2.name y.2.name = true) : SrtdE (R.take q ++ x :: R.drop q) := by
  unfold SrtdE at h ⊢
  have h0 := h
  rw [← List.take_append_drop q R, List.pairwise_append] at h
  obtain ⟨ha, hb, hc⟩ := h
  have hd : ∀ y ∈ R.drop q, less y.2.name x.2.name = false := by
    intro y hy
    by_cases hq : q < R.length
    · rw [List.drop_eq_getElem_cons hq] at hy hb
      have h3 := h2 _ (List.getElem?_eq_getElem hq)
      rcases List.mem_cons.1 hy with rfl | hy
      · exact less_asymm h3
      · have h4 := (List.pairwise_cons.1 hb).1 y hy
        cases e : less y.2.name x.2.name with
        | false => rfl
        | true =>
          have := less_trans _ _ _ e h3
          rw [show Op.bytesLess _ _ = false from h4] at this
          cases this
    · rw [List.drop_of_length_le (by omega)] at hy
      cases hy
  rw [List.pairwise_append]
  refine ⟨ha, List.pairwise_cons.2 ⟨hd, hb⟩, fun a haa b hbb => ?_⟩
  rcases List.mem_cons.1 hbb with rfl | hbb
  · exact h1 a haa
  · exact hc a haa b hbb
theorem ins_perm {x : El × Cl} {R : List (El × Cl)} (q : Nat) : (R.take q ++ x :: R.drop q).Perm (x :: R) := by
  have := List.perm_middle (a := x) (l₁ := R.take q) (l₂ := R.drop q)
  rw [List.take_append_drop] at this
  exact this
theorem nm_eq_of {l l' : List ByteArray} (hp : l.Perm l') (h : l.Pairwise (fun x y => less y x = false)) (h' : l'.Pairwise (fun x y => less y x = false)) : l = l' :=
  List.Perm.eq_of_pairwise (le := fun x y : ByteArray => less y x = false) (fun _ _ _ _ h1 h2 => nm_of_less h2 h1) h h' hp
theorem names_same {r r' l : List Cl} (h : Srtd r l) (h' : Srtd r' l) : r.map (·.name) = r'.map (·.name) := by
  refine nm_eq_of ((h.1.trans h'.1.symm).map _) ?_ ?_
  · rw [List.pairwise_map]; exact h.2
  · rw [List.pairwise_map]; exact h'.2
theorem numOf_names (L : List Cl) (s : ByteArray) : numOf L s = (L.map (·.name)).findIdx? (fun n => nmEq n s) := by
  unfold numOf
  rw [List.findIdx?_map]
  rfl
theorem numOf_same {L L' : List Cl} (h : L.map (·.name) = L'.map (·.name)) (s : ByteArray) : numOf L s = numOf L' s := by
  rw [numOf_names, numOf_names, h]
theorem nameD_same {L L' : List Cl} (h : L.map (·.name) = L'.map (·.name)) (k : Nat) : (L.getD k zCl).name = (L'.getD k zCl).name := by
  have e : ∀ M : List Cl, (M.getD k zCl).name = (M.map (·.name)).getD k zCl.name := by
    intro M
    simp only [List.getD, List.getElem?_map]
    cases M[k]? <;> rfl
  rw [e, e, h]
theorem dupErr_same {L L' : List Cl} (h : L.map (·.name) = L'.map (·.name)) : dupErr L = dupErr L' := by
  have hl : L.length = L'.length := by rw [← List.length_map (·.name), h, List.length_map]
  have hd : dupAt L = dupAt L' := by
    funext k
    unfold dupAt
    rw [nameD_same h, numOf_same (L := L.take k) (L' := L'.take k) (by rw [List.map_take, List.map_take, h])]
  unfold dupErr
  rw [hd, hl]
  congr 1
  funext k
  exact nameD_same h k
theorem firstI_all {p : Nat → Bool} {n : Nat} (h : firstI p n = none) : ∀ j, j < n → p j = false := by
  unfold firstI at h
  rw [List.find?_range_eq_none] at h
  intro j hj
  have := h j hj
  simpa using this
theorem nodup_of_dup {L : List Cl} (h : dupErr L = none) : (L.map (·.name)).Nodup := by
  unfold dupErr at h
  rw [Option.map_eq_none_iff] at h
  refine nodup_of_pairs (fun i k hki hi => ?_)
  have h1 := firstI_all h i hi
  unfold dupAt at h1
  have h2 : numOf (L.take i) (L.getD i zCl).name = none := by
    cases e : numOf (L.take i) (L.getD i zCl).name with
    | none => rfl
    | some j => rw [e] at h1; cases h1
  have h3 := numOf_none.1 h2 (L.getD k zCl) (List.mem_take_iff_getElem.2 ⟨k, by omega, by simp [List.getD, show k < L.length by omega]⟩)
  exact fun e => h3 e.symm
/-- Of the same classes New answers one thing. -/
theorem newErr_unique {r r' l : List Cl} (h : Srtd r l) (h' : Srtd r' l) : newErr (builtL ++ r) = newErr (builtL ++ r') ∧ (dupErr (builtL ++ r) = none → r = r') := by
  have hn : (builtL ++ r).map (·.name) = (builtL ++ r').map (·.name) := by rw [List.map_append, List.map_append, names_same h h']
  have key : dupErr (builtL ++ r) = none → r = r' := fun hd => by
    have := nodup_of_dup hd
    rw [List.map_append, List.nodup_append] at this
    have hl : (l.map (·.name)).Nodup := (h.1.map _).nodup_iff.1 this.2.1
    exact srtd_unique (.refl _) hl h h'
  refine ⟨?_, key⟩
  cases hd : dupErr (builtL ++ r) with
  | some s =>
    have hd' := dupErr_same hn
    rw [hd] at hd'
    unfold newErr
    rw [hd, ← hd']
  | none => rw [key hd]
/-! Heads. -/
theorem headsD (L : List Cl) (k : Nat) : (L.map headOf).getD k zCl = headOf (L.getD k zCl) := by
  simp only [List.getD, List.getElem?_map]
  cases L[k]? <;> rfl
theorem heads_names (L : List Cl) : (L.map headOf).map (·.name) = L.map (·.name) := by rw [List.map_map]; rfl
theorem numOf_heads (L : List Cl) (s : ByteArray) : numOf (L.map headOf) s = numOf L s := numOf_same (heads_names L) s
theorem numI_heads (L : List Cl) : numI (L.map headOf) = numI L := by funext s; unfold numI; rw [numOf_heads]
theorem supsL_heads (L : List Cl) (k : Nat) : supsL (L.map headOf) k = supsL L k := by
  unfold supsL
  refine List.map_congr_left (fun j _ => ?_)
  unfold supI
  rw [numI_heads, headsD]
  rfl
theorem facesL_heads (L : List Cl) (k : Nat) : facesL (L.map headOf) k = facesL L k := by
  unfold facesL
  refine List.map_congr_left (fun j _ => ?_)
  unfold fsI
  rw [numI_heads, headsD]
  rfl
theorem faceAt_heads (L : List Cl) : faceAt (L.map headOf) = faceAt L := by
  funext k
  unfold faceAt
  rw [headsD]
  rfl
theorem joinErr_heads (L : List Cl) : joinErr (L.map headOf) = joinErr L := by
  unfold joinErr
  rw [List.length_map]
  congr 1
  funext k
  unfold joinBad faceBad
  simp only [numOf_heads, headsD]
  rfl
theorem firstNo_heads (L : List Cl) (P : Nat → Bool) : firstNo (L.map headOf) P = firstNo L P := by
  unfold firstNo
  rw [List.length_map]
  congr 1
  funext k
  rw [headsD]
  rfl
theorem newErr_heads (L : List Cl) : newErr (L.map headOf) = newErr L := by
  have h1 : upFit (L.map headOf) = upFit L := by
    funext S i
    unfold upFit
    simp only [faceAt_heads, headsD]
    rfl
  have h2 : facesP (L.map headOf) = facesP L := by
    funext F i
    unfold facesP faceFit faceBadAt
    simp only [faceAt_heads]
  unfold newErr
  rw [dupErr_same (heads_names L), joinErr_heads, List.length_map, supsL_heads, facesL_heads, firstNo_heads, firstNo_heads, firstNo_heads, h1, h2]
theorem builtL_heads : builtL.map headOf = builtL := rfl
theorem built_heads (r : List Cl) : builtL ++ r.map headOf = (builtL ++ r).map headOf := by rw [List.map_append, builtL_heads]
theorem srtd_heads {r l : List Cl} (h : Srtd r l) : Srtd (r.map headOf) (l.map headOf) :=
  ⟨h.1.map _, by rw [List.pairwise_map]; exact h.2⟩
/-- What link's New and the document's answer, of heads and of the classes. -/
theorem news_same {r r' l : List Cl} (h : Srtd r (l.map headOf)) (h' : Srtd r' l) : newErr (builtL ++ r) = newErr (builtL ++ r') ∧ (newErr (builtL ++ r') = none → builtL ++ r = (builtL ++ r').map headOf) := by
  obtain ⟨h1, h2⟩ := newErr_unique h (srtd_heads h')
  rw [built_heads, newErr_heads] at h1
  refine ⟨h1, fun hn => ?_⟩
  rw [← built_heads, ← h2]
  rw [← h1] at hn
  unfold newErr at hn
  cases hd : dupErr (builtL ++ r) with
  | none => rfl
  | some s => rw [hd] at hn; cases hn
theorem aboveOf_heads (L : List Cl) (i : Nat) : aboveOf (L.map headOf) i = aboveOf L i := by
  unfold aboveOf
  rw [List.length_map, supsL_heads, facesL_heads]
theorem commonOf_heads (L : List Cl) (a b : Nat) : commonOf (L.map headOf) a b = commonOf L a b := by
  unfold commonOf
  rw [List.length_map, supsL_heads]
end Go.Proofs.YtbogcknkkbnfnaaDoor

/- The document's rings, in plain words: rounds that spread from class to class. -/
namespace Go.Proofs.YtbogcknkkbnfnaaDoor
open Go.RowKit Go.Proofs.YtbogcknkkbnfnaaDoorW.PrintWords Go.Maps Go.WideMaps

theorem count_mono : ∀ (b b' : List Bool), b.length = b'.length → (∀ j, b.getD j false = true → b'.getD j false = true) → b.count true ≤ b'.count true ∧ (b.count true = b'.count true → b = b') := by
  intro b
  induction b with
  | nil =>
    intro b' hl _
    cases b' with
    | nil => exact ⟨Nat.le_refl _, fun _ => rfl⟩
    | cons y b' => simp at hl
  | cons x b ih =>
    intro b' hl h
    cases b' with
    | nil => simp at hl
    | cons y b' =>
      have h0 := h 0
      obtain ⟨h1, h2⟩ := ih b' (by simpa using hl) (fun j hj => by simpa using h (j + 1) (by simpa using hj))
      cases x <;> cases y
      · simp only [List.count_cons]
        exact ⟨by simpa using h1, fun e => by rw [h2 (by simpa using e)]⟩
      · simp only [List.count_cons]
        refine ⟨by simp; omega, fun e => ?_⟩
        simp at e
        omega
      · simp at h0
      · simp only [List.count_cons]
        exact ⟨by simpa using h1, fun e => by rw [h2 (by simpa using e)]⟩
theorem getD_setT {b : List Bool} {u : Nat} (hu : u < b.length) (j : Nat) : (b.set u true).getD j false = true ↔ j = u ∨ b.getD j false = true := by
  simp only [List.getD, List.getElem?_set]
  by_cases h : u = j
  · subst h
    simp [hu]
  · simp [h, show j ≠ u from fun e => h e.symm]
def Shut (sc : Nat → List Int) (b : List Bool) : Prop := ∀ v : Nat, b.getD v false = true → ∀ u : Nat, (u : Int) ∈ sc v → b.getD u false = true
/-- Spread from b to b'. -/
structure Spread (sc : Nat → List Int) (b b' : List Bool) : Prop where
  len : b'.length = b.length
  mono : ∀ j, b.getD j false = true → b'.getD j false = true
  least : ∀ C : Nat → Prop, (∀ j, b.getD j false = true → C j) → (∀ v u : Nat, C v → (u : Int) ∈ sc v → C u) → ∀ j, b'.getD j false = true → C j
theorem Spread.refl (sc : Nat → List Int) (b : List Bool) : Spread sc b b := ⟨rfl, fun _ h => h, fun _ h _ => h⟩
theorem Spread.put {sc : Nat → List Int} {b b' : List Bool} (h : Spread sc b b') {v u : Nat} (hv : b'.getD v false = true) (hu : (u : Int) ∈ sc v) (hl : u < b.length) : Spread sc b (b'.set u true) := by
  have hl' : u < b'.length := by rw [h.len]; exact hl
  refine ⟨by rw [List.length_set, h.len], fun j hj => (getD_setT hl' j).2 (.inr (h.mono j hj)), fun C h0 h1 j hj => ?_⟩
  rcases (getD_setT hl' j).1 hj with rfl | hj
  · exact h1 v j (h.least C h0 h1 v hv) hu
  · exact h.least C h0 h1 j hj
/-- A round, k classes far: those at b have spread. -/
structure RoundAt (sc : Nat → List Int) (b b' : List Bool) (k : Nat) : Prop where
  sp : Spread sc b b'
  done : ∀ v, v < k → b.getD v false = true → ∀ u : Nat, (u : Int) ∈ sc v → b'.getD u false = true
theorem RoundAt.start (sc : Nat → List Int) (b : List Bool) : RoundAt sc b b 0 := ⟨.refl _ _, fun v hv => by omega⟩
theorem RoundAt.skip {sc : Nat → List Int} {b b' : List Bool} {k : Nat} (h : RoundAt sc b b' k) (hk : b'.getD k false = false) : RoundAt sc b b' (k + 1) :=
  ⟨h.sp, fun v hv hb => by
    by_cases e : v = k
    · subst e
      rw [h.sp.mono v hb] at hk
      cases hk
    · exact h.done v (by omega) hb⟩
/-- Within class k: q of its steps up are set. -/
structure SetAt (sc : Nat → List Int) (b b' : List Bool) (k q : Nat) : Prop where
  rd : RoundAt sc b b' k
  on : b'.getD k false = true
  set : ∀ u : Nat, (u : Int) ∈ (sc k).take q → b'.getD u false = true
theorem SetAt.start {sc : Nat → List Int} {b b' : List Bool} {k : Nat} (h : RoundAt sc b b' k) (hk : b'.getD k false = true) : SetAt sc b b' k 0 := ⟨h, hk, fun u hu => by simp at hu⟩
theorem SetAt.next {sc : Nat → List Int} {b b' : List Bool} {k q u : Nat} (h : SetAt sc b b' k q) (hq : (sc k)[q]? = some (u : Int)) (hl : u < b.length) : SetAt sc b (b'.set u true) k (q + 1) := by
  have hl' : u < b'.length := by rw [h.rd.sp.len]; exact hl
  have hm : ∀ j, b'.getD j false = true → (b'.set u true).getD j false = true := fun j hj => (getD_setT hl' j).2 (.inr hj)
  refine ⟨⟨h.rd.sp.put h.on (List.mem_of_getElem? hq) hl, fun v hv hb x hx => hm _ (h.rd.done v hv hb x hx)⟩, hm _ h.on, fun x hx => ?_⟩
  rw [List.take_add_one, hq, List.mem_append] at hx
  rcases hx with hx | hx
  · exact hm _ (h.set x hx)
  · have : x = u := by simp at hx; omega
    exact (getD_setT hl' x).2 (.inl this)
theorem SetAt.done {sc : Nat → List Int} {b b' : List Bool} {k : Nat} (h : SetAt sc b b' k (sc k).length) : RoundAt sc b b' (k + 1) :=
  ⟨h.rd.sp, fun v hv hb => by
    by_cases e : v = k
    · subst e
      intro u hu
      exact h.set u (by rw [List.take_length]; exact hu)
    · exact h.rd.done v (by omega) hb⟩
/-- n rounds. -/
structure RingAt (sc : Nat → List Int) (b0 b : List Bool) (n : Nat) : Prop where
  sp : Spread sc b0 b
  grow : Shut sc b ∨ n ≤ b.count true
theorem RingAt.next {sc : Nat → List Int} {b0 b b' : List Bool} {n : Nat} (h : RingAt sc b0 b n) (r : RoundAt sc b b' b.length) : RingAt sc b0 b' (n + 1) := by
  refine ⟨⟨by rw [r.sp.len, h.sp.len], fun j hj => r.sp.mono j (h.sp.mono j hj), fun C h0 h1 => r.sp.least C (h.sp.least C h0 h1) h1⟩, ?_⟩
  obtain ⟨c1, c2⟩ := count_mono b b' r.sp.len.symm r.sp.mono
  by_cases e : b.count true = b'.count true
  · obtain rfl := c2 e
    refine .inl (fun v hv u hu => r.done v ?_ hv u hu)
    cases Nat.lt_or_ge v b.length with
    | inl h => exact h
    | inr hge =>
      simp [List.getD, List.getElem?_eq_none hge] at hv
  · rcases h.grow with hs | hn
    · obtain ⟨d1, d2⟩ := count_mono b' b r.sp.len (fun j hj => r.sp.least (fun j => b.getD j false = true) (fun _ h => h) (fun v u hv hu => hs v hv u hu) j hj)
      omega
    · exact .inr (by omega)
theorem all_true : ∀ b : List Bool, b.length ≤ b.count true → ∀ j, j < b.length → b.getD j false = true := by
  intro b
  induction b with
  | nil => intro _ j hj; simp at hj
  | cons x b ih =>
    intro h j hj
    have hc : b.count true ≤ b.length := List.count_le_length
    cases x with
    | false =>
      simp at h
      omega
    | true =>
      cases j with
      | zero => rfl
      | succ j =>
        simp at h hj
        simpa using ih h j hj
theorem RingAt.shut {sc : Nat → List Int} {b0 b : List Bool} (h : RingAt sc b0 b b0.length) (hsc : ∀ v, v < b0.length → ∀ u : Nat, (u : Int) ∈ sc v → u < b0.length) : Shut sc b := by
  rcases h.grow with h1 | h1
  · exact h1
  · intro v hv u hu
    have hl := h.sp.len
    have hvl : v < b.length := by
      cases Nat.lt_or_ge v b.length with
      | inl h => exact h
      | inr hge => simp [List.getD, List.getElem?_eq_none hge] at hv
    exact all_true b (by omega) u (by rw [hl]; exact hsc v (by omega) u hu)
/-- Those to which the document's ups leads. -/
def upsI (S : List Int) (F : List (List Int)) (k : Nat) : List Int := if k = 0 then F.getD k [] else succI S F k
theorem upsI_nat {S : List Int} {F : List (List Int)} (h0 : S.getD 0 0 = -1) {k u : Nat} : (u : Int) ∈ upsI S F k ↔ (u : Int) ∈ succI S F k := by
  unfold upsI
  split
  · rename_i h
    subst h
    unfold succI
    rw [h0, List.mem_cons]
    exact ⟨.inr, fun h => h.resolve_left (by omega)⟩
  · rfl
theorem rch_snoc {S : List Int} {F : List (List Int)} {i k u : Nat} (h : Rch S F i k) (hu : (u : Int) ∈ succI S F k) : Rch S F i u := by
  induction h with
  | one h1 => exact .more h1 (.one hu)
  | more h1 _ ih => exact .more h1 (ih hu)
theorem ring_final {S : List Int} {F : List (List Int)} (h0 : S.getD 0 0 = -1) {i : Nat} {b0 b : List Bool} (hb0 : ∀ u : Nat, b0.getD u false = true ↔ (u : Int) ∈ upsI S F i) (h : RingAt (upsI S F) b0 b b0.length) (hsc : ∀ v, v < b0.length → ∀ u : Nat, (u : Int) ∈ upsI S F v → u < b0.length) : b.getD i false = true ↔ Rch S F i i := by
  constructor
  · refine h.sp.least (fun j => Rch S F i j) (fun j hj => .one ((upsI_nat h0).1 ((hb0 j).1 hj))) (fun v u hv hu => rch_snoc hv ((upsI_nat h0).1 hu)) i
  · have hs := h.shut hsc
    have key : ∀ a j, Rch S F a j → b.getD a false = true → b.getD j false = true := by
      intro a j hr
      induction hr with
      | one hu => intro ha; exact hs _ ha _ ((upsI_nat h0).2 hu)
      | more hu _ ih => intro ha; exact ih (hs _ ha _ ((upsI_nat h0).2 hu))
    intro hr
    cases hr with
    | one hu => exact h.sp.mono _ ((hb0 _).2 ((upsI_nat h0).2 hu))
    | more hu hr => exact key _ _ hr (h.sp.mono _ ((hb0 _).2 ((upsI_nat h0).2 hu)))
end Go.Proofs.YtbogcknkkbnfnaaDoor

/- What the document's New asks, against what newErr says. -/
namespace Go.Proofs.YtbogcknkkbnfnaaDoor
open Go.RowKit Go.Proofs.YtbogcknkkbnfnaaDoorW.PrintWords Go.Maps Go.WideMaps

/-- Those that are built in, as the document has them. -/
def refCl (j : Nat) : Cl := ⟨zSl, bn j, if j = 0 then ⟨#[]⟩ else if j = 1 then bn 0 else bn 1, false, [], zSl, zSl⟩
def refB : List Cl := (List.range 8).map refCl
theorem refB_len : refB.length = 8 := by simp [refB]
theorem refB_names : refB.map (·.name) = builtL.map (·.name) := by
  unfold refB builtL
  rw [List.map_map, List.map_map]
  rfl
theorem ref_names (r : List Cl) : (refB ++ r).map (·.name) = (builtL ++ r).map (·.name) := by rw [List.map_append, List.map_append, refB_names]
theorem ref_len (r : List Cl) : (refB ++ r).length = (builtL ++ r).length := by rw [List.length_append, List.length_append, refB_len, builtL_len]
theorem refB_at {i : Nat} (h0 : 0 < i) (h8 : i < 8) : refB.getD i zCl = builtL.getD i zCl := by
  unfold refB builtL
  rw [getD_range _ _ _ _ h8, getD_range _ _ _ _ h8]
  unfold refCl biCl
  rw [if_neg (by omega)]
  by_cases h1 : i = 1
  · rw [if_pos h1, if_pos (by omega)]
  · rw [if_neg h1, if_neg (by omega)]
theorem ref_at (r : List Cl) {i : Nat} (h0 : 0 < i) : (refB ++ r).getD i zCl = (builtL ++ r).getD i zCl := by
  by_cases h8 : i < 8
  · have e1 : (refB ++ r).getD i zCl = refB.getD i zCl := by simp only [List.getD]; rw [List.getElem?_append_left (by rw [refB_len]; exact h8)]
    have e2 : (builtL ++ r).getD i zCl = builtL.getD i zCl := by simp only [List.getD]; rw [List.getElem?_append_left (by rw [builtL_len]; exact h8)]
    rw [e1, e2, refB_at h0 h8]
  · have e1 : (refB ++ r).getD i zCl = r.getD (i - 8) zCl := by simp only [List.getD]; rw [List.getElem?_append_right (by rw [refB_len]; omega), refB_len]
    have e2 : (builtL ++ r).getD i zCl = r.getD (i - 8) zCl := by simp only [List.getD]; rw [List.getElem?_append_right (by rw [builtL_len]; omega), builtL_len]
    rw [e1, e2]
theorem ref_faces (r : List Cl) (i : Nat) : ((refB ++ r).getD i zCl).faces = ((builtL ++ r).getD i zCl).faces ∧ ((refB ++ r).getD i zCl).face = ((builtL ++ r).getD i zCl).face := by
  by_cases h : i = 0
  · subst h; exact ⟨rfl, rfl⟩
  · rw [ref_at r (by omega)]; exact ⟨rfl, rfl⟩
theorem numOf_ref (r : List Cl) (s : ByteArray) : numOf (refB ++ r) s = numOf (builtL ++ r) s := numOf_same (ref_names r) s
/-- What find answers. -/
def fnd (L : List Cl) (s : ByteArray) : Int := match numOf L s with | some i => (i : Int) | none => -1
theorem fnd_ref (r : List Cl) (s : ByteArray) : fnd (refB ++ r) s = fnd (builtL ++ r) s := by unfold fnd; rw [numOf_ref]
theorem fnd_some {L : List Cl} {s : ByteArray} (h : (numOf L s).isNone = false) : fnd L s = numI L s ∧ 0 ≤ numI L s ∧ numI L s < L.length := by
  unfold fnd numI
  cases e : numOf L s with
  | none => rw [e] at h; cases h
  | some i => have := numOf_lt e; exact ⟨rfl, by simp, by simp; omega⟩
theorem fnd_none {L : List Cl} {s : ByteArray} (h : (numOf L s).isNone = true) : fnd L s = -1 := by
  unfold fnd
  cases e : numOf L s with
  | none => rfl
  | some i => rw [e] at h; cases h
/-! Two of one name. -/
theorem dup_iff {L : List Cl} {i : Nat} (hi : i < L.length) : dupAt L i = !decide (fnd L (L.getD i zCl).name = (i : Int)) := by
  have hx : L.getD i zCl = L[i] := by simp [List.getD, hi]
  have h1 : numOf L (L.getD i zCl).name = (numOf (L.take i) (L.getD i zCl).name).or ((numOf (L.drop i) (L.getD i zCl).name).map (· + (L.take i).length)) := by
    rw [← numOf_append, List.take_append_drop]
  have h2 : numOf (L.drop i) (L.getD i zCl).name = some 0 := by
    rw [List.drop_eq_getElem_cons hi, hx]
    unfold numOf
    rw [List.findIdx?_cons, nmEq_iff.2 rfl]
    rfl
  rw [h2] at h1
  unfold dupAt
  cases e : numOf (L.take i) (L.getD i zCl).name with
  | none =>
    rw [e] at h1
    have hf : fnd L (L.getD i zCl).name = (i : Int) := by
      unfold fnd
      rw [h1]
      simp only [Option.none_or, Option.map_some, List.length_take, Nat.zero_add]
      rw [Nat.min_eq_left (by omega)]
    rw [decide_eq_true hf]
    rfl
  | some j =>
    rw [e] at h1
    have hj := numOf_lt e
    rw [List.length_take] at hj
    have hf : fnd L (L.getD i zCl).name ≠ (i : Int) := by
      unfold fnd
      rw [h1]
      simp only [Option.some_or]
      omega
    rw [decide_eq_false hf]
    rfl
theorem built_dup : ∀ i, i < 8 → dupAt builtL i = false := by decide +kernel
theorem take_built (r : List Cl) {i : Nat} (h : i < 8) : (builtL ++ r).take i = builtL.take i := by
  rw [List.take_append_of_le_length (by rw [builtL_len]; omega)]
theorem getD_built (r : List Cl) {i : Nat} (h : i < 8) : (builtL ++ r).getD i zCl = biCl i := by
  have : (builtL ++ r).getD i zCl = builtL.getD i zCl := by simp only [List.getD]; rw [List.getElem?_append_left (by rw [builtL_len]; exact h)]
  rw [this]
  unfold builtL
  exact getD_range _ _ _ _ h
theorem dup_built (r : List Cl) {i : Nat} (h : i < 8) : dupAt (builtL ++ r) i = false := by
  have e : dupAt (builtL ++ r) i = dupAt builtL i := by
    unfold dupAt
    rw [take_built r h, getD_built r h, show builtL.getD i zCl = biCl i from getD_range _ _ _ _ h]
  rw [e]
  exact built_dup i h
theorem dupErr_at {r : List Cl} {i : Nat} (hi : i < (builtL ++ r).length) (hd : ∀ j, 8 ≤ j → j < i → fnd (builtL ++ r) ((builtL ++ r).getD j zCl).name = (j : Int)) (h : fnd (builtL ++ r) ((builtL ++ r).getD i zCl).name ≠ (i : Int)) : dupErr (builtL ++ r) = some ((builtL ++ r).getD i zCl).name := by
  unfold dupErr
  rw [firstI_some (k := i) (fun j hj => ?_) hi (by rw [dup_iff hi, decide_eq_false h]; rfl)]
  · rfl
  · by_cases h8 : j < 8
    · exact dup_built r h8
    · rw [dup_iff (by omega), decide_eq_true (hd j (by omega) hj)]; rfl
theorem dupErr_no {r : List Cl} (hd : ∀ j, 8 ≤ j → j < (builtL ++ r).length → fnd (builtL ++ r) ((builtL ++ r).getD j zCl).name = (j : Int)) : dupErr (builtL ++ r) = none := by
  unfold dupErr
  rw [firstI_none (fun j hj => ?_)]
  · rfl
  · by_cases h8 : j < 8
    · exact dup_built r h8
    · rw [dup_iff hj, decide_eq_true (hd j (by omega) hj)]; rfl
/-! What stands right above is there. -/
theorem num_built (r : List Cl) {s : ByteArray} {i : Nat} (h : numOf builtL s = some i) : numOf (builtL ++ r) s = some i := by
  rw [numOf_append, h]; rfl
theorem num_b0 : numOf builtL (bn 0) = some 0 := by decide +kernel
theorem num_b1 : numOf builtL (bn 1) = some 1 := by decide +kernel
theorem join_built (r : List Cl) {i : Nat} (h : i < 8) : joinBad (builtL ++ r) i = none := by
  unfold joinBad
  rw [getD_built r h]
  have : (numOf (builtL ++ r) (biCl i).super).isNone = false := by
    show (numOf (builtL ++ r) (if i ≤ 1 then bn 0 else bn 1)).isNone = false
    split
    · rw [num_built r num_b0]; rfl
    · rw [num_built r num_b1]; rfl
  rw [this]
  rfl
theorem join_at {r : List Cl} {i : Nat} {s : ByteArray} (hi : i < (builtL ++ r).length) (hd : ∀ j, 8 ≤ j → j < i → joinBad (builtL ++ r) j = none) (h : joinBad (builtL ++ r) i = some s) : joinErr (builtL ++ r) = some s :=
  joinErr_some (fun j hj => by
    by_cases h8 : j < 8
    · exact join_built r h8
    · exact hd j (by omega) hj) hi h
theorem join_no {r : List Cl} (hd : ∀ j, 8 ≤ j → j < (builtL ++ r).length → joinBad (builtL ++ r) j = none) : joinErr (builtL ++ r) = none :=
  joinErr_none (fun j hj => by
    by_cases h8 : j < 8
    · exact join_built r h8
    · exact hd j (by omega) hj)
theorem joinBad_super {L : List Cl} {k : Nat} (h : (numOf L (L.getD k zCl).super).isNone = true) : joinBad L k = some (L.getD k zCl).super := by
  unfold joinBad; rw [h]; rfl
theorem joinBad_face {L : List Cl} {k q : Nat} {s : ByteArray} (h : (numOf L (L.getD k zCl).super).isNone = false) (hq : ∀ t ∈ (L.getD k zCl).faces.take q, (numOf L t).isNone = false) (hs : (L.getD k zCl).faces[q]? = some s) (hn : (numOf L s).isNone = true) : joinBad L k = some s := by
  unfold joinBad; rw [h]
  exact faceBad_some hq hs hn
theorem joinBad_no {L : List Cl} {k : Nat} (h : (numOf L (L.getD k zCl).super).isNone = false) (hq : ∀ t ∈ (L.getD k zCl).faces, (numOf L t).isNone = false) : joinBad L k = none := by
  unfold joinBad; rw [h]
  unfold faceBad
  rw [if_neg (by decide), List.find?_eq_none]
  intro t ht
  rw [hq t ht]
  decide
theorem join_all {L : List Cl} (h : joinErr L = none) {k : Nat} (hk : k < L.length) : (numOf L (L.getD k zCl).super).isNone = false ∧ ∀ t ∈ (L.getD k zCl).faces, (numOf L t).isNone = false := by
  unfold joinErr at h
  have h1 := List.findSome?_eq_none_iff.1 h k (by simpa using hk)
  unfold joinBad at h1
  split at h1
  · cases h1
  · rename_i hn
    refine ⟨Bool.eq_false_iff.2 hn, fun t ht => ?_⟩
    unfold faceBad at h1
    exact Bool.eq_false_iff.2 (List.find?_eq_none.1 h1 t ht)
/-! .. and fits. -/
theorem numI_zero {r : List Cl} {s : ByteArray} (h : (numOf (builtL ++ r) s).isNone = false) : numI (builtL ++ r) s = 0 ↔ s = bn 0 := by
  constructor
  · intro e
    cases hn : numOf (builtL ++ r) s with
    | none => rw [hn] at h; cases h
    | some i =>
      unfold numI at e
      rw [hn] at e
      obtain rfl : i = 0 := by simpa using e
      obtain ⟨c, hc, hcn⟩ := numOf_some hn
      cases hc
      exact hcn.symm
  · rintro rfl
    unfold numI
    rw [num_built r num_b0]
    rfl
/-- What the document asks of what stands right above. -/
def upBad (L : List Cl) (i : Nat) : Bool := faceAt L (numI L (L.getD i zCl).super) || ((L.getD i zCl).face && !nmEq (L.getD i zCl).super (bn 0))
theorem upFit_ref {r : List Cl} {i : Nat} (h0 : 0 < i) (hi : i < (builtL ++ r).length) (hn : (numOf (builtL ++ r) ((builtL ++ r).getD i zCl).super).isNone = false) : upFit (builtL ++ r) (supsL (builtL ++ r) (builtL ++ r).length) i = !upBad (builtL ++ r) i := by
  have h1 : (supsL (builtL ++ r) (builtL ++ r).length).getD i 0 = numI (builtL ++ r) ((builtL ++ r).getD i zCl).super := by
    rw [supsL, getD_range _ _ _ _ hi]
    unfold supI
    rw [if_neg (by omega)]
  have h2 := (fnd_some hn).2
  unfold upFit upBad
  rw [h1]
  have e1 : (numI (builtL ++ r) ((builtL ++ r).getD i zCl).super == -1) = false := by rw [beq_eq_false_iff_ne]; omega
  have e2 : (numI (builtL ++ r) ((builtL ++ r).getD i zCl).super == 0) = nmEq ((builtL ++ r).getD i zCl).super (bn 0) := by
    rw [Bool.eq_iff_iff, beq_iff_eq, nmEq_iff]
    exact numI_zero hn
  rw [e1, e2]
  cases faceAt (builtL ++ r) (numI (builtL ++ r) ((builtL ++ r).getD i zCl).super) <;> cases ((builtL ++ r).getD i zCl).face <;> cases nmEq ((builtL ++ r).getD i zCl).super (bn 0) <;> rfl
theorem supI_built (r : List Cl) {i : Nat} (h : i < 8) : supI (builtL ++ r) i = if i = 0 then -1 else if i = 1 then 0 else 1 := by
  unfold supI
  rw [getD_built r h]
  split
  · rfl
  · show numI (builtL ++ r) (if i ≤ 1 then bn 0 else bn 1) = _
    by_cases h1 : i = 1
    · rw [if_pos h1, if_pos (by omega)]
      unfold numI
      rw [num_built r num_b0]; rfl
    · rw [if_neg h1, if_neg (by omega)]
      unfold numI
      rw [num_built r num_b1]; rfl
theorem len_built (r : List Cl) : 8 ≤ (builtL ++ r).length := by rw [List.length_append, builtL_len]; omega
theorem up_built (r : List Cl) {i : Nat} (h : i < 8) : upFit (builtL ++ r) (supsL (builtL ++ r) (builtL ++ r).length) i = true := by
  have hl := len_built r
  have h1 : (supsL (builtL ++ r) (builtL ++ r).length).getD i 0 = if i = 0 then -1 else if i = 1 then 0 else 1 := by
    rw [supsL, getD_range _ _ _ _ (by omega), supI_built r h]
  unfold upFit
  rw [h1, getD_built r h]
  unfold faceAt
  by_cases h0 : i = 0
  · rw [if_pos h0]; rfl
  · rw [if_neg h0]
    by_cases h1 : i = 1
    · rw [if_pos h1, show ((0 : Int)).toNat = 0 from rfl, getD_built r (by omega)]; rfl
    · rw [if_neg h1, show ((1 : Int)).toNat = 1 from rfl, getD_built r (by omega)]; rfl
theorem faces_built (r : List Cl) {i : Nat} (h : i < 8) : (facesL (builtL ++ r) (builtL ++ r).length).getD i [] = [] := by
  have hl := len_built r
  rw [facesL, getD_range _ _ _ _ (by omega)]
  unfold fsI
  rw [getD_built r h]
  rfl
theorem facesP_built (r : List Cl) {i : Nat} (h : i < 8) : facesP (builtL ++ r) (facesL (builtL ++ r) (builtL ++ r).length) i = true := by
  unfold facesP
  rw [faces_built r h]
  rfl
theorem ring_built (r : List Cl) {i : Nat} (h : i < 8) : ringP (supsL (builtL ++ r) (builtL ++ r).length) (facesL (builtL ++ r) (builtL ++ r).length) i = true := by
  have hl := len_built r
  refine ringP_yes (no_ring (fun i => if i = 0 then 0 else if i = 1 then 1 else 2) 8 (fun i hi u hu => ?_) i h)
  unfold succI at hu
  rw [faces_built r hi, supsL, getD_range _ _ _ _ (by omega), supI_built r hi, List.mem_singleton] at hu
  subst hu
  by_cases h0 : i = 0
  · exact .inl (by rw [if_pos h0])
  · refine .inr ?_
    by_cases h1 : i = 1
    · subst h1; decide
    · rw [if_neg h0, if_neg h1, if_neg h0, if_neg h1]; decide
theorem first_at {r : List Cl} {P : Nat → Bool} (hb : ∀ i, i < 8 → P i = true) {i : Nat} (hi : i < (builtL ++ r).length) (hd : ∀ j, 8 ≤ j → j < i → P j = true) (h : P i = false) : firstNo (builtL ++ r) P = some ((builtL ++ r).getD i zCl).name :=
  firstNo_some (fun j hj => by
    by_cases h8 : j < 8
    · exact hb j h8
    · exact hd j (by omega) hj) hi h
theorem first_no {r : List Cl} {P : Nat → Bool} (hb : ∀ i, i < 8 → P i = true) (hd : ∀ j, 8 ≤ j → j < (builtL ++ r).length → P j = true) : firstNo (builtL ++ r) P = none :=
  firstNo_none (fun j hj => by
    by_cases h8 : j < 8
    · exact hb j h8
    · exact hd j (by omega) hj)
/-- What the document asks of interface k of a class. -/
def faceBadN (L : List Cl) (F : List ByteArray) (k : Nat) : Bool := (F.take k).any (fun t => nmEq t (F.getD k ⟨#[]⟩)) || !faceAt L (numI L (F.getD k ⟨#[]⟩))
theorem numI_inj {L : List Cl} {s t : ByteArray} (hs : (numOf L s).isNone = false) (ht : (numOf L t).isNone = false) (h : numI L s = numI L t) : s = t := by
  cases es : numOf L s with
  | none => rw [es] at hs; cases hs
  | some i =>
    cases et : numOf L t with
    | none => rw [et] at ht; cases ht
    | some j =>
      unfold numI at h
      rw [es, et] at h
      obtain rfl : i = j := by simp at h; omega
      obtain ⟨c, hc, h1⟩ := numOf_some es
      obtain ⟨d, hd, h2⟩ := numOf_some et
      rw [hc] at hd
      cases hd
      rw [← h1, h2]
theorem faceBad_ref {L : List Cl} {F : List ByteArray} (hF : ∀ t ∈ F, (numOf L t).isNone = false) {k : Nat} (hk : k < F.length) : faceBadAt L (F.map (numI L)) k = faceBadN L F k := by
  have e0 : (F.map (numI L)).getD k 0 = numI L (F.getD k ⟨#[]⟩) := by simp [List.getD, hk]
  have hm : F.getD k ⟨#[]⟩ ∈ F := by simp [List.getD, hk]
  unfold faceBadAt faceBadN
  rw [e0]
  have e1 : ((F.map (numI L)).take k).contains (numI L (F.getD k ⟨#[]⟩)) = (F.take k).any (fun t => nmEq t (F.getD k ⟨#[]⟩)) := by
    rw [Bool.eq_iff_iff, List.contains_iff_mem, List.any_eq_true, ← List.map_take, List.mem_map]
    constructor
    · rintro ⟨t, ht, e⟩
      exact ⟨t, ht, nmEq_iff.2 (numI_inj (hF t (List.mem_of_mem_take ht)) (hF _ hm) e)⟩
    · rintro ⟨t, ht, e⟩
      exact ⟨t, ht, by rw [nmEq_iff.1 e]⟩
  rw [e1, Bool.or_comm]
theorem facesP_ref {r : List Cl} {i : Nat} (hi : i < (builtL ++ r).length) (hF : ∀ t ∈ ((builtL ++ r).getD i zCl).faces, (numOf (builtL ++ r) t).isNone = false) : facesP (builtL ++ r) (facesL (builtL ++ r) (builtL ++ r).length) i = true ↔ ∀ k, k < ((builtL ++ r).getD i zCl).faces.length → faceBadN (builtL ++ r) ((builtL ++ r).getD i zCl).faces k = false := by
  unfold facesP
  rw [fsF_at hi]
  unfold fsI faceFit
  rw [List.all_eq_true]
  constructor
  · intro h k hk
    have := h k (by simpa using hk)
    rw [faceBad_ref hF hk] at this
    simpa using this
  · intro h k hk
    rw [List.mem_range, List.length_map] at hk
    rw [faceBad_ref hF hk, h k hk]
    rfl
end Go.Proofs.YtbogcknkkbnfnaaDoor

/- The document's answer: find, has; a set of it, as it is read; Has, Name, Number, IsInterface. -/
namespace Go.Proofs.YtbogcknkkbnfnaaDoor
open Go.RowKit Go.Proofs.YtbogcknkkbnfnaaDoorW.PrintWords Go.Maps Go.WideMaps

theorem nm_beq (a b : ByteArray) : (a.toList == b.toList) = nmEq a b := by unfold nmEq; rw [ByteArray.toList_eq, ByteArray.toList_eq]
theorem fnd_at {L : List Cl} {s : ByteArray} {k : Nat} (h : ∀ j, j < k → nmEq (L.getD j zCl).name s = false) (hk : k < L.length) (hp : nmEq (L.getD k zCl).name s = true) : fnd L s = k := by
  have : numOf L s = some k := by
    unfold numOf
    rw [List.findIdx?_eq_some_iff_getElem]
    refine ⟨hk, ?_, fun j hj => ?_⟩
    · have e : L.getD k zCl = L[k] := by simp [List.getD, hk]
      rw [← e]; exact hp
    · have e : L.getD j zCl = L[j] := by simp [List.getD, show j < L.length by omega]
      rw [← e, h j hj]; decide
  unfold fnd
  rw [this]
theorem fnd_no {L : List Cl} {s : ByteArray} (h : ∀ j, j < L.length → nmEq (L.getD j zCl).name s = false) : fnd L s = -1 := by
  have : numOf L s = none := by
    unfold numOf
    rw [List.findIdx?_eq_none_iff]
    intro c hc
    obtain ⟨j, hj, rfl⟩ := List.getElem_of_mem hc
    have e : L.getD j zCl = L[j] := by simp [List.getD, hj]
    rw [← e]; exact h j hj
  unfold fnd
  rw [this]
set_option maxRecDepth 100000 in
set_option maxHeartbeats 4000000 in
theorem find_any (A : Option Addr) (c : Nat) (L : List Cl) (s : ByteArray) (w : World) (hC : kCl.C w A L.length L) (hb : L.length ≤ 1034834473171) :
    Calls Tryd.prog 101 #[.slice A L.length c, .string s] w fun e w' => e = .returned (.int .i64 (fnd L s)) ∧ w' = w := by
  obtain ⟨n, hn⟩ : ∃ n, L.length = n := ⟨_, rfl⟩
  rw [hn] at hC hb ⊢
  have HC := hid hC
  have HN := hid hn
  clear hC hn
  go_enter Tryd.func101, Tryd.ntmps101
  go_wp2
  go_loop [5] (fun v => ∃ k : Nat, k ≤ n ∧ v = .int .i64 k ∧ Hid (∀ j, j < k → nmEq (L.getD j zCl).name s = false)) (fun v => n - (intOf v).toNat)
  case atStart => exact ⟨0, by omega, rfl, fun j hj => by omega⟩
  obtain ⟨k, hk, rfl, HD⟩ := hrel
  by_cases hlt : k < n
  · obtain ⟨b, off, hA⟩ := C_plain HC.out (by omega) (by decide)
    subst hA
    obtain ⟨e, hE, d1, d2, d3, d4⟩ := el_at2 HC.out k hlt
    have HE := hid hE.n
    clear hE d2 d3 d4
    cases hq : nmEq e.n s with
    | true =>
      have HF := hid (fnd_at HD.out (by rw [HN.out]; exact hlt) (by rw [← HE.out]; exact hq))
      have q1 : (e.n.toList == s.toList) = true := by rw [nm_beq]; exact hq
      clear hq
      go_wp2
      go_ret
      exact ⟨by rw [HF.out]; rfl, rfl⟩
    | false =>
      have HF := hid (show ∀ j, j < k + 1 → nmEq (L.getD j zCl).name s = false from fun j hj => by
        by_cases e0 : j = k
        · rw [e0, ← HE.out]; exact hq
        · exact HD.out j (by omega))
      have q1 : (e.n.toList == s.toList) = false := by rw [nm_beq]; exact hq
      clear hq
      go_wp2
      go_round
      case rel => exact ⟨k + 1, by omega, by go_num, HF⟩
      case measure => simp [intOf]; omega
  · have HF := hid (fnd_no (L := L) (s := s) (fun j hj => HD.out j (by rw [HN.out] at hj; omega)))
    go_wp2
    go_ret
    exact ⟨by rw [HF.out]; rfl, rfl⟩
set_option maxRecDepth 100000 in
set_option maxHeartbeats 4000000 in
theorem rhas_any (A : Option Addr) (c : Nat) (xs : List Int) (x : Int) (w : World) (hC : kI.C w A xs.length xs) (hb : xs.length ≤ 1000000000000) :
    Calls Tryd.prog 132 #[.slice A xs.length c, .int .i64 x] w fun e w' => e = .returned (.bool (decide (x ∈ xs))) ∧ w' = w := by
  obtain ⟨n, hn⟩ : ∃ n, xs.length = n := ⟨_, rfl⟩
  have HC := hid hC
  rw [hn] at hb ⊢
  have HN := hid hn
  clear hC hn
  go_enter Tryd.func132, Tryd.ntmps132
  go_wp2
  go_loop [5] (fun v => ∃ k : Nat, k ≤ n ∧ v = .int .i64 k ∧ Hid (x ∉ xs.take k)) (fun v => n - (intOf v).toNat)
  case atStart => exact ⟨0, by omega, rfl, hid (by simp)⟩
  obtain ⟨k, hk, rfl, HD⟩ := hrel
  by_cases hlt : k < n
  · obtain ⟨b, off, hA⟩ := C_plain HC.out (by rw [HN.out]; omega) (by decide)
    subst hA
    obtain ⟨u, hu⟩ : ∃ u, xs[k]? = some u := ⟨_, List.getElem?_eq_getElem (by rw [HN.out]; exact hlt)⟩
    have d1 := C_scalar (h1 := fun _ => rfl) HC.out 0 k (by rw [HN.out]; exact hlt)
    rw [List.getD_eq_getElem?_getD, hu, Option.getD_some] at d1
    have HU := hid hu
    clear hu
    by_cases hux : u = x
    · have HF := hid (show decide (x ∈ xs) = true from decide_eq_true (by rw [← hux]; exact List.mem_of_getElem? HU.out))
      have q1 : (u == x) = true := by simp [hux]
      clear hux
      go_wp2
      go_ret
      exact ⟨by rw [HF.out]; rfl, rfl⟩
    · have HF := hid (show x ∉ xs.take (k + 1) from by
        rw [List.take_add_one, HU.out, List.mem_append]
        rintro (h | h)
        · exact HD.out h
        · simp at h; exact hux h.symm)
      have q1 : (u == x) = false := by simp [hux]
      clear hux
      go_wp2
      go_round
      case rel => exact ⟨k + 1, by omega, by go_num, HF⟩
      case measure => simp [intOf]; omega
  · have HF := hid (show decide (x ∈ xs) = false from decide_eq_false (fun h => HD.out (by rw [List.take_of_length_le (by rw [HN.out]; omega)]; exact h)))
    go_wp2
    go_ret
    exact ⟨by rw [HF.out]; rfl, rfl⟩
/-- A set of the document's, as it is read: those built in, and r. -/
structure MV (p g c : Nat) (r : List Cl) (w : World) : Prop where
  blk : w.heap[p]? = some (.cells #[.slice (some ⟨g, 0, none⟩) (refB ++ r).length c] 136 (0, 0))
  row : kCl.C w (some ⟨g, 0, none⟩) (refB ++ r).length (refB ++ r)
  big : (refB ++ r).length ≤ 72
  ok : ∀ x ∈ r, clOk x
section
variable {p g c : Nat} {r : List Cl} {w : World}
theorem MV.step (h : MV p g c r w) {w' : World} (hb : Below w.heap.size w w') : MV p g c r w' := ⟨blk_below h.blk hb, Kd.C_below h.row hb, h.big, h.ok⟩
theorem MV.len (_ : MV p g c r w) : (refB ++ r).length = (builtL ++ r).length ∧ 8 ≤ (refB ++ r).length := ⟨ref_len r, by rw [ref_len]; exact len_built r⟩
theorem MV.find (h : MV p g c r w) (s : ByteArray) : Calls Tryd.prog 101 #[.slice (some ⟨g, 0, none⟩) (refB ++ r).length c, .string s] w fun e w' => e = .returned (.int .i64 (fnd (builtL ++ r) s)) ∧ w' = w := by
  have := find_any (some ⟨g, 0, none⟩) c (refB ++ r) s w h.row (by have := h.big; omega)
  rw [fnd_ref] at this
  exact this
set_option maxRecDepth 100000 in
set_option maxHeartbeats 4000000 in
theorem rHas_any (h : MV p g c r w) (i : Int) (b : Bool) (hb : decide (0 ≤ i ∧ i < (refB ++ r).length) = b) : Calls Tryd.prog 129 #[.pointer (some ⟨p, 0, none⟩), .int .i64 i] w fun e w' => e = .returned (.bool b) ∧ w' = w := by
  have hn := h.big
  have c0 := blk_cell h.blk 0
  clear h
  subst hb
  generalize (refB ++ r).length = N at *
  by_cases h0 : 0 ≤ i
  · by_cases h1 : i < (N : Int)
    · rw [decide_eq_true (⟨h0, h1⟩ : 0 ≤ i ∧ i < (N : Int))]
      go_enter Tryd.func129, Tryd.ntmps129
      go_wp2
      go_ret
      exact ⟨rfl, rfl⟩
    · rw [decide_eq_false (fun h : 0 ≤ i ∧ i < (N : Int) => h1 h.2)]
      go_enter Tryd.func129, Tryd.ntmps129
      go_wp2
      go_ret
      exact ⟨rfl, rfl⟩
  · rw [decide_eq_false (fun h : 0 ≤ i ∧ i < (N : Int) => h0 h.1)]
    go_enter Tryd.func129, Tryd.ntmps129
    go_wp2
    go_ret
    exact ⟨rfl, rfl⟩
theorem inR {a N : Nat} (h : a < N) : decide ((0 : Int) ≤ (a : Int) ∧ (a : Int) < N) = true := decide_eq_true ⟨by omega, by omega⟩
set_option maxRecDepth 100000 in
set_option maxHeartbeats 4000000 in
theorem rName_in (h : MV p g c r w) {i : Nat} (hi : i < (refB ++ r).length) : Calls Tryd.prog 91 #[.pointer (some ⟨p, 0, none⟩), .int .i64 i] w fun e w' => e = .returned (.string ((builtL ++ r).getD i zCl).name) ∧ w' = w := by
  have HH := hid (rHas_any h i true (inR hi))
  have hn := h.big
  have c0 := blk_cell h.blk 0
  obtain ⟨e, hE, _, d1, _⟩ := el_at h.row i hi
  have HE := hid (show e.n = ((builtL ++ r).getD i zCl).name by rw [hE.n]; exact nameD_same (ref_names r) i)
  have li : (i : Int) < (refB ++ r).length := by omega
  clear h hE
  rw [← HE.out]
  generalize (refB ++ r).length = N at *
  go_enter Tryd.func91, Tryd.ntmps91
  go_wp2_with (go_at_call 129; refine HH.out.mono ?_; rintro e' w' ⟨rfl, rfl⟩)
  go_ret
  exact ⟨rfl, rfl⟩
set_option maxRecDepth 100000 in
set_option maxHeartbeats 4000000 in
theorem rName_out (h : MV p g c r w) {i : Int} (hi : ¬ (0 ≤ i ∧ i < (refB ++ r).length)) : Calls Tryd.prog 91 #[.pointer (some ⟨p, 0, none⟩), .int .i64 i] w fun e w' => e = .returned (.string ⟨#[]⟩) ∧ w' = w := by
  have HH := hid (rHas_any h i false (decide_eq_false hi))
  clear h hi
  go_enter Tryd.func91, Tryd.ntmps91
  go_wp2_with (go_at_call 129; refine HH.out.mono ?_; rintro e' w' ⟨rfl, rfl⟩)
  go_ret
  exact ⟨rfl, rfl⟩
set_option maxRecDepth 100000 in
set_option maxHeartbeats 4000000 in
theorem rIs_in (h : MV p g c r w) {i : Nat} (hi : i < (refB ++ r).length) : Calls Tryd.prog 95 #[.pointer (some ⟨p, 0, none⟩), .int .i64 i] w fun e w' => e = .returned (.bool ((builtL ++ r).getD i zCl).face) ∧ w' = w := by
  have HH := hid (rHas_any h i true (inR hi))
  have hn := h.big
  have c0 := blk_cell h.blk 0
  obtain ⟨e, hE, _, _, _, d1, _⟩ := el_at h.row i hi
  have HE := hid (show e.b = ((builtL ++ r).getD i zCl).face by rw [hE.b]; exact (ref_faces r i).2)
  have li : (i : Int) < (refB ++ r).length := by omega
  clear h hE
  rw [← HE.out]
  generalize (refB ++ r).length = N at *
  go_enter Tryd.func95, Tryd.ntmps95
  go_wp2_with (go_at_call 129; refine HH.out.mono ?_; rintro e' w' ⟨rfl, rfl⟩)
  go_ret
  exact ⟨rfl, rfl⟩
set_option maxRecDepth 100000 in
set_option maxHeartbeats 4000000 in
theorem rIs_out (h : MV p g c r w) {i : Int} (hi : ¬ (0 ≤ i ∧ i < (refB ++ r).length)) : Calls Tryd.prog 95 #[.pointer (some ⟨p, 0, none⟩), .int .i64 i] w fun e w' => e = .returned (.bool false) ∧ w' = w := by
  have HH := hid (rHas_any h i false (decide_eq_false hi))
  clear h hi
  go_enter Tryd.func95, Tryd.ntmps95
  go_wp2_with (go_at_call 129; refine HH.out.mono ?_; rintro e' w' ⟨rfl, rfl⟩)
  go_ret
  exact ⟨rfl, rfl⟩
set_option maxRecDepth 100000 in
set_option maxHeartbeats 4000000 in
theorem rNumber_any (h : MV p g c r w) (s : ByteArray) : Calls Tryd.prog 89 #[.pointer (some ⟨p, 0, none⟩), .string s] w fun e w' => e = .returned (.tuple #[.int .i64 (numI (builtL ++ r) s), .bool (numOf (builtL ++ r) s).isSome]) ∧ w' = w := by
  have hn := h.big
  have c0 := blk_cell h.blk 0
  have HF := hid (h.find s)
  have hl := h.len.1
  clear h
  cases hno : (numOf (builtL ++ r) s).isNone with
  | true =>
    have e0 := fnd_none hno
    have e1 : numI (builtL ++ r) s = 0 := by
      unfold numI
      cases e : numOf (builtL ++ r) s with
      | none => rfl
      | some i => rw [e] at hno; cases hno
    have e2 : (numOf (builtL ++ r) s).isSome = false := by
      cases e : numOf (builtL ++ r) s with
      | none => rfl
      | some i => rw [e] at hno; cases hno
    rw [e1, e2]
    rw [e0] at HF
    clear e0 e1 e2 hno hl
    generalize (refB ++ r).length = N at *
    go_enter Tryd.func89, Tryd.ntmps89
    go_wp2_with (go_at_call 101; refine HF.out.mono ?_; rintro e' w' ⟨rfl, rfl⟩)
    go_ret2
    exact ⟨rfl, rfl⟩
  | false =>
    obtain ⟨e0, h0, h1⟩ := fnd_some hno
    have e2 : (numOf (builtL ++ r) s).isSome = true := by
      cases e : numOf (builtL ++ r) s with
      | none => rw [e] at hno; cases hno
      | some i => rfl
    rw [e2]
    rw [e0] at HF
    rw [← hl] at h1
    clear e0 e2 hno hl
    generalize numI (builtL ++ r) s = z at *
    generalize (refB ++ r).length = N at *
    go_enter Tryd.func89, Tryd.ntmps89
    go_wp2_with (go_at_call 101; refine HF.out.mono ?_; rintro e' w' ⟨rfl, rfl⟩)
    go_ret2
    exact ⟨rfl, rfl⟩
end
end Go.Proofs.YtbogcknkkbnfnaaDoor

