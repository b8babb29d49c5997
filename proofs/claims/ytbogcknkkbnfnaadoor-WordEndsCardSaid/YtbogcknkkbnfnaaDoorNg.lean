/- The document's sorted: classes by rising names. -/
import Derived.Test.YtbogcknkkbnfnaaDoorNe
import Derived.BigQuiet
namespace Go.Proofs.YtbogcknkkbnfnaaDoor
open Go.RowKit Go.Proofs.YtbogcknkkbnfnaaDoorW.PrintWords Go.Maps Go.WideMaps

theorem addr_add (b off q : Nat) : (⟨b, off, none⟩ : Addr).add q = ⟨b, off + q, none⟩ := by
  unfold Addr.add
  split
  · rename_i h0
    have e : q = 0 := h0
    rw [e]
    rfl
  · rfl
/-- A row of classes, as a row of elements. -/
theorem els_C {w : World} {A : Option Addr} {n : Nat} {L : List Cl} (h : kCl.C w A n L) : ∃ P : List (El × Cl), P.map (·.2) = L ∧ (∀ z ∈ P, ElCl w z.1 z.2) ∧ kEl.C w A n (P.map (·.1)) := by
  obtain ⟨P, hP, hel, hc⟩ := els_of h
  have hl : (P.map (·.1)).length = n := by rw [List.length_map, ← h.1, ← hP, List.length_map]
  refine ⟨P, hP, hel, hl, h.2.1, fun h0 => ?_⟩
  obtain ⟨b, off, hA⟩ := C_plain h h0 (by decide)
  refine ⟨_, hA, fun j e he => ⟨e.cells, rfl, kEl_K w e, fun i u hu => ?_⟩⟩
  have hj := (List.getElem?_eq_some_iff.1 he).1
  have hi : i < 7 := (List.getElem?_eq_some_iff.1 hu).1
  have h1 := flat_get (P.map (·.1)) [] j i hj hi
  rw [List.append_nil, List.getD_eq_getElem?_getD, he, Option.getD_some, hu] at h1
  rw [addr_add]
  exact hc b off hA _ u h1
/-- The cells of an element in a row. -/
theorem kEl_at {w W : World} {b off n : Nat} {xs : List El} (h : kEl.C w (some ⟨b, off, none⟩) n xs) (hW : Below w.heap.size w W) {i : Nat} {e : El} (he : xs[i]? = some e) :
    W.cell? ⟨b, off + i * 7, none⟩ = some (.slice e.p.a e.p.n e.p.c) ∧ W.cell? ⟨b, off + i * 7 + 1, none⟩ = some (.string e.n) ∧ W.cell? ⟨b, off + i * 7 + 2, none⟩ = some (.string e.s) ∧ W.cell? ⟨b, off + i * 7 + 3, none⟩ = some (.bool e.b) ∧ W.cell? ⟨b, off + i * 7 + 4, none⟩ = some (.slice e.f.a e.f.n e.f.c) ∧ W.cell? ⟨b, off + i * 7 + 5, none⟩ = some (.slice e.l.a e.l.n e.l.c) ∧ W.cell? ⟨b, off + i * 7 + 6, none⟩ = some (.slice e.m.a e.m.n e.m.c) := by
  obtain ⟨hl, _, h3⟩ := h
  have hi := (List.getElem?_eq_some_iff.1 he).1
  obtain ⟨ad, ea, h4⟩ := h3 (by omega)
  cases ea
  obtain ⟨c, hc, hK, h5⟩ := h4 i e he
  obtain rfl := kEl_open hK
  have key : ∀ j u, e.cells[j]? = some u → W.cell? ⟨b, off + i * 7 + j, none⟩ = some u := fun j u hu => by
    have h6 := h5 j u hu
    rw [addr_add] at h6
    have h7 := (hW.cell (World.block_lt_of_cell? w _ h6)).trans h6
    rw [show off + i * 7 + j = off + (i * kEl.sz + j) by show off + i * 7 + j = off + (i * 7 + j); omega]
    exact h7
  exact ⟨key 0 _ rfl, key 1 _ rfl, key 2 _ rfl, key 3 _ rfl, key 4 _ rfl, key 5 _ rfl, key 6 _ rfl⟩
/-- How far one is laid in: k of those that lie have been passed. -/
def InsAt (x : El × Cl) (R : List (El × Cl)) (k : Nat) (nx : List (El × Cl)) (put : Bool) : Prop :=
  (put = false ∧ nx = R.take k ∧ ∀ y ∈ R.take k, less x.2.name y.2.name = false) ∨
  (put = true ∧ ∃ q, q < k ∧ nx = R.take q ++ x :: (R.take k).drop q ∧ (∀ y ∈ R.take q, less x.2.name y.2.name = false) ∧ ∀ y, R[q]? = some y → less x.2.name y.2.name = true)
theorem InsAt.start (x : El × Cl) (R : List (El × Cl)) : InsAt x R 0 [] false := .inl ⟨rfl, by simp, by simp⟩
theorem take_snoc' {R : List (El × Cl)} {k : Nat} {y : El × Cl} (hy : R[k]? = some y) : R.take (k + 1) = R.take k ++ [y] := by rw [List.take_add_one, hy]; rfl
theorem InsAt.pass {x : El × Cl} {R : List (El × Cl)} {k : Nat} {nx : List (El × Cl)} {y : El × Cl} (h : InsAt x R k nx false) (hy : R[k]? = some y) (hl : less x.2.name y.2.name = false) : InsAt x R (k + 1) (nx ++ [y]) false := by
  rcases h with ⟨_, rfl, h⟩ | ⟨h, _⟩
  · rw [← take_snoc' hy]
    refine .inl ⟨rfl, rfl, fun z hz => ?_⟩
    rw [take_snoc' hy, List.mem_append] at hz
    rcases hz with hz | hz
    · exact h z hz
    · rw [List.mem_singleton] at hz; rw [hz]; exact hl
  · cases h
theorem InsAt.on {x : El × Cl} {R : List (El × Cl)} {k : Nat} {nx : List (El × Cl)} {y : El × Cl} (h : InsAt x R k nx true) (hy : R[k]? = some y) : InsAt x R (k + 1) (nx ++ [y]) true := by
  have hk := (List.getElem?_eq_some_iff.1 hy).1
  rcases h with ⟨h, _⟩ | ⟨_, q, hq, rfl, h1, h2⟩
  · cases h
  · refine .inr ⟨rfl, q, by omega, ?_, h1, h2⟩
    rw [take_snoc' hy, List.drop_append_of_le_length (by rw [List.length_take]; omega)]
    simp
theorem InsAt.put {x : El × Cl} {R : List (El × Cl)} {k : Nat} {nx : List (El × Cl)} {y : El × Cl} (h : InsAt x R k nx false) (hy : R[k]? = some y) (hl : less x.2.name y.2.name = true) : InsAt x R (k + 1) (nx ++ [x] ++ [y]) true := by
  have hk := (List.getElem?_eq_some_iff.1 hy).1
  rcases h with ⟨_, rfl, h⟩ | ⟨h, _⟩
  · refine .inr ⟨rfl, k, by omega, ?_, h, fun z hz => ?_⟩
    · rw [take_snoc' hy, List.drop_append_of_le_length (by rw [List.length_take]; omega), List.drop_of_length_le (by rw [List.length_take]; omega)]
      simp
    · rw [hy] at hz; cases hz; exact hl
  · cases h
theorem InsAt.len {x : El × Cl} {R : List (El × Cl)} {k : Nat} {nx : List (El × Cl)} {put : Bool} (h : InsAt x R k nx put) : nx.length ≤ R.length + 1 := by
  rcases h with ⟨_, rfl, _⟩ | ⟨_, q, hq, rfl, _⟩
  · rw [List.length_take]; omega
  · simp only [List.length_append, List.length_cons, List.length_take, List.length_drop]; omega
/-- All are passed. -/
theorem InsAt.all {x : El × Cl} {R : List (El × Cl)} {nx : List (El × Cl)} {put : Bool} (h : InsAt x R R.length nx put) (hs : SrtdE R) : (if put then nx else nx ++ [x]).Perm (x :: R) ∧ SrtdE (if put then nx else nx ++ [x]) := by
  rcases h with ⟨rfl, rfl, h⟩ | ⟨rfl, q, hq, rfl, h1, h2⟩
  · rw [if_neg (by decide), List.take_length]
    rw [List.take_length] at h
    have h3 := ins_sorted (x := x) hs (q := R.length) (by rw [List.take_length]; exact h) (fun y hy => by rw [List.getElem?_eq_none (Nat.le_refl _)] at hy; cases hy)
    have h4 := ins_perm (x := x) (R := R) R.length
    rw [List.take_length, List.drop_length] at h3 h4
    exact ⟨h4, h3⟩
  · rw [if_pos rfl, List.take_length]
    exact ⟨ins_perm q, ins_sorted hs h1 h2⟩
theorem less_E {w : World} {x y : El × Cl} (hx : ElCl w x.1 x.2) (hy : ElCl w y.1 y.2) : Op.bytesLess x.1.n.toList y.1.n.toList = less x.2.name y.2.name := by rw [hx.n, hy.n]; rfl
set_option maxRecDepth 100000 in
set_option maxHeartbeats 8000000 in
theorem sorted_any (A : Option Addr) (n c : Nat) (P : List (El × Cl)) (wl w : World) (hE : kEl.C w A n (P.map (·.1))) (hel : ∀ z ∈ P, ElCl wl z.1 z.2) (hb : n ≤ 64) :
    Calls Tryd.prog 100 #[.slice A n c] w fun e w' => ∃ (v : Value) (R : List (El × Cl)), e = .returned v ∧ kEl.R 57 w' w.heap.size (fun _ => True) v (R.map (·.1)) ∧ Below w.heap.size w w' ∧ R.Perm P ∧ SrtdE R := by
  have HPN := hid (show P.length = n by rw [← hE.1, List.length_map])
  have HEL := hid hel
  have HE := hid hE
  clear hel hE
  go_enter Tryd.func100, Tryd.ntmps100
  go_wp2
  go_loopw [3, 4] (fun oV iV wr => ∃ (i : Nat) (R : List (El × Cl)), i ≤ n ∧ iV = .int .i64 i ∧ Hid (kEl.R 57 wr w.heap.size (fun _ => True) oV (R.map (·.1))) ∧ Hid (Below w.heap.size w wr) ∧ Hid (R.Perm (P.take i)) ∧ Hid (SrtdE R)) (fun _ iV _ => n - (intOf iV).toNat)
  case atStart => exact ⟨0, [], by omega, rfl, Kd.R_nil _ _ _ _ _, Below.refl _ _, hid (by simp), List.Pairwise.nil⟩
  obtain ⟨i, R, hi, rfl, HR, HB, HPM, HSR⟩ := hrel
  have hRl : R.length = i := by rw [HPM.out.length_eq, List.length_take, HPN.out]; omega
  by_cases hlt : i < n
  · obtain ⟨x, hx⟩ : ∃ x, P[i]? = some x := ⟨_, List.getElem?_eq_getElem (by rw [HPN.out]; exact hlt)⟩
    have HXE := hid (HEL.out x (List.mem_of_getElem? hx))
    have HRE := hid (show ∀ y ∈ R, ElCl wl y.1 y.2 from fun y hy => HEL.out y (List.mem_of_mem_take (HPM.out.mem_iff.1 hy)))
    obtain ⟨b, off, hA⟩ := C_plain HE.out (by omega) (by decide)
    subst hA
    have hxe : (P.map (·.1))[i]? = some x.1 := by rw [List.getElem?_map, hx]; rfl
    have HXC := hid (fun (W : World) (hW : Below w.heap.size w W) => kEl_at HE.out hW hxe)
    have HNX := hid (show ∀ R' : List (El × Cl), R'.Perm (x :: R) → R'.Perm (P.take (i + 1)) from fun R' h => by
      rw [List.take_add_one, hx]
      refine h.trans ((HPM.out.cons x).trans ?_)
      exact (List.perm_append_singleton x (P.take i)).symm)
    have li : (i : Int) < n := by omega
    have hRi : (R.map (·.1)).length = i := by rw [List.length_map]; exact hRl
    obtain ⟨Ao, co, rfl⟩ := Kd.R_slice HR.out
    rw [hRi] at HR ⊢
    have HRL := hid hRl
    have hzB := HB.out.size
    have zb := World.block_lt_of_cell? w _ (HXC.out w (Below.refl _ _)).1
    clear hx hxe hRl hRi
    obtain ⟨wo, rfl⟩ : ∃ X, X = wr := ⟨_, rfl⟩
    go_wp2
    go_loopw [5, 6, 7] (fun nV pV kV wr => ∃ (k : Nat) (nx : List (El × Cl)) (put : Bool), k ≤ i ∧ kV = .int .i64 k ∧ pV = .bool put ∧ Hid (kEl.R 57 wr wo.heap.size (fun _ => True) nV (nx.map (·.1))) ∧ Hid (Below wo.heap.size wo wr) ∧ Hid (InsAt x R k nx put)) (fun _ _ kV _ => i - (intOf kV).toNat)
    case atStart => exact ⟨0, [], false, by omega, rfl, rfl, Kd.R_nil _ _ _ _ _, Below.refl _ _, InsAt.start _ _⟩
    obtain ⟨k, nx, put, hk, rfl, rfl, HN, HBs, HI⟩ := hrel
    have hnl := HI.out.len
    rw [HRL.out] at hnl
    by_cases hki : k < i
    · obtain ⟨y, hy⟩ : ∃ y, R[k]? = some y := ⟨_, List.getElem?_eq_getElem (by rw [HRL.out]; exact hki)⟩
      have hye : (R.map (·.1))[k]? = some y.1 := by rw [List.getElem?_map, hy]; rfl
      have HYE := hid (HRE.out y (List.mem_of_getElem? hy))
      have HLE := hid (less_E HXE.out HYE.out)
      have hCo := (Kd.R_reads' HR.out).2.2
      obtain ⟨bo, offo, hA⟩ := C_plain hCo (by rw [List.length_map, HRL.out]; omega) (by decide)
      subst hA
      have HYC := hid (fun (W : World) (hW : Below wo.heap.size wo W) => kEl_at hCo hW hye)
      have HY := hid hy
      have hBw := below_weaken HB.out hzB HBs.out
      obtain ⟨x0, x1, x2, x3, x4, x5, x6⟩ := HXC.out wr hBw
      obtain ⟨y0, y1, y2, y3, y4, y5, y6⟩ := HYC.out wr HBs.out
      have HBW := hid hBw
      have zs := World.block_lt_of_cell? wr _ x0
      have zt := World.block_lt_of_cell? wr _ y0
      clear hy hye hCo hBw
      cases put with
      | true =>
        have HI1 := hid (HI.out.on HY.out)
        clear x0 x1 x2 x3 x4 x5 x6 zs
        go_wp2_with fail
        go_quiet (fail)
        have HN2 := hid (Kd.R_drewN HN.out nq)
        have HB2 := hid (pw_below_drewN HBs.out nq)
        obtain ⟨y0', y1', y2', y3', y4', y5', y6'⟩ := HYC.out _ HB2.out
        clear y0 y1 y2 y3 y4 y5 y6 zt
        generalize wr.drewN nq = wd at *
        go_wp2_with (at_builtin; refine Kd.R_append kEl wo.heap.size rfl (.tmp 42) (.tmp 47) 22 57 _ 136 rfl Tryd.underlying22 infoCls rfl (by decide) (by decide) u5 (nx.map (·.1)) y.1 [.slice y.1.p.a y.1.p.n y.1.p.c, .string y.1.n, .string y.1.s, .bool y.1.b, .slice y.1.f.a y.1.f.n y.1.f.c, .slice y.1.l.a y.1.l.n y.1.l.c, .slice y.1.m.a y.1.m.n y.1.m.c] (fun _ => True) (fun _ => False) (by first | rfl | (go_simp; done) | (go_simp; rfl)) (by first | rfl | (go_simp; done) | (go_simp; rfl)) (kEl_M _ _ _ y.1) (fun _ h => h.elim) (fun _ _ => trivial) HN2.out HB2.out HB2.out.size (by rw [List.length_map]; omega) ?_; intro v1 w1 hR1 hB1 _ _; have HR1 := hid hR1; have HB1 := hid hB1; clear hR1 hB1)
        go_roundw
        case rel => exact ⟨k + 1, nx ++ [y], true, by omega, by go_num, rfl, by rw [List.map_append]; exact HR1, HB1, HI1⟩
        case measure => simp [intOf]; omega
      | false =>
        cases hq : less x.2.name y.2.name with
        | true =>
          have q1 : Op.bytesLess x.1.n.toList y.1.n.toList = true := HLE.out.trans hq
          have HI1 := hid (HI.out.put HY.out hq)
          clear hq
          go_wp2_with fail
          go_quiet (fail)
          have HN2 := hid (Kd.R_drewN HN.out nq)
          have HB2 := hid (pw_below_drewN HBs.out nq)
          obtain ⟨x0', x1', x2', x3', x4', x5', x6'⟩ := HXC.out _ (pw_below_drewN HBW.out nq)
          clear y0 y1 y2 y3 y4 y5 y6 zt x0 x1 x2 x3 x4 x5 x6 zs
          generalize wr.drewN nq = wd at *
          go_wp2_with (at_builtin; first
            | (refine Kd.R_append kEl wo.heap.size rfl (.tmp 35) (.tmp 40) 22 57 _ 136 rfl Tryd.underlying22 infoCls rfl (by decide) (by decide) u5 (nx.map (·.1)) x.1 [.slice x.1.p.a x.1.p.n x.1.p.c, .string x.1.n, .string x.1.s, .bool x.1.b, .slice x.1.f.a x.1.f.n x.1.f.c, .slice x.1.l.a x.1.l.n x.1.l.c, .slice x.1.m.a x.1.m.n x.1.m.c] (fun _ => True) (fun _ => False) (by first | rfl | (go_simp; done) | (go_simp; rfl)) (by first | rfl | (go_simp; done) | (go_simp; rfl)) (kEl_M _ _ _ x.1) (fun _ h => h.elim) (fun _ _ => trivial) HN2.out HB2.out HB2.out.size (by rw [List.length_map]; omega) ?_; intro v1 w1 hR1 hB1 _ _; have HR1 := hid hR1; have HB1 := hid hB1; clear hR1 hB1; obtain ⟨y0', y1', y2', y3', y4', y5', y6'⟩ := HYC.out _ HB1.out)
            | (refine Kd.R_append kEl wo.heap.size rfl (.tmp 42) (.tmp 47) 22 57 _ 136 rfl Tryd.underlying22 infoCls rfl (by decide) (by decide) v1 (nx.map (·.1) ++ [x.1]) y.1 [.slice y.1.p.a y.1.p.n y.1.p.c, .string y.1.n, .string y.1.s, .bool y.1.b, .slice y.1.f.a y.1.f.n y.1.f.c, .slice y.1.l.a y.1.l.n y.1.l.c, .slice y.1.m.a y.1.m.n y.1.m.c] (fun _ => True) (fun _ => False) (by first | rfl | (go_simp; done) | (go_simp; rfl)) (by first | rfl | (go_simp; done) | (go_simp; rfl)) (kEl_M _ _ _ y.1) (fun _ h => h.elim) (fun _ _ => trivial) HR1.out HB1.out HB1.out.size (by rw [List.length_append, List.length_map]; simp; omega) ?_; intro v2 w2 hR2 hB2 _ _; have HR2 := hid hR2; have HB2' := hid hB2; clear hR2 hB2))
          go_roundw
          case rel => exact ⟨k + 1, nx ++ [x] ++ [y], true, by omega, by go_num, rfl, by rw [List.map_append, List.map_append]; exact HR2, HB2', HI1⟩
          case measure => simp [intOf]; omega
        | false =>
          have q1 : Op.bytesLess x.1.n.toList y.1.n.toList = false := HLE.out.trans hq
          have HI1 := hid (HI.out.pass HY.out hq)
          clear hq
          go_wp2_with fail
          go_quiet (fail)
          have HN2 := hid (Kd.R_drewN HN.out nq)
          have HB2 := hid (pw_below_drewN HBs.out nq)
          obtain ⟨y0', y1', y2', y3', y4', y5', y6'⟩ := HYC.out _ HB2.out
          clear y0 y1 y2 y3 y4 y5 y6 zt x0 x1 x2 x3 x4 x5 x6 zs
          generalize wr.drewN nq = wd at *
          go_wp2_with (at_builtin; refine Kd.R_append kEl wo.heap.size rfl (.tmp 42) (.tmp 47) 22 57 _ 136 rfl Tryd.underlying22 infoCls rfl (by decide) (by decide) u5 (nx.map (·.1)) y.1 [.slice y.1.p.a y.1.p.n y.1.p.c, .string y.1.n, .string y.1.s, .bool y.1.b, .slice y.1.f.a y.1.f.n y.1.f.c, .slice y.1.l.a y.1.l.n y.1.l.c, .slice y.1.m.a y.1.m.n y.1.m.c] (fun _ => True) (fun _ => False) (by first | rfl | (go_simp; done) | (go_simp; rfl)) (by first | rfl | (go_simp; done) | (go_simp; rfl)) (kEl_M _ _ _ y.1) (fun _ h => h.elim) (fun _ _ => trivial) HN2.out HB2.out HB2.out.size (by rw [List.length_map]; omega) ?_; intro v1 w1 hR1 hB1 _ _; have HR1 := hid hR1; have HB1 := hid hB1; clear hR1 hB1)
          go_roundw
          case rel => exact ⟨k + 1, nx ++ [y], false, by omega, by go_num, rfl, by rw [List.map_append]; exact HR1, HB1, HI1⟩
          case measure => simp [intOf]; omega
    · obtain rfl : k = i := by omega
      have HALL := hid (HI.out.len)
      have HI2 := hid (show (if put then nx else nx ++ [x]).Perm (x :: R) ∧ SrtdE (if put then nx else nx ++ [x]) from by
        have := HI.out
        rw [← HRL.out] at this
        exact this.all HSR.out)
      have HBW := hid (below_weaken HB.out hzB HBs.out)
      cases put with
      | true =>
        go_wp2
        go_roundw
        case rel => exact ⟨k + 1, nx, by omega, by go_num, Kd.R_lower HN.out hzB, HBW, HNX.out _ HI2.out.1, HI2.out.2⟩
        case measure => simp [intOf]; omega
      | false =>
        obtain ⟨x0, x1, x2, x3, x4, x5, x6⟩ := HXC.out wr HBW.out
        have zs := World.block_lt_of_cell? wr _ x0
        go_wp2_with (at_builtin; refine Kd.R_append kEl wo.heap.size rfl (.tmp 51) (.tmp 56) 22 57 _ 136 rfl Tryd.underlying22 infoCls rfl (by decide) (by decide) u5 (nx.map (·.1)) x.1 [.slice x.1.p.a x.1.p.n x.1.p.c, .string x.1.n, .string x.1.s, .bool x.1.b, .slice x.1.f.a x.1.f.n x.1.f.c, .slice x.1.l.a x.1.l.n x.1.l.c, .slice x.1.m.a x.1.m.n x.1.m.c] (fun _ => True) (fun _ => False) (by first | rfl | (go_simp; done) | (go_simp; rfl)) (by first | rfl | (go_simp; done) | (go_simp; rfl)) (kEl_M _ _ _ x.1) (fun _ h => h.elim) (fun _ _ => trivial) HN.out HBs.out HBs.out.size (by rw [List.length_map]; omega) ?_; intro v1 w1 hR1 hB1 _ _; have HR1 := hid hR1; have HB1 := hid hB1; clear hR1 hB1)
        go_roundw
        case rel => exact ⟨k + 1, nx ++ [x], by omega, by go_num, by rw [List.map_append]; exact Kd.R_lower HR1.out hzB, below_weaken HB.out hzB HB1.out, HNX.out _ HI2.out.1, HI2.out.2⟩
        case measure => simp [intOf]; omega
  · have HF := hid (show R.Perm P from by
      have h1 := HPM.out
      rw [List.take_of_length_le (by rw [HPN.out]; omega)] at h1
      exact h1)
    go_wp2
    go_ret
    exact ⟨_, R, rfl, HR.out, HB.out, HF.out, HSR.out⟩
end Go.Proofs.YtbogcknkkbnfnaaDoor
