/- Part 3 of the proof, over the abstract machine: contracts of the functions that the statement reaches, joined out of several texts. Condition: none beyond those that the lemmas name. -/
import Derived.Test.YtalchcdenhfmiaaDoorP2
namespace Go.Proofs.YtalchcdenhfmiaaDoor.E
open Go Go.Proofs
section
set_option maxRecDepth 4000
theorem calm_map {L : List PF} (hd : ∀ f ∈ L, DV f) (n : Nat) (bs : List Nat) (c : Nat) : Calm n (.map (L.map ent) bs c) := fun id vs _ => by
  show AObj.map ((L.map ent).map fun p => (frz id vs p.1, frz id vs p.2)) bs c = _
  congr 1
  rw [List.map_map]
  refine List.map_congr_left fun f hf => ?_
  show (frz id vs (str f.name), AV.agg (frzL id vs [f.dv, i64 f.last])) = _
  simp only [frzL, frz_dv (id := id) (vs := vs) (hd f hf)]
  rfl
theorem PD.restF {st st' : St} {d m : Nat} {s : PS} (h : PDs st d m s) (hg : ∀ f ∈ s.L, DV f) {S : List Nat} (hr : RestF st st' S) (h1 : d ∉ S) (h2 : m ∉ S) : PDs st' d m s := by
  obtain ⟨bs, c, hm⟩ := h.map
  exact ⟨hr.keep _ _ h1 h.row (fun id vs _ => rfl), bs, c, hr.keep _ _ h2 hm (calm_map hg _ bs c)⟩
/-- the disk's files are the segments of K, with the bytes B -/
structure Segs (s : PS) (K : List Nat) (B : Nat → List Int) : Prop where
  perm : (s.L.map PF.name).Perm (K.map nm)
  inc : K.Pairwise (· < ·)
  r9 : ∀ k ∈ K, 1 ≤ k ∧ k ≤ 9
  len : K.length ≤ 9
  file : ∀ k ∈ K, ∃ j f, find (nm k) s.L = some j ∧ s.L[j]? = some f ∧ f.bytes = B k
theorem Segs.rd {s : PS} {K : List Nat} {B : Nat → List Int} (h : Segs s K B) (hoff : s.off = false) {k : Nat} (hk : k ∈ K) : rdE s.L s.off true (nm k) = 0 := by
  obtain ⟨j, f, h1, _, _⟩ := h.file k hk
  unfold rdE
  rw [hoff, if_neg (by simp), if_neg (fun h' => h' (nm_ok (h.r9 k hk))), if_neg (by rw [h1]; simp)]
structure OpI (σs : St) (w d : Nat) (K : List Nat) (B : Nat → List Int) (i : Nat) (l : AV) (σ : St) : Prop where
  ls : Ls σ 39 2 l (numK B (K.take i)) (cellsK B (K.take i))
  keep : RestF σs σ [w]
  row : σ.get w = some (.row [.ptr d 0, i64 (nxtK K i), i64 (0 : Nat), i64 (0 : Nat)] 54)
  lid : ∀ id, l = .sl id 2 0 (numK B (K.take i)) false → σs.next ≤ id
theorem LR.len {st : St} {l : AV} {R : List (List Int)} (h : LR st l R) : lenA E0 22 l = some (i64 R.length) := by
  rcases h with ⟨rfl, rfl⟩ | ⟨_, id, rfl, _⟩
  · exact lenS0 sl22
  · exact lenS sl22
theorem open_turn {σs : St} {w d m : Nat} {s : PS} {K : List Nat} {B : Nat → List Int} {U : Nat} (hS : Segs s K B) (hp : PDs σs d m s) {vs0 : List AV} (hwr : σs.get w = some (.row vs0 54)) (hwd : w ≠ d) (hwm : w ≠ m) (hw : σs.wf) (hl : σs.lock = []) (hf : Fine s U) (hU : U ≤ 1000000) (hoff : s.off = false) (hN : numK B K ≤ 1000000) {v25 : AV} (hv : Ls σs 3 1 v25 K.length (K.map fun k => i64 (k : Nat)))
    {i : Nat} (hi : i < K.length) {l : AV} {σ : St} (hI : OpI σs w d K B i l σ) :
    ∃ l' σ', OpI σs w d K B (i + 1) l' σ' ∧ ∀ T, f6L4 T (.ptr d 0) (.ptr w 0) l v25 (i64 K.length) (i64 i) →
      AW Tryd.prog (.seq (f6P 5) (.seq (f6P 6) (.seq (.block 2 (.seq (f6P 7) (.seq (f6P 8) (.seq (f6P 9) (.seq (f6P 10) (.seq (.seq (f6P 11) (.block 3 (.loop (f6P 12)))) (f6P 13))))))) (f6P 14)))) (fun ex T' s => ex = .normal ∧ f6L4 T' (.ptr d 0) (.ptr w 0) l' v25 (i64 K.length) (i64 (i + 1 : Nat)) ∧ s = σ') T σ := by
  have hki : K[i]? = some K[i] := List.getElem?_eq_getElem hi
  have hmem := List.getElem_mem hi
  have hk9 := hS.r9 _ hmem
  have hi9 : i < 9 := Nat.lt_of_lt_of_le hi hS.len
  generalize hk : K[i] = k at *
  rcases hv with ⟨e, _⟩ | ⟨_, _, id25, rfl, hg25⟩
  · rw [e] at hi; omega
  have hg25σ := hI.keep.keep id25 _ (by
    simp only [List.mem_singleton]
    intro e; rw [e, hwr] at hg25; simp at hg25) hg25 (fun id vs _ => by simp only [frzO, frz_i64s])
  have hld : loadA E0 σ 3 (.ptr id25 (0 + i * 1)) = some (i64 k) := load_row hg25σ (p3 (by rw [Nat.zero_add, Nat.mul_one, List.getElem?_map, hki]; rfl))
  obtain ⟨σ1, n1, N1⟩ := name_ok hk9 hI.keep.wf
  have hpσ := PD.restF hp (fun f hf' => (hf.good.dv f hf').1) hI.keep (by simp [hwd.symm]) (by simp [hwm.symm])
  have hp1 := PD.rest hpσ N1
  have hl1 : σ1.lock = [] := N1.lock.trans (hI.keep.lock.trans hl)
  obtain ⟨v, σ2, r2, R2, hv2⟩ := read_ok hp1 N1.wf hl1 hf.good (by have := hf.used; unfold big; omega) (nm k)
  rw [hS.rd hoff hmem] at r2 hv2
  rcases hv2 with ⟨h0, _⟩ | ⟨_, j, f, f1, f2, hown, _⟩
  · exact absurd rfl h0
  obtain ⟨j', f', g1, g2, g3⟩ := hS.file k hmem
  obtain rfl : j = j' := by rw [f1] at g1; exact Option.some.inj g1
  obtain rfl : f = f' := by rw [f2] at g2; exact Option.some.inj g2
  rw [g3] at hown
  have hBl : (B k).length ≤ 1000000 := by
    have : f.bytes.length ≤ usedL s.L := by
      have := usedL_put (f' := ⟨f.name, .nils, [], 0⟩) f2
      simp only [List.length_nil] at this
      omega
    rw [← g3]; have := hf.used; omega
  have hl2 : σ2.lock = [] := R2.lock.trans hl1
  obtain ⟨v46, σ3, r3, hL3, R3, _⟩ := split_own R2.wf hl2 hown hBl
  have hls3 : Ls σ3 39 2 l (numK B (K.take i)) (cellsK B (K.take i)) := (((hI.ls.keep fun id _ hg => N1.keep _ _ (by simp) hg).keep fun id _ hg => R2.keep _ _ (by simp) hg)).restF R3 fun id vs => frz_cellsK id vs B _
  have htk : K.take (i + 1) = K.take i ++ [k] := by rw [List.take_add_one, hki]; rfl
  have hnum : numK B (K.take (i + 1)) = numK B (K.take i) + (recs B k).length := by rw [htk]; simp [numK]
  have hnle : numK B (K.take (i + 1)) ≤ numK B K := by
    have : numK B K = numK B (K.take (i + 1)) + numK B (K.drop (i + 1)) := by
      unfold numK
      conv => lhs; rw [← List.take_append_drop (i + 1) K]
      rw [List.map_append, List.sum_append]
    omega
  have hcell : cellsK B (K.take (i + 1)) = cellsK B (K.take i) ++ (recs B k).flatMap (recC k) := by rw [htk]; simp [cellsK]
  have hl3 : σ3.lock = [] := R3.lock.trans hl2
  obtain ⟨l', σ4, a1, a2, a4, a3⟩ := recs_loop (k := k) (d := d) (w := w) (v25 := .sl id25 1 0 K.length false) (n26 := K.length) (n27 := i) hls3 hL3 R3.wf hl3 (by rw [show (splitN (B k).length (B k)) = recs B k from rfl]; omega)
  have K03 : RestF σs σ3 [w] := ((hI.keep.trans (N1.f.weak (by simp))).trans (R2.f.weak (by simp))).trans (R3.weak (by simp))
  have K04 : RestF σs σ4 [w] := KX.restF K03 a2 hI.lid hw
  have hwn : w < σs.next := hw _ _ hwr
  have hw4 : σ4.get w = some (.row [.ptr d 0, i64 (nxtK K i), i64 (0 : Nat), i64 (0 : Nat)] 54) :=
    a2.keep w _ (R3.keep w _ (by simp) (R2.keep _ _ (by simp) (N1.keep _ _ (by simp) hI.row)) fun _ _ _ => rfl) fun e => by have := hI.lid w e; omega
  have hl4 : σ4.lock = [] := a2.lock.trans hl3
  have hst := storeWl hw4 hl4 (k := 1) (by simp) (k + 1 : Nat)
  have K5 : Rest σ4 (σ4.set w (.row ([.ptr d 0, i64 (nxtK K i), i64 (0 : Nat), i64 (0 : Nat)].set 1 (i64 (k + 1 : Nat))) 54)) [w] := Rest.set a2.wf (a2.wf _ _ hw4) _ (by simp)
  have hnx : nxtK K (i + 1) = k + 1 := by
    unfold nxtK
    rw [if_neg (by omega), Nat.add_sub_cancel, List.getD_eq_getElem?_getD, hki]; rfl
  refine ⟨l', _, ⟨?_, K04.trans K5.f, by rw [St.get_set, if_pos rfl, hnx]; rfl, fun id e => ?_⟩, fun T hT => ?_⟩
  · rw [hnum, hcell]
    exact Ls.keep a1 fun id _ hg => by
      rw [St.get_set, if_neg (fun e => by rw [e, hw4] at hg; simp at hg)]; exact hg
  · rcases a4 with e2 | a4
    · rw [e2] at e
      rcases hI.ls with ⟨_, _, h0⟩ | ⟨_, _, id', h0, _⟩
      · rw [h0] at e; cases e
      · have hx := hI.lid id' h0
        rw [h0] at e
        simp only [AV.sl.injEq] at e
        omega
    · have := a4 id (by rw [e, hnum]; rfl)
      have := K03.next
      omega
  · refine AW.andThen (f6_5_T (lssT (by omega)) hT) fun T1 q1 => AW.andThen (f6_6_T q1) fun T2 q2 => ?_
    refine AW.andThen (AW.blockN (L := fun T => f6L4 T (.ptr d 0) (.ptr w 0) l' (.sl id25 1 0 K.length false) (i64 K.length) (i64 i)) ?_) fun T9 q9 => f6_14 (add64 (by omega)) q9
    refine AW.andThen (f6_7 (idxS sl55 hi) hld q2) fun T3 q3 => AW.andThen (f6_8 n1 q3) fun T4 q4 => AW.andThen (f6_9 r2 q4) fun T5 q5 => AW.andThen (f6_10_F (neqF rfl) q5) fun T6 q6 => ?_
    exact AW.andThen (AW.andThen (f6_11 r3 hL3.len q6) fun T7 q7 => a3 T7 q7) fun T8 q8 => f6_13 (add64 (by omega)) hst q8
end
section
set_option maxRecDepth 4000
theorem AW.seqExit {P : Program} {a b : Code} {k : Nat} {L : Tm → Prop} {T : Tm} {st s : St} (h : AW P a (fun ex T' st' => ex = .exit k ∧ L T' ∧ st' = s) T st) : AW P (.seq a b) (fun ex T' st' => ex = .exit k ∧ L T' ∧ st' = s) T st :=
  .seq (h.mono fun ex T' st' ⟨h1, h2, h3⟩ => by subst h1; exact ⟨rfl, h2, h3⟩)
theorem build54 (d : Nat) : buildA E0 54 [(0, .ptr d 0), (1, i64 1)] = some (.agg [.ptr d 0, i64 1, i64 0, i64 0]) := by kernel_rfl
theorem box54 (st : St) (d : Nat) : boxA st 54 (.agg [.ptr d 0, i64 1, i64 0, i64 0]) = some (.ptr st.next 0, st.push (.row [.ptr d 0, i64 1, i64 0, i64 0] 54)) := by kernel_rfl
theorem open_ok {st : St} {d m : Nat} {s : PS} {K : List Nat} {B : Nat → List Int} {U : Nat} (hS : Segs s K B) (hp : PDs st d m s) (hw : st.wf) (hl : st.lock = []) (hf : Fine s U) (hU : U ≤ 1000000) (hoff : s.off = false) (hN : numK B K ≤ 1000000) :
    ∃ v st', obC 6 [.ptr d 0] st (.tup [.ptr st.next 0, v, i64 0]) st' ∧ WA st' st.next d m s (nxtK K K.length) 0 0 ∧ Ls st' 39 2 v (numK B K) (cellsK B K) ∧ RestF st st' [] ∧ ∀ id, v = .sl id 2 0 (numK B K) false → st.next ≤ id := by
  have hob := off_ok hp
  rw [hoff] at hob
  have R1 : Rest st (st.push (.row [.ptr d 0, i64 (1 : Nat), i64 (0 : Nat), i64 (0 : Nat)] 54)) [] := Rest.push hw _ _
  have W1 : WA (st.push (.row [.ptr d 0, i64 (1 : Nat), i64 (0 : Nat), i64 (0 : Nat)] 54)) st.next d m s 1 0 0 := ⟨PD.rest hp R1, by rw [St.get_push, if_pos rfl], R1.wf, hl⟩
  have hbx := box54 st d
  have hnx1 : (st.push (.row [.ptr d 0, i64 (1 : Nat), i64 (0 : Nat), i64 (0 : Nat)] 54)).next = st.next + 1 := rfl
  change boxA st 54 (.agg [.ptr d 0, i64 1, i64 0, i64 0]) = some (.ptr st.next 0, st.push (.row [.ptr d 0, i64 (1 : Nat), i64 (0 : Nat), i64 (0 : Nat)] 54)) at hbx
  generalize st.push (.row [.ptr d 0, i64 (1 : Nat), i64 (0 : Nat), i64 (0 : Nat)] 54) = s1 at *
  obtain ⟨v25, s2, b1, b2, b3, _⟩ := segments_ok W1 hS.perm hS.inc hS.r9 hS.len
  have W2 := W1.rest b3
  obtain ⟨c, c0, inv, step⟩ := chain_seq (σ := AV × St) (fun i p => OpI s2 st.next d K B i p.1 p.2)
    (fun i p p' => ∀ T, f6L4 T (.ptr d 0) (.ptr st.next 0) p.1 v25 (i64 K.length) (i64 i) →
      AW Tryd.prog (.seq (f6P 5) (.seq (f6P 6) (.seq (.block 2 (.seq (f6P 7) (.seq (f6P 8) (.seq (f6P 9) (.seq (f6P 10) (.seq (.seq (f6P 11) (.block 3 (.loop (f6P 12)))) (f6P 13))))))) (f6P 14)))) (fun ex T' s => ex = .normal ∧ f6L4 T' (.ptr d 0) (.ptr st.next 0) p'.1 v25 (i64 K.length) (i64 (i + 1 : Nat)) ∧ s = p'.2) T p.2) K.length (.nils, s2)
    ⟨.inl ⟨by simp [numK], by simp [cellsK], rfl⟩, RestF.refl b3.wf _, W2.row, fun id e => by cases e⟩
    (fun i p hi hI => by
      obtain ⟨l', σ', h1, h2⟩ := open_turn hS W2.disk W2.row W2.wd W2.wm W2.wf W2.lock hf hU hoff hN b2 hi hI
      exact ⟨(l', σ'), h1, h2⟩)
  have hI := inv K.length (Nat.le_refl _)
  have hKt : K.take K.length = K := List.take_of_length_le (Nat.le_refl _)
  have hls := hI.ls
  have hlid := hI.lid
  rw [hKt] at hls hlid
  have R12 : RestF st s2 [] := (R1.trans b3).f
  have R02 : RestF st (c K.length).2 [] := R12.old hI.keep (fun i hi => by rw [List.mem_singleton.1 hi]; exact .inr (Nat.le_refl _)) hw
  refine ⟨(c K.length).1, (c K.length).2, ?_, ⟨PD.restF W2.disk (fun f h => (hf.good.dv f h).1) hI.keep (by simp [W2.wd.symm]) (by simp [W2.wm.symm]), hI.row, hI.keep.wf, hI.keep.lock.trans W2.lock⟩, hls, R02, fun id e => by have := hlid id e; have := R12.next; omega⟩
  refine ACalls.body (E := E0) hE Tryd.func6 f6body ?_
  refine AW.andThen (f6_0 ⟨rfl, rfl⟩) fun T1 q1 => ?_
  refine AW.andThen (f6_1_F hob q1) fun T2 q2 => ?_
  refine AW.andThen (f6_2 (build54 d) hbx q2) fun T3 q3 => ?_
  refine AW.andThen (f6_3 q3) fun T4 q4 => ?_
  refine AW.andThen (AW.andThen (f6_4 b1 (Ls.len sl55 b2) q4) fun T5 q5 => AW.turns (In := fun i T => f6L4 T (.ptr d 0) (.ptr st.next 0) (c i).1 v25 (i64 K.length) (i64 i)) (L := fun T => f6L6 T (.ptr st.next 0) (c K.length).1) (c := fun i => (c i).2) (n := K.length) (sf := (c K.length).2) (by rw [c0]) (by rw [c0]; exact q5) (fun i hi T hT => step i hi T hT)
    (fun T hT => AW.andThen (f6_5_F (lssF (by omega)) hT) fun T6 q6 => AW.seqExit (f6_6_F q6))) fun T7 q7 => ?_
  refine AW.atRet (f6_15 q7) fun T8 q8 => ?_
  refine ⟨[T8.get 2, T8.get 3, T8.get 4], rfl, ?_⟩
  simp only [oneOrTup]
  exact ⟨by rw [q8.2.1, q8.2.2.1, q8.2.2.2], trivial⟩
end
section
set_option maxRecDepth 100000
theorem f15_T_e (st : St) (q : Int) : evCallS Tryd.prog E0 noOv (fun _ => [2008, 7005, 7007]) 100000 15 [(i64 q)] st [.av TT] = some ((.tup [.nilp, (i64 1)]), st, [], [binA E0 .lss 3 (i64 q) (i64 0) = some TT]) := by kernel_rfl
theorem f15_T {st : St} {q : Int} (h1 : binA E0 .lss 3 (i64 q) (i64 0) = some TT) : obC 15 [(i64 q)] st (.tup [.nilp, (i64 1)]) st := ACalls.run hE noOv_ok (f15_T_e st q) (Ob.ok_cons.2 ⟨h1, Ob.ok_nil⟩)
theorem f15_F_e (st s1 : St) (q : Int) (v7 : AV) (a8 : Nat) : evCallS Tryd.prog E0 noOv (fun _ => [2008, 7005, 7007]) 100000 15 [(i64 q)] st [.av FF, .av v7, .eff (.ptr a8 0) (fun _ => s1)] = some ((.tup [(.ptr a8 0), (i64 0)]), s1, [], [binA E0 .lss 3 (i64 q) (i64 0) = some FF, buildA E0 76 [(1, (i64 q))] = some v7, boxA st 76 v7 = some ((.ptr a8 0), s1)]) := by kernel_rfl
theorem f15_F {st s1 : St} {q : Int} {v7 : AV} {a8 : Nat} (h1 : binA E0 .lss 3 (i64 q) (i64 0) = some FF) (h2 : buildA E0 76 [(1, (i64 q))] = some v7) (h3 : boxA st 76 v7 = some ((.ptr a8 0), s1)) : obC 15 [(i64 q)] st (.tup [(.ptr a8 0), (i64 0)]) s1 := ACalls.run hE noOv_ok (f15_F_e st s1 q v7 a8) (Ob.ok_cons.2 ⟨h1, (Ob.ok_cons.2 ⟨h2, (Ob.ok_cons.2 ⟨h3, Ob.ok_nil⟩)⟩)⟩)
noncomputable def f3P (i : Nat) : Code := match Tryd.f3.body with
  | some (.seq x0 (.seq x1 (.seq x2 (.seq x3 (.seq x4 (.seq (.seq x5 (.block 0 (.loop x6))) (.seq x7 (.seq x8 (.seq x9 (.seq x10 (.seq x11 (.seq (.seq x12 (.block 2 (.loop x13))) x14)))))))))))) => [x0, x1, x2, x3, x4, x5, x6, x7, x8, x9, x10, x11, x12, x13, x14].getD i .skip
  | _ => .skip
theorem f3body : Tryd.f3.body = some (.seq (f3P 0) (.seq (f3P 1) (.seq (f3P 2) (.seq (f3P 3) (.seq (f3P 4) (.seq (.seq (f3P 5) (.block 0 (.loop (f3P 6)))) (.seq (f3P 7) (.seq (f3P 8) (.seq (f3P 9) (.seq (f3P 10) (.seq (f3P 11) (.seq (.seq (f3P 12) (.block 2 (.loop (f3P 13)))) (f3P 14))))))))))))) := by kernel_rfl
def f3L0 (T : Tm) (a0 a1 : AV) : Prop := T.n = 137 ∧ T.get 0 = a0 ∧ T.get 1 = a1
theorem f3_0_e (lv : AV) (bf : Int) (st : St) : ((evS Tryd.prog E0 noOv noS 100000 [] (f3P 0) ⟨137, [(0, lv), (1, (i64 bf))], []⟩ st []).map fun q => (q.1, q.2.1.n, ([q.2.1.get 0, q.2.1.get 1] : List AV), q.2.2.1, q.2.2.2.2)) = some (.normal, 137, [lv, (i64 bf)], st, []) := by kernel_rfl
theorem f3_0 {lv : AV} {bf : Int} {st : St}  {T : Tm} (hT : f3L0 T lv (i64 bf)) : AW Tryd.prog (f3P 0) (fun ex T' st' => ex = .normal ∧ f3L0 T' lv (i64 bf) ∧ st' = st) T st := by
  obtain ⟨hn, g0, g1⟩ := hT
  exact (gen_run (G := fun T => ([T.get 0, T.get 1] : List AV)) hE (f3_0_e lv bf st) Ob.ok_nil hn (conz g0 (one g1))).mono fun ex T' st' ⟨q1, q2, q3, q4⟩ => by simp only [List.cons.injEq, and_true] at q3; exact ⟨q1, ⟨q2, q3⟩, q4⟩
def f3L1 (T : Tm) (a0 a1 a5 : AV) : Prop := T.n = 137 ∧ T.get 0 = a0 ∧ T.get 1 = a1 ∧ T.get 5 = a5
theorem f3_1_e (lv : AV) (bf : Int) (st s1 : St) (p21a p21b : Nat) : ((evS Tryd.prog E0 noOv noS 100000 [6005] (f3P 1) ⟨137, [(0, lv), (1, (i64 bf))], []⟩ st [.eff (.tup [(.ptr p21a 0), (.ptr p21b 0)]) (fun _ => s1)]).map fun q => (q.1, q.2.1.n, ([q.2.1.get 0, q.2.1.get 1, q.2.1.get 5] : List AV), q.2.2.1, q.2.2.2.2)) = some (.normal, 137, [lv, (i64 bf), (.ptr p21a 0)], s1, [obC 5 [(i64 1048576)] st (.tup [(.ptr p21a 0), (.ptr p21b 0)]) s1]) := by kernel_rfl
theorem f3_1 {lv : AV} {bf : Int} {st s1 : St} {p21a p21b : Nat} (h1 : obC 5 [(i64 1048576)] st (.tup [(.ptr p21a 0), (.ptr p21b 0)]) s1) {T : Tm} (hT : f3L0 T lv (i64 bf)) : AW Tryd.prog (f3P 1) (fun ex T' st' => ex = .normal ∧ f3L1 T' lv (i64 bf) (.ptr p21a 0) ∧ st' = s1) T st := by
  obtain ⟨hn, g0, g1⟩ := hT
  exact (gen_run (G := fun T => ([T.get 0, T.get 1, T.get 5] : List AV)) hE (f3_1_e lv bf st s1 p21a p21b) (Ob.ok_cons.2 ⟨h1, Ob.ok_nil⟩) hn (conz g0 (one g1))).mono fun ex T' st' ⟨q1, q2, q3, q4⟩ => by simp only [List.cons.injEq, and_true] at q3; exact ⟨q1, ⟨q2, q3⟩, q4⟩
def f3L2 (T : Tm) (a0 a1 a5 a7 a9 : AV) : Prop := T.n = 137 ∧ T.get 0 = a0 ∧ T.get 1 = a1 ∧ T.get 5 = a5 ∧ T.get 7 = a7 ∧ T.get 9 = a9
theorem f3_2_e (lv v26b : AV) (bf n26c : Int) (d p26a : Nat) (st s1 : St) : ((evS Tryd.prog E0 noOv noS 100000 [6006] (f3P 2) ⟨137, [(0, lv), (1, (i64 bf)), (5, (.ptr d 0))], []⟩ st [.eff (.tup [(.ptr p26a 0), v26b, (i64 n26c)]) (fun _ => s1)]).map fun q => (q.1, q.2.1.n, ([q.2.1.get 0, q.2.1.get 1, q.2.1.get 5, q.2.1.get 7, q.2.1.get 9] : List AV), q.2.2.1, q.2.2.2.2)) = some (.normal, 137, [lv, (i64 bf), (.ptr d 0), (.ptr p26a 0), (i64 n26c)], s1, [obC 6 [(.ptr d 0)] st (.tup [(.ptr p26a 0), v26b, (i64 n26c)]) s1]) := by kernel_rfl
theorem f3_2 {lv v26b : AV} {bf n26c : Int} {d p26a : Nat} {st s1 : St} (h1 : obC 6 [(.ptr d 0)] st (.tup [(.ptr p26a 0), v26b, (i64 n26c)]) s1) {T : Tm} (hT : f3L1 T lv (i64 bf) (.ptr d 0)) : AW Tryd.prog (f3P 2) (fun ex T' st' => ex = .normal ∧ f3L2 T' lv (i64 bf) (.ptr d 0) (.ptr p26a 0) (i64 n26c) ∧ st' = s1) T st := by
  obtain ⟨hn, g0, g1, g5⟩ := hT
  exact (gen_run (G := fun T => ([T.get 0, T.get 1, T.get 5, T.get 7, T.get 9] : List AV)) hE (f3_2_e lv v26b bf n26c d p26a st s1) (Ob.ok_cons.2 ⟨h1, Ob.ok_nil⟩) hn (conz g0 (conz g1 (one g5)))).mono fun ex T' st' ⟨q1, q2, q3, q4⟩ => by simp only [List.cons.injEq, and_true] at q3; exact ⟨q1, ⟨q2, q3⟩, q4⟩
def f3L3 (T : Tm) (a4 : AV) : Prop := T.n = 137 ∧ T.get 4 = a4
theorem f3_3_TT_e (lv : AV) (bf n9 : Int) (d w : Nat) (st s1 : St) : ((evS Tryd.prog E0 noOv noS 100000 [6007, 7034] (f3P 3) ⟨137, [(0, lv), (1, (i64 bf)), (5, (.ptr d 0)), (7, (.ptr w 0)), (9, (i64 n9))], []⟩ st [.eff TT (fun _ => s1), .av TT]).map fun q => (q.1, q.2.1.n, ([q.2.1.get 4] : List AV), q.2.2.1, q.2.2.2.2)) = some (.ret, 137, [FF], s1, [obC 7 [] st TT s1, binA E0 .neq 29 (i64 n9) (i64 0) = some TT]) := by kernel_rfl
theorem f3_3_TT {lv : AV} {bf n9 : Int} {d w : Nat} {st s1 : St} (h1 : obC 7 [] st TT s1) (h2 : binA E0 .neq 29 (i64 n9) (i64 0) = some TT) {T : Tm} (hT : f3L2 T lv (i64 bf) (.ptr d 0) (.ptr w 0) (i64 n9)) : AW Tryd.prog (f3P 3) (fun ex T' st' => ex = .ret ∧ f3L3 T' FF ∧ st' = s1) T st := by
  obtain ⟨hn, g0, g1, g5, g7, g9⟩ := hT
  exact (gen_run (G := fun T => ([T.get 4] : List AV)) hE (f3_3_TT_e lv bf n9 d w st s1) (Ob.ok_cons.2 ⟨h1, (Ob.ok_cons.2 ⟨h2, Ob.ok_nil⟩)⟩) hn (conz g0 (conz g1 (conz g5 (conz g7 (one g9)))))).mono fun ex T' st' ⟨q1, q2, q3, q4⟩ => by simp only [List.cons.injEq, and_true] at q3; exact ⟨q1, ⟨q2, q3⟩, q4⟩
def f3L4 (T : Tm) (a0 a1 a5 a7 : AV) : Prop := T.n = 137 ∧ T.get 0 = a0 ∧ T.get 1 = a1 ∧ T.get 5 = a5 ∧ T.get 7 = a7
theorem f3_3_TF_e (lv : AV) (bf n9 : Int) (d w : Nat) (st s1 : St) : ((evS Tryd.prog E0 noOv noS 100000 [6007, 7034] (f3P 3) ⟨137, [(0, lv), (1, (i64 bf)), (5, (.ptr d 0)), (7, (.ptr w 0)), (9, (i64 n9))], []⟩ st [.eff TT (fun _ => s1), .av FF]).map fun q => (q.1, q.2.1.n, ([q.2.1.get 0, q.2.1.get 1, q.2.1.get 5, q.2.1.get 7] : List AV), q.2.2.1, q.2.2.2.2)) = some (.normal, 137, [lv, (i64 bf), (.ptr d 0), (.ptr w 0)], s1, [obC 7 [] st TT s1, binA E0 .neq 29 (i64 n9) (i64 0) = some FF]) := by kernel_rfl
theorem f3_3_TF {lv : AV} {bf n9 : Int} {d w : Nat} {st s1 : St} (h1 : obC 7 [] st TT s1) (h2 : binA E0 .neq 29 (i64 n9) (i64 0) = some FF) {T : Tm} (hT : f3L2 T lv (i64 bf) (.ptr d 0) (.ptr w 0) (i64 n9)) : AW Tryd.prog (f3P 3) (fun ex T' st' => ex = .normal ∧ f3L4 T' lv (i64 bf) (.ptr d 0) (.ptr w 0) ∧ st' = s1) T st := by
  obtain ⟨hn, g0, g1, g5, g7, g9⟩ := hT
  exact (gen_run (G := fun T => ([T.get 0, T.get 1, T.get 5, T.get 7] : List AV)) hE (f3_3_TF_e lv bf n9 d w st s1) (Ob.ok_cons.2 ⟨h1, (Ob.ok_cons.2 ⟨h2, Ob.ok_nil⟩)⟩) hn (conz g0 (conz g1 (conz g5 (conz g7 (one g9)))))).mono fun ex T' st' ⟨q1, q2, q3, q4⟩ => by simp only [List.cons.injEq, and_true] at q3; exact ⟨q1, ⟨q2, q3⟩, q4⟩
theorem f3_3_F_e (lv : AV) (bf n9 : Int) (d w : Nat) (st s1 : St) : ((evS Tryd.prog E0 noOv noS 100000 [6007, 7034] (f3P 3) ⟨137, [(0, lv), (1, (i64 bf)), (5, (.ptr d 0)), (7, (.ptr w 0)), (9, (i64 n9))], []⟩ st [.eff FF (fun _ => s1)]).map fun q => (q.1, q.2.1.n, ([q.2.1.get 4] : List AV), q.2.2.1, q.2.2.2.2)) = some (.ret, 137, [FF], s1, [obC 7 [] st FF s1]) := by kernel_rfl
theorem f3_3_F {lv : AV} {bf n9 : Int} {d w : Nat} {st s1 : St} (h1 : obC 7 [] st FF s1) {T : Tm} (hT : f3L2 T lv (i64 bf) (.ptr d 0) (.ptr w 0) (i64 n9)) : AW Tryd.prog (f3P 3) (fun ex T' st' => ex = .ret ∧ f3L3 T' FF ∧ st' = s1) T st := by
  obtain ⟨hn, g0, g1, g5, g7, g9⟩ := hT
  exact (gen_run (G := fun T => ([T.get 4] : List AV)) hE (f3_3_F_e lv bf n9 d w st s1) (Ob.ok_cons.2 ⟨h1, Ob.ok_nil⟩) hn (conz g0 (conz g1 (conz g5 (conz g7 (one g9)))))).mono fun ex T' st' ⟨q1, q2, q3, q4⟩ => by simp only [List.cons.injEq, and_true] at q3; exact ⟨q1, ⟨q2, q3⟩, q4⟩
def f3L5 (T : Tm) (a0 a1 a5 a7 a10 : AV) : Prop := T.n = 137 ∧ T.get 0 = a0 ∧ T.get 1 = a1 ∧ T.get 5 = a5 ∧ T.get 7 = a7 ∧ T.get 10 = a10
theorem f3_4_e (lv : AV) (bf : Int) (d w : Nat) (st : St) : ((evS Tryd.prog E0 noOv noS 100000 [] (f3P 4) ⟨137, [(0, lv), (1, (i64 bf)), (5, (.ptr d 0)), (7, (.ptr w 0))], []⟩ st []).map fun q => (q.1, q.2.1.n, ([q.2.1.get 0, q.2.1.get 1, q.2.1.get 5, q.2.1.get 7, q.2.1.get 10] : List AV), q.2.2.1, q.2.2.2.2)) = some (.normal, 137, [lv, (i64 bf), (.ptr d 0), (.ptr w 0), (i64 0)], st, []) := by kernel_rfl
theorem f3_4 {lv : AV} {bf : Int} {d w : Nat} {st : St}  {T : Tm} (hT : f3L4 T lv (i64 bf) (.ptr d 0) (.ptr w 0)) : AW Tryd.prog (f3P 4) (fun ex T' st' => ex = .normal ∧ f3L5 T' lv (i64 bf) (.ptr d 0) (.ptr w 0) (i64 0) ∧ st' = st) T st := by
  obtain ⟨hn, g0, g1, g5, g7⟩ := hT
  exact (gen_run (G := fun T => ([T.get 0, T.get 1, T.get 5, T.get 7, T.get 10] : List AV)) hE (f3_4_e lv bf d w st) Ob.ok_nil hn (conz g0 (conz g1 (conz g5 (one g7))))).mono fun ex T' st' ⟨q1, q2, q3, q4⟩ => by simp only [List.cons.injEq, and_true] at q3; exact ⟨q1, ⟨q2, q3⟩, q4⟩
def f3L6 (T : Tm) (a1 a5 a7 a10 a36 a37 a38 : AV) : Prop := T.n = 137 ∧ T.get 1 = a1 ∧ T.get 5 = a5 ∧ T.get 7 = a7 ∧ T.get 10 = a10 ∧ T.get 36 = a36 ∧ T.get 37 = a37 ∧ T.get 38 = a38
theorem f3_5_e (lv : AV) (bf n10 n37 : Int) (d w : Nat) (st : St) : ((evS Tryd.prog E0 noOv noS 100000 [7037] (f3P 5) ⟨137, [(0, lv), (1, (i64 bf)), (5, (.ptr d 0)), (7, (.ptr w 0)), (10, (i64 n10))], []⟩ st [.av (i64 n37)]).map fun q => (q.1, q.2.1.n, ([q.2.1.get 1, q.2.1.get 5, q.2.1.get 7, q.2.1.get 10, q.2.1.get 36, q.2.1.get 37, q.2.1.get 38] : List AV), q.2.2.1, q.2.2.2.2)) = some (.normal, 137, [(i64 bf), (.ptr d 0), (.ptr w 0), (i64 n10), lv, (i64 n37), (i64 0)], st, [lenA E0 22 lv = some (i64 n37)]) := by kernel_rfl
theorem f3_5 {lv : AV} {bf n10 n37 : Int} {d w : Nat} {st : St} (h1 : lenA E0 22 lv = some (i64 n37)) {T : Tm} (hT : f3L5 T lv (i64 bf) (.ptr d 0) (.ptr w 0) (i64 n10)) : AW Tryd.prog (f3P 5) (fun ex T' st' => ex = .normal ∧ f3L6 T' (i64 bf) (.ptr d 0) (.ptr w 0) (i64 n10) lv (i64 n37) (i64 0) ∧ st' = st) T st := by
  obtain ⟨hn, g0, g1, g5, g7, g10⟩ := hT
  exact (gen_run (G := fun T => ([T.get 1, T.get 5, T.get 7, T.get 10, T.get 36, T.get 37, T.get 38] : List AV)) hE (f3_5_e lv bf n10 n37 d w st) (Ob.ok_cons.2 ⟨h1, Ob.ok_nil⟩) hn (conz g0 (conz g1 (conz g5 (conz g7 (one g10)))))).mono fun ex T' st' ⟨q1, q2, q3, q4⟩ => by simp only [List.cons.injEq, and_true] at q3; exact ⟨q1, ⟨q2, q3⟩, q4⟩
def f3L7 (T : Tm) (a1 a5 a7 a10 : AV) : Prop := T.n = 137 ∧ T.get 1 = a1 ∧ T.get 5 = a5 ∧ T.get 7 = a7 ∧ T.get 10 = a10
theorem f3_6_TT_e (bf n10 n37 n38 : Int) (d w : Nat) (v36 q41 v42 : AV) (st : St) : ((evS Tryd.prog E0 noOv noS 100000 [2042, 6008, 7039, 7041, 7044, 7046, 7047, 7050, 7051, 7060, 7061] (f3P 6) ⟨137, [(1, (i64 bf)), (5, (.ptr d 0)), (7, (.ptr w 0)), (10, (i64 n10)), (36, v36), (37, (i64 n37)), (38, (i64 n38))], []⟩ st [.av TT, .av q41, .eff v42 id, .av TT]).map fun q => (q.1, q.2.1.n, ([q.2.1.get 1, q.2.1.get 5, q.2.1.get 7, q.2.1.get 10] : List AV), q.2.2.1, q.2.2.2.2)) = some ((.exit 0), 137, [(i64 bf), (.ptr d 0), (.ptr w 0), (i64 n10)], st, [binA E0 .lss 3 (i64 n38) (i64 n37) = some TT, indexAddrA E0 22 v36 (i64 n38) = some q41, loadA E0 st 33 q41 = some v42 ∧ st = st, binA E0 .eql 3 (i64 n38) (i64 60) = some TT]) := by kernel_rfl
theorem f3_6_TT {bf n10 n37 n38 : Int} {d w : Nat} {v36 q41 v42 : AV} {st : St} (h1 : binA E0 .lss 3 (i64 n38) (i64 n37) = some TT) (h2 : indexAddrA E0 22 v36 (i64 n38) = some q41) (h3 : loadA E0 st 33 q41 = some v42) (h4 : binA E0 .eql 3 (i64 n38) (i64 60) = some TT) {T : Tm} (hT : f3L6 T (i64 bf) (.ptr d 0) (.ptr w 0) (i64 n10) v36 (i64 n37) (i64 n38)) : AW Tryd.prog (f3P 6) (fun ex T' st' => ex = (.exit 0) ∧ f3L7 T' (i64 bf) (.ptr d 0) (.ptr w 0) (i64 n10) ∧ st' = st) T st := by
  obtain ⟨hn, g1, g5, g7, g10, g36, g37, g38⟩ := hT
  exact (gen_run (G := fun T => ([T.get 1, T.get 5, T.get 7, T.get 10] : List AV)) hE (f3_6_TT_e bf n10 n37 n38 d w v36 q41 v42 st) (Ob.ok_cons.2 ⟨h1, (Ob.ok_cons.2 ⟨h2, (Ob.ok_cons.2 ⟨⟨h3, rfl⟩, (Ob.ok_cons.2 ⟨h4, Ob.ok_nil⟩)⟩)⟩)⟩) hn (conz g1 (conz g5 (conz g7 (conz g10 (conz g36 (conz g37 (one g38)))))))).mono fun ex T' st' ⟨q1, q2, q3, q4⟩ => by simp only [List.cons.injEq, and_true] at q3; exact ⟨q1, ⟨q2, q3⟩, q4⟩
theorem f3_6_TFT_e (bf n10 n37 n38 n46 n61 : Int) (d w : Nat) (v36 q41 v42 : AV) (st : St) : ((evS Tryd.prog E0 noOv noS 100000 [2042, 6008, 7039, 7041, 7044, 7046, 7047, 7050, 7051, 7060, 7061] (f3P 6) ⟨137, [(1, (i64 bf)), (5, (.ptr d 0)), (7, (.ptr w 0)), (10, (i64 n10)), (36, v36), (37, (i64 n37)), (38, (i64 n38))], []⟩ st [.av TT, .av q41, .eff v42 id, .av FF, .av (i64 n46), .av TT, .av (i64 n61)]).map fun q => (q.1, q.2.1.n, ([q.2.1.get 1, q.2.1.get 5, q.2.1.get 7, q.2.1.get 10, q.2.1.get 36, q.2.1.get 37, q.2.1.get 38] : List AV), q.2.2.1, q.2.2.2.2)) = some (.normal, 137, [(i64 bf), (.ptr d 0), (.ptr w 0), (i64 n10), v36, (i64 n37), (i64 n61)], st, [binA E0 .lss 3 (i64 n38) (i64 n37) = some TT, indexAddrA E0 22 v36 (i64 n38) = some q41, loadA E0 st 33 q41 = some v42 ∧ st = st, binA E0 .eql 3 (i64 n38) (i64 60) = some FF, lenA E0 33 v42 = some (i64 n46), binA E0 .eql 3 (i64 n46) (i64 0) = some TT, binA E0 .add 3 (i64 n38) (i64 1) = some (i64 n61)]) := by kernel_rfl
theorem f3_6_TFT {bf n10 n37 n38 n46 n61 : Int} {d w : Nat} {v36 q41 v42 : AV} {st : St} (h1 : binA E0 .lss 3 (i64 n38) (i64 n37) = some TT) (h2 : indexAddrA E0 22 v36 (i64 n38) = some q41) (h3 : loadA E0 st 33 q41 = some v42) (h4 : binA E0 .eql 3 (i64 n38) (i64 60) = some FF) (h5 : lenA E0 33 v42 = some (i64 n46)) (h6 : binA E0 .eql 3 (i64 n46) (i64 0) = some TT) (h7 : binA E0 .add 3 (i64 n38) (i64 1) = some (i64 n61)) {T : Tm} (hT : f3L6 T (i64 bf) (.ptr d 0) (.ptr w 0) (i64 n10) v36 (i64 n37) (i64 n38)) : AW Tryd.prog (f3P 6) (fun ex T' st' => ex = .normal ∧ f3L6 T' (i64 bf) (.ptr d 0) (.ptr w 0) (i64 n10) v36 (i64 n37) (i64 n61) ∧ st' = st) T st := by
  obtain ⟨hn, g1, g5, g7, g10, g36, g37, g38⟩ := hT
  exact (gen_run (G := fun T => ([T.get 1, T.get 5, T.get 7, T.get 10, T.get 36, T.get 37, T.get 38] : List AV)) hE (f3_6_TFT_e bf n10 n37 n38 n46 n61 d w v36 q41 v42 st) (Ob.ok_cons.2 ⟨h1, (Ob.ok_cons.2 ⟨h2, (Ob.ok_cons.2 ⟨⟨h3, rfl⟩, (Ob.ok_cons.2 ⟨h4, (Ob.ok_cons.2 ⟨h5, (Ob.ok_cons.2 ⟨h6, (Ob.ok_cons.2 ⟨h7, Ob.ok_nil⟩)⟩)⟩)⟩)⟩)⟩)⟩) hn (conz g1 (conz g5 (conz g7 (conz g10 (conz g36 (conz g37 (one g38)))))))).mono fun ex T' st' ⟨q1, q2, q3, q4⟩ => by simp only [List.cons.injEq, and_true] at q3; exact ⟨q1, ⟨q2, q3⟩, q4⟩
theorem f3_6_TFFT_e (bf n10 n37 n38 n46 n50 n61 : Int) (d w : Nat) (v36 q41 v42 : AV) (st : St) : ((evS Tryd.prog E0 noOv noS 100000 [2042, 6008, 7039, 7041, 7044, 7046, 7047, 7050, 7051, 7060, 7061] (f3P 6) ⟨137, [(1, (i64 bf)), (5, (.ptr d 0)), (7, (.ptr w 0)), (10, (i64 n10)), (36, v36), (37, (i64 n37)), (38, (i64 n38))], []⟩ st [.av TT, .av q41, .eff v42 id, .av FF, .av (i64 n46), .av FF, .av (i64 n50), .av TT, .av (i64 n61)]).map fun q => (q.1, q.2.1.n, ([q.2.1.get 1, q.2.1.get 5, q.2.1.get 7, q.2.1.get 10, q.2.1.get 36, q.2.1.get 37, q.2.1.get 38] : List AV), q.2.2.1, q.2.2.2.2)) = some (.normal, 137, [(i64 bf), (.ptr d 0), (.ptr w 0), (i64 n10), v36, (i64 n37), (i64 n61)], st, [binA E0 .lss 3 (i64 n38) (i64 n37) = some TT, indexAddrA E0 22 v36 (i64 n38) = some q41, loadA E0 st 33 q41 = some v42 ∧ st = st, binA E0 .eql 3 (i64 n38) (i64 60) = some FF, lenA E0 33 v42 = some (i64 n46), binA E0 .eql 3 (i64 n46) (i64 0) = some FF, lenA E0 33 v42 = some (i64 n50), binA E0 .gtr 3 (i64 n50) (i64 500) = some TT, binA E0 .add 3 (i64 n38) (i64 1) = some (i64 n61)]) := by kernel_rfl
theorem f3_6_TFFT {bf n10 n37 n38 n46 n50 n61 : Int} {d w : Nat} {v36 q41 v42 : AV} {st : St} (h1 : binA E0 .lss 3 (i64 n38) (i64 n37) = some TT) (h2 : indexAddrA E0 22 v36 (i64 n38) = some q41) (h3 : loadA E0 st 33 q41 = some v42) (h4 : binA E0 .eql 3 (i64 n38) (i64 60) = some FF) (h5 : lenA E0 33 v42 = some (i64 n46)) (h6 : binA E0 .eql 3 (i64 n46) (i64 0) = some FF) (h7 : lenA E0 33 v42 = some (i64 n50)) (h8 : binA E0 .gtr 3 (i64 n50) (i64 500) = some TT) (h9 : binA E0 .add 3 (i64 n38) (i64 1) = some (i64 n61)) {T : Tm} (hT : f3L6 T (i64 bf) (.ptr d 0) (.ptr w 0) (i64 n10) v36 (i64 n37) (i64 n38)) : AW Tryd.prog (f3P 6) (fun ex T' st' => ex = .normal ∧ f3L6 T' (i64 bf) (.ptr d 0) (.ptr w 0) (i64 n10) v36 (i64 n37) (i64 n61) ∧ st' = st) T st := by
  obtain ⟨hn, g1, g5, g7, g10, g36, g37, g38⟩ := hT
  exact (gen_run (G := fun T => ([T.get 1, T.get 5, T.get 7, T.get 10, T.get 36, T.get 37, T.get 38] : List AV)) hE (f3_6_TFFT_e bf n10 n37 n38 n46 n50 n61 d w v36 q41 v42 st) (Ob.ok_cons.2 ⟨h1, (Ob.ok_cons.2 ⟨h2, (Ob.ok_cons.2 ⟨⟨h3, rfl⟩, (Ob.ok_cons.2 ⟨h4, (Ob.ok_cons.2 ⟨h5, (Ob.ok_cons.2 ⟨h6, (Ob.ok_cons.2 ⟨h7, (Ob.ok_cons.2 ⟨h8, (Ob.ok_cons.2 ⟨h9, Ob.ok_nil⟩)⟩)⟩)⟩)⟩)⟩)⟩)⟩)⟩) hn (conz g1 (conz g5 (conz g7 (conz g10 (conz g36 (conz g37 (one g38)))))))).mono fun ex T' st' ⟨q1, q2, q3, q4⟩ => by simp only [List.cons.injEq, and_true] at q3; exact ⟨q1, ⟨q2, q3⟩, q4⟩
theorem f3_6_TFFFT_e (bf n10 n37 n38 n46 n50 n56a n56b : Int) (d w : Nat) (v36 q41 v42 : AV) (st s1 : St) : ((evS Tryd.prog E0 noOv noS 100000 [2042, 6008, 7039, 7041, 7044, 7046, 7047, 7050, 7051, 7060, 7061] (f3P 6) ⟨137, [(1, (i64 bf)), (5, (.ptr d 0)), (7, (.ptr w 0)), (10, (i64 n10)), (36, v36), (37, (i64 n37)), (38, (i64 n38))], []⟩ st [.av TT, .av q41, .eff v42 id, .av FF, .av (i64 n46), .av FF, .av (i64 n50), .av FF, .eff (.tup [(i64 n56a), (i64 n56b)]) (fun _ => s1), .av TT]).map fun q => (q.1, q.2.1.n, ([q.2.1.get 4] : List AV), q.2.2.1, q.2.2.2.2)) = some (.ret, 137, [FF], s1, [binA E0 .lss 3 (i64 n38) (i64 n37) = some TT, indexAddrA E0 22 v36 (i64 n38) = some q41, loadA E0 st 33 q41 = some v42 ∧ st = st, binA E0 .eql 3 (i64 n38) (i64 60) = some FF, lenA E0 33 v42 = some (i64 n46), binA E0 .eql 3 (i64 n46) (i64 0) = some FF, lenA E0 33 v42 = some (i64 n50), binA E0 .gtr 3 (i64 n50) (i64 500) = some FF, obC 8 [(.ptr w 0), v42] st (.tup [(i64 n56a), (i64 n56b)]) s1, binA E0 .neq 29 (i64 n56b) (i64 0) = some TT]) := by kernel_rfl
theorem f3_6_TFFFT {bf n10 n37 n38 n46 n50 n56a n56b : Int} {d w : Nat} {v36 q41 v42 : AV} {st s1 : St} (h1 : binA E0 .lss 3 (i64 n38) (i64 n37) = some TT) (h2 : indexAddrA E0 22 v36 (i64 n38) = some q41) (h3 : loadA E0 st 33 q41 = some v42) (h4 : binA E0 .eql 3 (i64 n38) (i64 60) = some FF) (h5 : lenA E0 33 v42 = some (i64 n46)) (h6 : binA E0 .eql 3 (i64 n46) (i64 0) = some FF) (h7 : lenA E0 33 v42 = some (i64 n50)) (h8 : binA E0 .gtr 3 (i64 n50) (i64 500) = some FF) (h9 : obC 8 [(.ptr w 0), v42] st (.tup [(i64 n56a), (i64 n56b)]) s1) (h10 : binA E0 .neq 29 (i64 n56b) (i64 0) = some TT) {T : Tm} (hT : f3L6 T (i64 bf) (.ptr d 0) (.ptr w 0) (i64 n10) v36 (i64 n37) (i64 n38)) : AW Tryd.prog (f3P 6) (fun ex T' st' => ex = .ret ∧ f3L3 T' FF ∧ st' = s1) T st := by
  obtain ⟨hn, g1, g5, g7, g10, g36, g37, g38⟩ := hT
  exact (gen_run (G := fun T => ([T.get 4] : List AV)) hE (f3_6_TFFFT_e bf n10 n37 n38 n46 n50 n56a n56b d w v36 q41 v42 st s1) (Ob.ok_cons.2 ⟨h1, (Ob.ok_cons.2 ⟨h2, (Ob.ok_cons.2 ⟨⟨h3, rfl⟩, (Ob.ok_cons.2 ⟨h4, (Ob.ok_cons.2 ⟨h5, (Ob.ok_cons.2 ⟨h6, (Ob.ok_cons.2 ⟨h7, (Ob.ok_cons.2 ⟨h8, (Ob.ok_cons.2 ⟨h9, (Ob.ok_cons.2 ⟨h10, Ob.ok_nil⟩)⟩)⟩)⟩)⟩)⟩)⟩)⟩)⟩)⟩) hn (conz g1 (conz g5 (conz g7 (conz g10 (conz g36 (conz g37 (one g38)))))))).mono fun ex T' st' ⟨q1, q2, q3, q4⟩ => by simp only [List.cons.injEq, and_true] at q3; exact ⟨q1, ⟨q2, q3⟩, q4⟩
theorem f3_6_TFFFF_e (bf n10 n37 n38 n46 n50 n56a n56b n61 : Int) (d w : Nat) (v36 q41 v42 : AV) (st s1 : St) : ((evS Tryd.prog E0 noOv noS 100000 [2042, 6008, 7039, 7041, 7044, 7046, 7047, 7050, 7051, 7060, 7061] (f3P 6) ⟨137, [(1, (i64 bf)), (5, (.ptr d 0)), (7, (.ptr w 0)), (10, (i64 n10)), (36, v36), (37, (i64 n37)), (38, (i64 n38))], []⟩ st [.av TT, .av q41, .eff v42 id, .av FF, .av (i64 n46), .av FF, .av (i64 n50), .av FF, .eff (.tup [(i64 n56a), (i64 n56b)]) (fun _ => s1), .av FF, .av (i64 n61)]).map fun q => (q.1, q.2.1.n, ([q.2.1.get 1, q.2.1.get 5, q.2.1.get 7, q.2.1.get 10, q.2.1.get 36, q.2.1.get 37, q.2.1.get 38] : List AV), q.2.2.1, q.2.2.2.2)) = some (.normal, 137, [(i64 bf), (.ptr d 0), (.ptr w 0), (i64 n56a), v36, (i64 n37), (i64 n61)], s1, [binA E0 .lss 3 (i64 n38) (i64 n37) = some TT, indexAddrA E0 22 v36 (i64 n38) = some q41, loadA E0 st 33 q41 = some v42 ∧ st = st, binA E0 .eql 3 (i64 n38) (i64 60) = some FF, lenA E0 33 v42 = some (i64 n46), binA E0 .eql 3 (i64 n46) (i64 0) = some FF, lenA E0 33 v42 = some (i64 n50), binA E0 .gtr 3 (i64 n50) (i64 500) = some FF, obC 8 [(.ptr w 0), v42] st (.tup [(i64 n56a), (i64 n56b)]) s1, binA E0 .neq 29 (i64 n56b) (i64 0) = some FF, binA E0 .add 3 (i64 n38) (i64 1) = some (i64 n61)]) := by kernel_rfl
theorem f3_6_TFFFF {bf n10 n37 n38 n46 n50 n56a n56b n61 : Int} {d w : Nat} {v36 q41 v42 : AV} {st s1 : St} (h1 : binA E0 .lss 3 (i64 n38) (i64 n37) = some TT) (h2 : indexAddrA E0 22 v36 (i64 n38) = some q41) (h3 : loadA E0 st 33 q41 = some v42) (h4 : binA E0 .eql 3 (i64 n38) (i64 60) = some FF) (h5 : lenA E0 33 v42 = some (i64 n46)) (h6 : binA E0 .eql 3 (i64 n46) (i64 0) = some FF) (h7 : lenA E0 33 v42 = some (i64 n50)) (h8 : binA E0 .gtr 3 (i64 n50) (i64 500) = some FF) (h9 : obC 8 [(.ptr w 0), v42] st (.tup [(i64 n56a), (i64 n56b)]) s1) (h10 : binA E0 .neq 29 (i64 n56b) (i64 0) = some FF) (h11 : binA E0 .add 3 (i64 n38) (i64 1) = some (i64 n61)) {T : Tm} (hT : f3L6 T (i64 bf) (.ptr d 0) (.ptr w 0) (i64 n10) v36 (i64 n37) (i64 n38)) : AW Tryd.prog (f3P 6) (fun ex T' st' => ex = .normal ∧ f3L6 T' (i64 bf) (.ptr d 0) (.ptr w 0) (i64 n56a) v36 (i64 n37) (i64 n61) ∧ st' = s1) T st := by
  obtain ⟨hn, g1, g5, g7, g10, g36, g37, g38⟩ := hT
  exact (gen_run (G := fun T => ([T.get 1, T.get 5, T.get 7, T.get 10, T.get 36, T.get 37, T.get 38] : List AV)) hE (f3_6_TFFFF_e bf n10 n37 n38 n46 n50 n56a n56b n61 d w v36 q41 v42 st s1) (Ob.ok_cons.2 ⟨h1, (Ob.ok_cons.2 ⟨h2, (Ob.ok_cons.2 ⟨⟨h3, rfl⟩, (Ob.ok_cons.2 ⟨h4, (Ob.ok_cons.2 ⟨h5, (Ob.ok_cons.2 ⟨h6, (Ob.ok_cons.2 ⟨h7, (Ob.ok_cons.2 ⟨h8, (Ob.ok_cons.2 ⟨h9, (Ob.ok_cons.2 ⟨h10, (Ob.ok_cons.2 ⟨h11, Ob.ok_nil⟩)⟩)⟩)⟩)⟩)⟩)⟩)⟩)⟩)⟩)⟩) hn (conz g1 (conz g5 (conz g7 (conz g10 (conz g36 (conz g37 (one g38)))))))).mono fun ex T' st' ⟨q1, q2, q3, q4⟩ => by simp only [List.cons.injEq, and_true] at q3; exact ⟨q1, ⟨q2, q3⟩, q4⟩
theorem f3_6_F_e (bf n10 n37 n38 : Int) (d w : Nat) (v36 : AV) (st : St) : ((evS Tryd.prog E0 noOv noS 100000 [2042, 6008, 7039, 7041, 7044, 7046, 7047, 7050, 7051, 7060, 7061] (f3P 6) ⟨137, [(1, (i64 bf)), (5, (.ptr d 0)), (7, (.ptr w 0)), (10, (i64 n10)), (36, v36), (37, (i64 n37)), (38, (i64 n38))], []⟩ st [.av FF]).map fun q => (q.1, q.2.1.n, ([q.2.1.get 1, q.2.1.get 5, q.2.1.get 7, q.2.1.get 10] : List AV), q.2.2.1, q.2.2.2.2)) = some ((.exit 0), 137, [(i64 bf), (.ptr d 0), (.ptr w 0), (i64 n10)], st, [binA E0 .lss 3 (i64 n38) (i64 n37) = some FF]) := by kernel_rfl
theorem f3_6_F {bf n10 n37 n38 : Int} {d w : Nat} {v36 : AV} {st : St} (h1 : binA E0 .lss 3 (i64 n38) (i64 n37) = some FF) {T : Tm} (hT : f3L6 T (i64 bf) (.ptr d 0) (.ptr w 0) (i64 n10) v36 (i64 n37) (i64 n38)) : AW Tryd.prog (f3P 6) (fun ex T' st' => ex = (.exit 0) ∧ f3L7 T' (i64 bf) (.ptr d 0) (.ptr w 0) (i64 n10) ∧ st' = st) T st := by
  obtain ⟨hn, g1, g5, g7, g10, g36, g37, g38⟩ := hT
  exact (gen_run (G := fun T => ([T.get 1, T.get 5, T.get 7, T.get 10] : List AV)) hE (f3_6_F_e bf n10 n37 n38 d w v36 st) (Ob.ok_cons.2 ⟨h1, Ob.ok_nil⟩) hn (conz g1 (conz g5 (conz g7 (conz g10 (conz g36 (conz g37 (one g38)))))))).mono fun ex T' st' ⟨q1, q2, q3, q4⟩ => by simp only [List.cons.injEq, and_true] at q3; exact ⟨q1, ⟨q2, q3⟩, q4⟩
theorem f3_7_T_e (bf n10 n63 : Int) (d w : Nat) (st s1 : St) : ((evS Tryd.prog E0 noOv noS 100000 [6009, 7064] (f3P 7) ⟨137, [(1, (i64 bf)), (5, (.ptr d 0)), (7, (.ptr w 0)), (10, (i64 n10))], []⟩ st [.eff (i64 n63) (fun _ => s1), .av TT]).map fun q => (q.1, q.2.1.n, ([q.2.1.get 4] : List AV), q.2.2.1, q.2.2.2.2)) = some (.ret, 137, [FF], s1, [obC 9 [(.ptr w 0)] st (i64 n63) s1, binA E0 .neq 29 (i64 n63) (i64 0) = some TT]) := by kernel_rfl
theorem f3_7_T {bf n10 n63 : Int} {d w : Nat} {st s1 : St} (h1 : obC 9 [(.ptr w 0)] st (i64 n63) s1) (h2 : binA E0 .neq 29 (i64 n63) (i64 0) = some TT) {T : Tm} (hT : f3L7 T (i64 bf) (.ptr d 0) (.ptr w 0) (i64 n10)) : AW Tryd.prog (f3P 7) (fun ex T' st' => ex = .ret ∧ f3L3 T' FF ∧ st' = s1) T st := by
  obtain ⟨hn, g1, g5, g7, g10⟩ := hT
  exact (gen_run (G := fun T => ([T.get 4] : List AV)) hE (f3_7_T_e bf n10 n63 d w st s1) (Ob.ok_cons.2 ⟨h1, (Ob.ok_cons.2 ⟨h2, Ob.ok_nil⟩)⟩) hn (conz g1 (conz g5 (conz g7 (one g10))))).mono fun ex T' st' ⟨q1, q2, q3, q4⟩ => by simp only [List.cons.injEq, and_true] at q3; exact ⟨q1, ⟨q2, q3⟩, q4⟩
theorem f3_7_F_e (bf n10 n63 : Int) (d w : Nat) (st s1 : St) : ((evS Tryd.prog E0 noOv noS 100000 [6009, 7064] (f3P 7) ⟨137, [(1, (i64 bf)), (5, (.ptr d 0)), (7, (.ptr w 0)), (10, (i64 n10))], []⟩ st [.eff (i64 n63) (fun _ => s1), .av FF]).map fun q => (q.1, q.2.1.n, ([q.2.1.get 1, q.2.1.get 5, q.2.1.get 7, q.2.1.get 10] : List AV), q.2.2.1, q.2.2.2.2)) = some (.normal, 137, [(i64 bf), (.ptr d 0), (.ptr w 0), (i64 n10)], s1, [obC 9 [(.ptr w 0)] st (i64 n63) s1, binA E0 .neq 29 (i64 n63) (i64 0) = some FF]) := by kernel_rfl
theorem f3_7_F {bf n10 n63 : Int} {d w : Nat} {st s1 : St} (h1 : obC 9 [(.ptr w 0)] st (i64 n63) s1) (h2 : binA E0 .neq 29 (i64 n63) (i64 0) = some FF) {T : Tm} (hT : f3L7 T (i64 bf) (.ptr d 0) (.ptr w 0) (i64 n10)) : AW Tryd.prog (f3P 7) (fun ex T' st' => ex = .normal ∧ f3L7 T' (i64 bf) (.ptr d 0) (.ptr w 0) (i64 n10) ∧ st' = s1) T st := by
  obtain ⟨hn, g1, g5, g7, g10⟩ := hT
  exact (gen_run (G := fun T => ([T.get 1, T.get 5, T.get 7, T.get 10] : List AV)) hE (f3_7_F_e bf n10 n63 d w st s1) (Ob.ok_cons.2 ⟨h1, (Ob.ok_cons.2 ⟨h2, Ob.ok_nil⟩)⟩) hn (conz g1 (conz g5 (conz g7 (one g10))))).mono fun ex T' st' ⟨q1, q2, q3, q4⟩ => by simp only [List.cons.injEq, and_true] at q3; exact ⟨q1, ⟨q2, q3⟩, q4⟩
def f3L8 (T : Tm) (a1 a5 a7 a9 a10 a14 : AV) : Prop := T.n = 137 ∧ T.get 1 = a1 ∧ T.get 5 = a5 ∧ T.get 7 = a7 ∧ T.get 9 = a9 ∧ T.get 10 = a10 ∧ T.get 14 = a14
theorem f3_8_e (bf n10 n67c : Int) (d w p67a : Nat) (st s1 : St) (v67b : AV) : ((evS Tryd.prog E0 noOv noS 100000 [6006] (f3P 8) ⟨137, [(1, (i64 bf)), (5, (.ptr d 0)), (7, (.ptr w 0)), (10, (i64 n10))], []⟩ st [.eff (.tup [(.ptr p67a 0), v67b, (i64 n67c)]) (fun _ => s1)]).map fun q => (q.1, q.2.1.n, ([q.2.1.get 1, q.2.1.get 5, q.2.1.get 7, q.2.1.get 9, q.2.1.get 10, q.2.1.get 14] : List AV), q.2.2.1, q.2.2.2.2)) = some (.normal, 137, [(i64 bf), (.ptr d 0), (.ptr w 0), (i64 n67c), (i64 n10), v67b], s1, [obC 6 [(.ptr d 0)] st (.tup [(.ptr p67a 0), v67b, (i64 n67c)]) s1]) := by kernel_rfl
theorem f3_8 {bf n10 n67c : Int} {d w p67a : Nat} {st s1 : St} {v67b : AV} (h1 : obC 6 [(.ptr d 0)] st (.tup [(.ptr p67a 0), v67b, (i64 n67c)]) s1) {T : Tm} (hT : f3L7 T (i64 bf) (.ptr d 0) (.ptr w 0) (i64 n10)) : AW Tryd.prog (f3P 8) (fun ex T' st' => ex = .normal ∧ f3L8 T' (i64 bf) (.ptr d 0) (.ptr w 0) (i64 n67c) (i64 n10) v67b ∧ st' = s1) T st := by
  obtain ⟨hn, g1, g5, g7, g10⟩ := hT
  exact (gen_run (G := fun T => ([T.get 1, T.get 5, T.get 7, T.get 9, T.get 10, T.get 14] : List AV)) hE (f3_8_e bf n10 n67c d w p67a st s1 v67b) (Ob.ok_cons.2 ⟨h1, Ob.ok_nil⟩) hn (conz g1 (conz g5 (conz g7 (one g10))))).mono fun ex T' st' ⟨q1, q2, q3, q4⟩ => by simp only [List.cons.injEq, and_true] at q3; exact ⟨q1, ⟨q2, q3⟩, q4⟩
theorem f3_9_T_e (bf n9 n10 : Int) (d w : Nat) (v14 : AV) (st : St) : ((evS Tryd.prog E0 noOv noS 100000 [6010, 7072, 7077] (f3P 9) ⟨137, [(1, (i64 bf)), (5, (.ptr d 0)), (7, (.ptr w 0)), (9, (i64 n9)), (10, (i64 n10)), (14, v14)], []⟩ st [.av TT]).map fun q => (q.1, q.2.1.n, ([q.2.1.get 4] : List AV), q.2.2.1, q.2.2.2.2)) = some (.ret, 137, [FF], st, [binA E0 .neq 29 (i64 n9) (i64 0) = some TT]) := by kernel_rfl
theorem f3_9_T {bf n9 n10 : Int} {d w : Nat} {v14 : AV} {st : St} (h1 : binA E0 .neq 29 (i64 n9) (i64 0) = some TT) {T : Tm} (hT : f3L8 T (i64 bf) (.ptr d 0) (.ptr w 0) (i64 n9) (i64 n10) v14) : AW Tryd.prog (f3P 9) (fun ex T' st' => ex = .ret ∧ f3L3 T' FF ∧ st' = st) T st := by
  obtain ⟨hn, g1, g5, g7, g9, g10, g14⟩ := hT
  exact (gen_run (G := fun T => ([T.get 4] : List AV)) hE (f3_9_T_e bf n9 n10 d w v14 st) (Ob.ok_cons.2 ⟨h1, Ob.ok_nil⟩) hn (conz g1 (conz g5 (conz g7 (conz g9 (conz g10 (one g14))))))).mono fun ex T' st' ⟨q1, q2, q3, q4⟩ => by simp only [List.cons.injEq, and_true] at q3; exact ⟨q1, ⟨q2, q3⟩, q4⟩
theorem f3_9_FT_e (bf n9 n10 n76 : Int) (d w : Nat) (v14 : AV) (st s1 : St) : ((evS Tryd.prog E0 noOv noS 100000 [6010, 7072, 7077] (f3P 9) ⟨137, [(1, (i64 bf)), (5, (.ptr d 0)), (7, (.ptr w 0)), (9, (i64 n9)), (10, (i64 n10)), (14, v14)], []⟩ st [.av FF, .eff (i64 n76) (fun _ => s1), .av TT]).map fun q => (q.1, q.2.1.n, ([q.2.1.get 4] : List AV), q.2.2.1, q.2.2.2.2)) = some (.ret, 137, [FF], s1, [binA E0 .neq 29 (i64 n9) (i64 0) = some FF, obC 10 [(.ptr w 0), (i64 bf)] st (i64 n76) s1, binA E0 .neq 29 (i64 n76) (i64 0) = some TT]) := by kernel_rfl
theorem f3_9_FT {bf n9 n10 n76 : Int} {d w : Nat} {v14 : AV} {st s1 : St} (h1 : binA E0 .neq 29 (i64 n9) (i64 0) = some FF) (h2 : obC 10 [(.ptr w 0), (i64 bf)] st (i64 n76) s1) (h3 : binA E0 .neq 29 (i64 n76) (i64 0) = some TT) {T : Tm} (hT : f3L8 T (i64 bf) (.ptr d 0) (.ptr w 0) (i64 n9) (i64 n10) v14) : AW Tryd.prog (f3P 9) (fun ex T' st' => ex = .ret ∧ f3L3 T' FF ∧ st' = s1) T st := by
  obtain ⟨hn, g1, g5, g7, g9, g10, g14⟩ := hT
  exact (gen_run (G := fun T => ([T.get 4] : List AV)) hE (f3_9_FT_e bf n9 n10 n76 d w v14 st s1) (Ob.ok_cons.2 ⟨h1, (Ob.ok_cons.2 ⟨h2, (Ob.ok_cons.2 ⟨h3, Ob.ok_nil⟩)⟩)⟩) hn (conz g1 (conz g5 (conz g7 (conz g9 (conz g10 (one g14))))))).mono fun ex T' st' ⟨q1, q2, q3, q4⟩ => by simp only [List.cons.injEq, and_true] at q3; exact ⟨q1, ⟨q2, q3⟩, q4⟩
def f3L9 (T : Tm) (a1 a5 a10 a14 : AV) : Prop := T.n = 137 ∧ T.get 1 = a1 ∧ T.get 5 = a5 ∧ T.get 10 = a10 ∧ T.get 14 = a14
theorem f3_9_FF_e (bf n9 n10 n76 : Int) (d w : Nat) (v14 : AV) (st s1 : St) : ((evS Tryd.prog E0 noOv noS 100000 [6010, 7072, 7077] (f3P 9) ⟨137, [(1, (i64 bf)), (5, (.ptr d 0)), (7, (.ptr w 0)), (9, (i64 n9)), (10, (i64 n10)), (14, v14)], []⟩ st [.av FF, .eff (i64 n76) (fun _ => s1), .av FF]).map fun q => (q.1, q.2.1.n, ([q.2.1.get 1, q.2.1.get 5, q.2.1.get 10, q.2.1.get 14] : List AV), q.2.2.1, q.2.2.2.2)) = some (.normal, 137, [(i64 bf), (.ptr d 0), (i64 n10), v14], s1, [binA E0 .neq 29 (i64 n9) (i64 0) = some FF, obC 10 [(.ptr w 0), (i64 bf)] st (i64 n76) s1, binA E0 .neq 29 (i64 n76) (i64 0) = some FF]) := by kernel_rfl
theorem f3_9_FF {bf n9 n10 n76 : Int} {d w : Nat} {v14 : AV} {st s1 : St} (h1 : binA E0 .neq 29 (i64 n9) (i64 0) = some FF) (h2 : obC 10 [(.ptr w 0), (i64 bf)] st (i64 n76) s1) (h3 : binA E0 .neq 29 (i64 n76) (i64 0) = some FF) {T : Tm} (hT : f3L8 T (i64 bf) (.ptr d 0) (.ptr w 0) (i64 n9) (i64 n10) v14) : AW Tryd.prog (f3P 9) (fun ex T' st' => ex = .normal ∧ f3L9 T' (i64 bf) (.ptr d 0) (i64 n10) v14 ∧ st' = s1) T st := by
  obtain ⟨hn, g1, g5, g7, g9, g10, g14⟩ := hT
  exact (gen_run (G := fun T => ([T.get 1, T.get 5, T.get 10, T.get 14] : List AV)) hE (f3_9_FF_e bf n9 n10 n76 d w v14 st s1) (Ob.ok_cons.2 ⟨h1, (Ob.ok_cons.2 ⟨h2, (Ob.ok_cons.2 ⟨h3, Ob.ok_nil⟩)⟩)⟩) hn (conz g1 (conz g5 (conz g7 (conz g9 (conz g10 (one g14))))))).mono fun ex T' st' ⟨q1, q2, q3, q4⟩ => by simp only [List.cons.injEq, and_true] at q3; exact ⟨q1, ⟨q2, q3⟩, q4⟩
def f3L10 (T : Tm) (a1 a9 a10 a14 a16 : AV) : Prop := T.n = 137 ∧ T.get 1 = a1 ∧ T.get 9 = a9 ∧ T.get 10 = a10 ∧ T.get 14 = a14 ∧ T.get 16 = a16
theorem f3_10_e (bf n10 n81c : Int) (d p81a : Nat) (v14 v81b : AV) (st s1 : St) : ((evS Tryd.prog E0 noOv noS 100000 [6006] (f3P 10) ⟨137, [(1, (i64 bf)), (5, (.ptr d 0)), (10, (i64 n10)), (14, v14)], []⟩ st [.eff (.tup [(.ptr p81a 0), v81b, (i64 n81c)]) (fun _ => s1)]).map fun q => (q.1, q.2.1.n, ([q.2.1.get 1, q.2.1.get 9, q.2.1.get 10, q.2.1.get 14, q.2.1.get 16] : List AV), q.2.2.1, q.2.2.2.2)) = some (.normal, 137, [(i64 bf), (i64 n81c), (i64 n10), v14, v81b], s1, [obC 6 [(.ptr d 0)] st (.tup [(.ptr p81a 0), v81b, (i64 n81c)]) s1]) := by kernel_rfl
theorem f3_10 {bf n10 n81c : Int} {d p81a : Nat} {v14 v81b : AV} {st s1 : St} (h1 : obC 6 [(.ptr d 0)] st (.tup [(.ptr p81a 0), v81b, (i64 n81c)]) s1) {T : Tm} (hT : f3L9 T (i64 bf) (.ptr d 0) (i64 n10) v14) : AW Tryd.prog (f3P 10) (fun ex T' st' => ex = .normal ∧ f3L10 T' (i64 bf) (i64 n81c) (i64 n10) v14 v81b ∧ st' = s1) T st := by
  obtain ⟨hn, g1, g5, g10, g14⟩ := hT
  exact (gen_run (G := fun T => ([T.get 1, T.get 9, T.get 10, T.get 14, T.get 16] : List AV)) hE (f3_10_e bf n10 n81c d p81a v14 v81b st s1) (Ob.ok_cons.2 ⟨h1, Ob.ok_nil⟩) hn (conz g1 (conz g5 (conz g10 (one g14))))).mono fun ex T' st' ⟨q1, q2, q3, q4⟩ => by simp only [List.cons.injEq, and_true] at q3; exact ⟨q1, ⟨q2, q3⟩, q4⟩
def f3L11 (T : Tm) (a1 a9 a10 a14 a16 a17 : AV) : Prop := T.n = 137 ∧ T.get 1 = a1 ∧ T.get 9 = a9 ∧ T.get 10 = a10 ∧ T.get 14 = a14 ∧ T.get 16 = a16 ∧ T.get 17 = a17
theorem f3_11_e (bf n9 n10 : Int) (v14 v16 : AV) (st : St) : ((evS Tryd.prog E0 noOv noS 100000 [] (f3P 11) ⟨137, [(1, (i64 bf)), (9, (i64 n9)), (10, (i64 n10)), (14, v14), (16, v16)], []⟩ st []).map fun q => (q.1, q.2.1.n, ([q.2.1.get 1, q.2.1.get 9, q.2.1.get 10, q.2.1.get 14, q.2.1.get 16, q.2.1.get 17] : List AV), q.2.2.1, q.2.2.2.2)) = some (.normal, 137, [(i64 bf), (i64 n9), (i64 n10), v14, v16, (i64 0)], st, []) := by kernel_rfl
theorem f3_11 {bf n9 n10 : Int} {v14 v16 : AV} {st : St}  {T : Tm} (hT : f3L10 T (i64 bf) (i64 n9) (i64 n10) v14 v16) : AW Tryd.prog (f3P 11) (fun ex T' st' => ex = .normal ∧ f3L11 T' (i64 bf) (i64 n9) (i64 n10) v14 v16 (i64 0) ∧ st' = st) T st := by
  obtain ⟨hn, g1, g9, g10, g14, g16⟩ := hT
  exact (gen_run (G := fun T => ([T.get 1, T.get 9, T.get 10, T.get 14, T.get 16, T.get 17] : List AV)) hE (f3_11_e bf n9 n10 v14 v16 st) Ob.ok_nil hn (conz g1 (conz g9 (conz g10 (conz g14 (one g16)))))).mono fun ex T' st' ⟨q1, q2, q3, q4⟩ => by simp only [List.cons.injEq, and_true] at q3; exact ⟨q1, ⟨q2, q3⟩, q4⟩
def f3L12 (T : Tm) (a1 a9 a10 a16 a17 a85 a86 a87 : AV) : Prop := T.n = 137 ∧ T.get 1 = a1 ∧ T.get 9 = a9 ∧ T.get 10 = a10 ∧ T.get 16 = a16 ∧ T.get 17 = a17 ∧ T.get 85 = a85 ∧ T.get 86 = a86 ∧ T.get 87 = a87
theorem f3_12_e (bf n9 n10 n17 n86 : Int) (v14 v16 : AV) (st : St) : ((evS Tryd.prog E0 noOv noS 100000 [7086] (f3P 12) ⟨137, [(1, (i64 bf)), (9, (i64 n9)), (10, (i64 n10)), (14, v14), (16, v16), (17, (i64 n17))], []⟩ st [.av (i64 n86)]).map fun q => (q.1, q.2.1.n, ([q.2.1.get 1, q.2.1.get 9, q.2.1.get 10, q.2.1.get 16, q.2.1.get 17, q.2.1.get 85, q.2.1.get 86, q.2.1.get 87] : List AV), q.2.2.1, q.2.2.2.2)) = some (.normal, 137, [(i64 bf), (i64 n9), (i64 n10), v16, (i64 n17), v14, (i64 n86), (i64 0)], st, [lenA E0 28 v14 = some (i64 n86)]) := by kernel_rfl
theorem f3_12 {bf n9 n10 n17 n86 : Int} {v14 v16 : AV} {st : St} (h1 : lenA E0 28 v14 = some (i64 n86)) {T : Tm} (hT : f3L11 T (i64 bf) (i64 n9) (i64 n10) v14 v16 (i64 n17)) : AW Tryd.prog (f3P 12) (fun ex T' st' => ex = .normal ∧ f3L12 T' (i64 bf) (i64 n9) (i64 n10) v16 (i64 n17) v14 (i64 n86) (i64 0) ∧ st' = st) T st := by
  obtain ⟨hn, g1, g9, g10, g14, g16, g17⟩ := hT
  exact (gen_run (G := fun T => ([T.get 1, T.get 9, T.get 10, T.get 16, T.get 17, T.get 85, T.get 86, T.get 87] : List AV)) hE (f3_12_e bf n9 n10 n17 n86 v14 v16 st) (Ob.ok_cons.2 ⟨h1, Ob.ok_nil⟩) hn (conz g1 (conz g9 (conz g10 (conz g14 (conz g16 (one g17))))))).mono fun ex T' st' ⟨q1, q2, q3, q4⟩ => by simp only [List.cons.injEq, and_true] at q3; exact ⟨q1, ⟨q2, q3⟩, q4⟩
theorem f3_13_TTT_e (bf n9 n10 n17 n86 n87 n92 n97 n128 : Int) (v16 v85 q89 v90 : AV) (st s1 s2 : St) (a19 : Nat) : ((evS Tryd.prog E0 noOv noS 100000 [2019, 2090, 2092, 2097, 5000, 6011, 7088, 7089, 7094, 7099, 7103, 7104, 7108, 7113, 7118, 7127, 7128, 8000] (f3P 13) ⟨137, [(1, (i64 bf)), (9, (i64 n9)), (10, (i64 n10)), (16, v16), (17, (i64 n17)), (85, v85), (86, (i64 n86)), (87, (i64 n87))], []⟩ st [.av TT, .av q89, .eff v90 id, .eff (.ptr a19 0) (fun _ => s1), .eff .undef (fun _ => s2), .eff (i64 n92) id, .av TT, .eff (i64 n97) id, .av TT, .av (i64 n128)]).map fun q => (q.1, q.2.1.n, ([q.2.1.get 1, q.2.1.get 9, q.2.1.get 10, q.2.1.get 16, q.2.1.get 17, q.2.1.get 85, q.2.1.get 86, q.2.1.get 87] : List AV), q.2.2.1, q.2.2.2.2)) = some (.normal, 137, [(i64 bf), (i64 n9), (i64 n10), v16, (i64 n17), v85, (i64 n86), (i64 n128)], s2, [binA E0 .lss 3 (i64 n87) (i64 n86) = some TT, indexAddrA E0 28 v85 (i64 n87) = some q89, loadA E0 st 39 q89 = some v90 ∧ st = st, allocA E0 st 39 = some ((.ptr a19 0), s1), storeA E0 s1 39 (.ptr a19 0) v90 = some s2, loadA E0 s2 3 (.ptr a19 0) = some (i64 n92) ∧ s2 = s2, binA E0 .lss 3 (i64 n92) (i64 bf) = some TT, loadA E0 s2 3 (.ptr a19 0) = some (i64 n97) ∧ s2 = s2, binA E0 .neq 3 (i64 n97) (i64 n10) = some TT, binA E0 .add 3 (i64 n87) (i64 1) = some (i64 n128)]) := by kernel_rfl
theorem f3_13_TTT {bf n9 n10 n17 n86 n87 n92 n97 n128 : Int} {v16 v85 q89 v90 : AV} {st s1 s2 : St} {a19 : Nat} (h1 : binA E0 .lss 3 (i64 n87) (i64 n86) = some TT) (h2 : indexAddrA E0 28 v85 (i64 n87) = some q89) (h3 : loadA E0 st 39 q89 = some v90) (h4 : allocA E0 st 39 = some ((.ptr a19 0), s1)) (h5 : storeA E0 s1 39 (.ptr a19 0) v90 = some s2) (h6 : loadA E0 s2 3 (.ptr a19 0) = some (i64 n92)) (h7 : binA E0 .lss 3 (i64 n92) (i64 bf) = some TT) (h8 : loadA E0 s2 3 (.ptr a19 0) = some (i64 n97)) (h9 : binA E0 .neq 3 (i64 n97) (i64 n10) = some TT) (h10 : binA E0 .add 3 (i64 n87) (i64 1) = some (i64 n128)) {T : Tm} (hT : f3L12 T (i64 bf) (i64 n9) (i64 n10) v16 (i64 n17) v85 (i64 n86) (i64 n87)) : AW Tryd.prog (f3P 13) (fun ex T' st' => ex = .normal ∧ f3L12 T' (i64 bf) (i64 n9) (i64 n10) v16 (i64 n17) v85 (i64 n86) (i64 n128) ∧ st' = s2) T st := by
  obtain ⟨hn, g1, g9, g10, g16, g17, g85, g86, g87⟩ := hT
  exact (gen_run (G := fun T => ([T.get 1, T.get 9, T.get 10, T.get 16, T.get 17, T.get 85, T.get 86, T.get 87] : List AV)) hE (f3_13_TTT_e bf n9 n10 n17 n86 n87 n92 n97 n128 v16 v85 q89 v90 st s1 s2 a19) (Ob.ok_cons.2 ⟨h1, (Ob.ok_cons.2 ⟨h2, (Ob.ok_cons.2 ⟨⟨h3, rfl⟩, (Ob.ok_cons.2 ⟨h4, (Ob.ok_cons.2 ⟨h5, (Ob.ok_cons.2 ⟨⟨h6, rfl⟩, (Ob.ok_cons.2 ⟨h7, (Ob.ok_cons.2 ⟨⟨h8, rfl⟩, (Ob.ok_cons.2 ⟨h9, (Ob.ok_cons.2 ⟨h10, Ob.ok_nil⟩)⟩)⟩)⟩)⟩)⟩)⟩)⟩)⟩)⟩) hn (conz g1 (conz g9 (conz g10 (conz g16 (conz g17 (conz g85 (conz g86 (one g87))))))))).mono fun ex T' st' ⟨q1, q2, q3, q4⟩ => by simp only [List.cons.injEq, and_true] at q3; exact ⟨q1, ⟨q2, q3⟩, q4⟩
theorem f3_13_TTFT_e (bf n9 n10 n17 n86 n87 n92 n97 n103 : Int) (v16 v85 q89 v90 : AV) (st s1 s2 : St) (a19 : Nat) : ((evS Tryd.prog E0 noOv noS 100000 [2019, 2090, 2092, 2097, 5000, 6011, 7088, 7089, 7094, 7099, 7103, 7104, 7108, 7113, 7118, 7127, 7128, 8000] (f3P 13) ⟨137, [(1, (i64 bf)), (9, (i64 n9)), (10, (i64 n10)), (16, v16), (17, (i64 n17)), (85, v85), (86, (i64 n86)), (87, (i64 n87))], []⟩ st [.av TT, .av q89, .eff v90 id, .eff (.ptr a19 0) (fun _ => s1), .eff .undef (fun _ => s2), .eff (i64 n92) id, .av TT, .eff (i64 n97) id, .av FF, .eff (i64 n103) id, .eff TT id]).map fun q => (q.1, q.2.1.n, ([q.2.1.get 4] : List AV), q.2.2.1, q.2.2.2.2)) = some (.ret, 137, [FF], s2, [binA E0 .lss 3 (i64 n87) (i64 n86) = some TT, indexAddrA E0 28 v85 (i64 n87) = some q89, loadA E0 st 39 q89 = some v90 ∧ st = st, allocA E0 st 39 = some ((.ptr a19 0), s1), storeA E0 s1 39 (.ptr a19 0) v90 = some s2, loadA E0 s2 3 (.ptr a19 0) = some (i64 n92) ∧ s2 = s2, binA E0 .lss 3 (i64 n92) (i64 bf) = some TT, loadA E0 s2 3 (.ptr a19 0) = some (i64 n97) ∧ s2 = s2, binA E0 .neq 3 (i64 n97) (i64 n10) = some FF, ∀ k ∈ [], k < s2.next, lenA E0 28 v16 = some (i64 n103), binA E0 .eql 3 (i64 n17) (i64 n103) = some TT]) := by kernel_rfl
theorem f3_13_TTFT {bf n9 n10 n17 n86 n87 n92 n97 n103 : Int} {v16 v85 q89 v90 : AV} {st s1 s2 : St} {a19 : Nat} (h1 : binA E0 .lss 3 (i64 n87) (i64 n86) = some TT) (h2 : indexAddrA E0 28 v85 (i64 n87) = some q89) (h3 : loadA E0 st 39 q89 = some v90) (h4 : allocA E0 st 39 = some ((.ptr a19 0), s1)) (h5 : storeA E0 s1 39 (.ptr a19 0) v90 = some s2) (h6 : loadA E0 s2 3 (.ptr a19 0) = some (i64 n92)) (h7 : binA E0 .lss 3 (i64 n92) (i64 bf) = some TT) (h8 : loadA E0 s2 3 (.ptr a19 0) = some (i64 n97)) (h9 : binA E0 .neq 3 (i64 n97) (i64 n10) = some FF) (h10 : ∀ k ∈ [], k < s2.next) (h11 : lenA E0 28 v16 = some (i64 n103)) (h12 : binA E0 .eql 3 (i64 n17) (i64 n103) = some TT) {T : Tm} (hT : f3L12 T (i64 bf) (i64 n9) (i64 n10) v16 (i64 n17) v85 (i64 n86) (i64 n87)) : AW Tryd.prog (f3P 13) (fun ex T' st' => ex = .ret ∧ f3L3 T' FF ∧ st' = s2) T st := by
  obtain ⟨hn, g1, g9, g10, g16, g17, g85, g86, g87⟩ := hT
  exact (gen_run (G := fun T => ([T.get 4] : List AV)) hE (f3_13_TTFT_e bf n9 n10 n17 n86 n87 n92 n97 n103 v16 v85 q89 v90 st s1 s2 a19) (Ob.ok_cons.2 ⟨h1, (Ob.ok_cons.2 ⟨h2, (Ob.ok_cons.2 ⟨⟨h3, rfl⟩, (Ob.ok_cons.2 ⟨h4, (Ob.ok_cons.2 ⟨h5, (Ob.ok_cons.2 ⟨⟨h6, rfl⟩, (Ob.ok_cons.2 ⟨h7, (Ob.ok_cons.2 ⟨⟨h8, rfl⟩, (Ob.ok_cons.2 ⟨h9, (Ob.ok_cons.2 ⟨h10, (Ob.ok_cons.2 ⟨h11, (Ob.ok_cons.2 ⟨h12, Ob.ok_nil⟩)⟩)⟩)⟩)⟩)⟩)⟩)⟩)⟩)⟩)⟩)⟩) hn (conz g1 (conz g9 (conz g10 (conz g16 (conz g17 (conz g85 (conz g86 (one g87))))))))).mono fun ex T' st' ⟨q1, q2, q3, q4⟩ => by simp only [List.cons.injEq, and_true] at q3; exact ⟨q1, ⟨q2, q3⟩, q4⟩
theorem f3_13_TTFFT_e (bf n9 n10 n17 n86 n87 n92 n97 n103 n110 n112 : Int) (v16 v85 q89 v90 : AV) (st s1 s2 : St) (a19 p108 o108 : Nat) : ((evS Tryd.prog E0 noOv noS 100000 [2019, 2090, 2092, 2097, 5000, 6011, 7088, 7089, 7094, 7099, 7103, 7104, 7108, 7113, 7118, 7127, 7128, 8000] (f3P 13) ⟨137, [(1, (i64 bf)), (9, (i64 n9)), (10, (i64 n10)), (16, v16), (17, (i64 n17)), (85, v85), (86, (i64 n86)), (87, (i64 n87))], []⟩ st [.av TT, .av q89, .eff v90 id, .eff (.ptr a19 0) (fun _ => s1), .eff .undef (fun _ => s2), .eff (i64 n92) id, .av TT, .eff (i64 n97) id, .av FF, .eff (i64 n103) id, .eff FF id, .eff (.ptr p108 o108) id, .eff (i64 n110) id, .eff (i64 n112) id, .eff TT id]).map fun q => (q.1, q.2.1.n, ([q.2.1.get 4] : List AV), q.2.2.1, q.2.2.2.2)) = some (.ret, 137, [FF], s2, [binA E0 .lss 3 (i64 n87) (i64 n86) = some TT, indexAddrA E0 28 v85 (i64 n87) = some q89, loadA E0 st 39 q89 = some v90 ∧ st = st, allocA E0 st 39 = some ((.ptr a19 0), s1), storeA E0 s1 39 (.ptr a19 0) v90 = some s2, loadA E0 s2 3 (.ptr a19 0) = some (i64 n92) ∧ s2 = s2, binA E0 .lss 3 (i64 n92) (i64 bf) = some TT, loadA E0 s2 3 (.ptr a19 0) = some (i64 n97) ∧ s2 = s2, binA E0 .neq 3 (i64 n97) (i64 n10) = some FF, ∀ k ∈ [p108, a19], k < s2.next, lenA E0 28 v16 = some (i64 n103), binA E0 .eql 3 (i64 n17) (i64 n103) = some FF, indexAddrA E0 28 v16 (i64 n17) = some (.ptr p108 o108), [p108, a19].contains p108 = true ∧ loadA E0 s2 3 (.ptr p108 o108) = some (i64 n110), [p108, a19].contains a19 = true ∧ loadA E0 s2 3 (.ptr a19 0) = some (i64 n112), binA E0 .neq 3 (i64 n110) (i64 n112) = some TT]) := by kernel_rfl
theorem f3_13_TTFFT {bf n9 n10 n17 n86 n87 n92 n97 n103 n110 n112 : Int} {v16 v85 q89 v90 : AV} {st s1 s2 : St} {a19 p108 o108 : Nat} (h1 : binA E0 .lss 3 (i64 n87) (i64 n86) = some TT) (h2 : indexAddrA E0 28 v85 (i64 n87) = some q89) (h3 : loadA E0 st 39 q89 = some v90) (h4 : allocA E0 st 39 = some ((.ptr a19 0), s1)) (h5 : storeA E0 s1 39 (.ptr a19 0) v90 = some s2) (h6 : loadA E0 s2 3 (.ptr a19 0) = some (i64 n92)) (h7 : binA E0 .lss 3 (i64 n92) (i64 bf) = some TT) (h8 : loadA E0 s2 3 (.ptr a19 0) = some (i64 n97)) (h9 : binA E0 .neq 3 (i64 n97) (i64 n10) = some FF) (h10 : ∀ k ∈ [p108, a19], k < s2.next) (h11 : lenA E0 28 v16 = some (i64 n103)) (h12 : binA E0 .eql 3 (i64 n17) (i64 n103) = some FF) (h13 : indexAddrA E0 28 v16 (i64 n17) = some (.ptr p108 o108)) (h14 : loadA E0 s2 3 (.ptr p108 o108) = some (i64 n110)) (h15 : loadA E0 s2 3 (.ptr a19 0) = some (i64 n112)) (h16 : binA E0 .neq 3 (i64 n110) (i64 n112) = some TT) {T : Tm} (hT : f3L12 T (i64 bf) (i64 n9) (i64 n10) v16 (i64 n17) v85 (i64 n86) (i64 n87)) : AW Tryd.prog (f3P 13) (fun ex T' st' => ex = .ret ∧ f3L3 T' FF ∧ st' = s2) T st := by
  obtain ⟨hn, g1, g9, g10, g16, g17, g85, g86, g87⟩ := hT
  exact (gen_run (G := fun T => ([T.get 4] : List AV)) hE (f3_13_TTFFT_e bf n9 n10 n17 n86 n87 n92 n97 n103 n110 n112 v16 v85 q89 v90 st s1 s2 a19 p108 o108) (Ob.ok_cons.2 ⟨h1, (Ob.ok_cons.2 ⟨h2, (Ob.ok_cons.2 ⟨⟨h3, rfl⟩, (Ob.ok_cons.2 ⟨h4, (Ob.ok_cons.2 ⟨h5, (Ob.ok_cons.2 ⟨⟨h6, rfl⟩, (Ob.ok_cons.2 ⟨h7, (Ob.ok_cons.2 ⟨⟨h8, rfl⟩, (Ob.ok_cons.2 ⟨h9, (Ob.ok_cons.2 ⟨h10, (Ob.ok_cons.2 ⟨h11, (Ob.ok_cons.2 ⟨h12, (Ob.ok_cons.2 ⟨h13, (Ob.ok_cons.2 ⟨⟨by simp, h14⟩, (Ob.ok_cons.2 ⟨⟨by simp, h15⟩, (Ob.ok_cons.2 ⟨h16, Ob.ok_nil⟩)⟩)⟩)⟩)⟩)⟩)⟩)⟩)⟩)⟩)⟩)⟩)⟩)⟩)⟩)⟩) hn (conz g1 (conz g9 (conz g10 (conz g16 (conz g17 (conz g85 (conz g86 (one g87))))))))).mono fun ex T' st' ⟨q1, q2, q3, q4⟩ => by simp only [List.cons.injEq, and_true] at q3; exact ⟨q1, ⟨q2, q3⟩, q4⟩
theorem f3_13_TTFFFT_e (bf n9 n10 n17 n86 n87 n92 n97 n103 n110 n112 n127 n128 : Int) (v16 v85 q89 v90 v120 v122 : AV) (st s1 s2 s3 : St) (a19 p108 o108 p118 o118 : Nat) : ((evS Tryd.prog E0 noOv noS 100000 [2019, 2090, 2092, 2097, 5000, 6011, 7088, 7089, 7094, 7099, 7103, 7104, 7108, 7113, 7118, 7127, 7128, 8000] (f3P 13) ⟨137, [(1, (i64 bf)), (9, (i64 n9)), (10, (i64 n10)), (16, v16), (17, (i64 n17)), (85, v85), (86, (i64 n86)), (87, (i64 n87))], []⟩ st [.av TT, .av q89, .eff v90 id, .eff (.ptr a19 0) (fun _ => s1), .eff .undef (fun _ => s2), .eff (i64 n92) id, .av TT, .eff (i64 n97) id, .av FF, .eff (i64 n103) id, .eff FF id, .eff (.ptr p108 o108) id, .eff (i64 n110) id, .eff (i64 n112) id, .eff FF id, .eff (.ptr p118 o118) id, .eff v120 id, .eff v122 id, .eff TT (fun _ => s3), .av (i64 n127), .av (i64 n128)]).map fun q => (q.1, q.2.1.n, ([q.2.1.get 1, q.2.1.get 9, q.2.1.get 10, q.2.1.get 16, q.2.1.get 17, q.2.1.get 85, q.2.1.get 86, q.2.1.get 87] : List AV), q.2.2.1, q.2.2.2.2)) = some (.normal, 137, [(i64 bf), (i64 n9), (i64 n10), v16, (i64 n127), v85, (i64 n86), (i64 n128)], s3.show s2 [p108, a19, p118, a19], [binA E0 .lss 3 (i64 n87) (i64 n86) = some TT, indexAddrA E0 28 v85 (i64 n87) = some q89, loadA E0 st 39 q89 = some v90 ∧ st = st, allocA E0 st 39 = some ((.ptr a19 0), s1), storeA E0 s1 39 (.ptr a19 0) v90 = some s2, loadA E0 s2 3 (.ptr a19 0) = some (i64 n92) ∧ s2 = s2, binA E0 .lss 3 (i64 n92) (i64 bf) = some TT, loadA E0 s2 3 (.ptr a19 0) = some (i64 n97) ∧ s2 = s2, binA E0 .neq 3 (i64 n97) (i64 n10) = some FF, ∀ k ∈ [p108, a19, p118, a19], k < s2.next, lenA E0 28 v16 = some (i64 n103), binA E0 .eql 3 (i64 n17) (i64 n103) = some FF, indexAddrA E0 28 v16 (i64 n17) = some (.ptr p108 o108), [p108, a19, p118, a19].contains p108 = true ∧ loadA E0 s2 3 (.ptr p108 o108) = some (i64 n110), [p108, a19, p118, a19].contains a19 = true ∧ loadA E0 s2 3 (.ptr a19 0) = some (i64 n112), binA E0 .neq 3 (i64 n110) (i64 n112) = some FF, indexAddrA E0 28 v16 (i64 n17) = some (.ptr p118 o118), [p108, a19, p118, a19].contains p118 = true ∧ loadA E0 s2 33 (.ptr p118 (o118 + 1)) = some v120, [p108, a19, p118, a19].contains a19 = true ∧ loadA E0 s2 33 (.ptr a19 1) = some v122, (true = true → [p108, a19, p118, a19].all (fun k => (s2.get k).isSome) = true), obC 11 [v120, v122] (s2.hide [p108, a19, p118, a19]) TT s3, binA E0 .add 3 (i64 n17) (i64 1) = some (i64 n127), binA E0 .add 3 (i64 n87) (i64 1) = some (i64 n128)]) := by kernel_rfl
theorem f3_13_TTFFFT {bf n9 n10 n17 n86 n87 n92 n97 n103 n110 n112 n127 n128 : Int} {v16 v85 q89 v90 v120 v122 : AV} {st s1 s2 s3 : St} {a19 p108 o108 p118 o118 : Nat} (h1 : binA E0 .lss 3 (i64 n87) (i64 n86) = some TT) (h2 : indexAddrA E0 28 v85 (i64 n87) = some q89) (h3 : loadA E0 st 39 q89 = some v90) (h4 : allocA E0 st 39 = some ((.ptr a19 0), s1)) (h5 : storeA E0 s1 39 (.ptr a19 0) v90 = some s2) (h6 : loadA E0 s2 3 (.ptr a19 0) = some (i64 n92)) (h7 : binA E0 .lss 3 (i64 n92) (i64 bf) = some TT) (h8 : loadA E0 s2 3 (.ptr a19 0) = some (i64 n97)) (h9 : binA E0 .neq 3 (i64 n97) (i64 n10) = some FF) (h10 : ∀ k ∈ [p108, a19, p118, a19], k < s2.next) (h11 : lenA E0 28 v16 = some (i64 n103)) (h12 : binA E0 .eql 3 (i64 n17) (i64 n103) = some FF) (h13 : indexAddrA E0 28 v16 (i64 n17) = some (.ptr p108 o108)) (h14 : loadA E0 s2 3 (.ptr p108 o108) = some (i64 n110)) (h15 : loadA E0 s2 3 (.ptr a19 0) = some (i64 n112)) (h16 : binA E0 .neq 3 (i64 n110) (i64 n112) = some FF) (h17 : indexAddrA E0 28 v16 (i64 n17) = some (.ptr p118 o118)) (h18 : loadA E0 s2 33 (.ptr p118 (o118 + 1)) = some v120) (h19 : loadA E0 s2 33 (.ptr a19 1) = some v122) (h20 : [p108, a19, p118, a19].all (fun k => (s2.get k).isSome) = true) (h21 : obC 11 [v120, v122] (s2.hide [p108, a19, p118, a19]) TT s3) (h22 : binA E0 .add 3 (i64 n17) (i64 1) = some (i64 n127)) (h23 : binA E0 .add 3 (i64 n87) (i64 1) = some (i64 n128)) {T : Tm} (hT : f3L12 T (i64 bf) (i64 n9) (i64 n10) v16 (i64 n17) v85 (i64 n86) (i64 n87)) : AW Tryd.prog (f3P 13) (fun ex T' st' => ex = .normal ∧ f3L12 T' (i64 bf) (i64 n9) (i64 n10) v16 (i64 n127) v85 (i64 n86) (i64 n128) ∧ st' = (s3.show s2 [p108, a19, p118, a19])) T st := by
  obtain ⟨hn, g1, g9, g10, g16, g17, g85, g86, g87⟩ := hT
  exact (gen_run (G := fun T => ([T.get 1, T.get 9, T.get 10, T.get 16, T.get 17, T.get 85, T.get 86, T.get 87] : List AV)) hE (f3_13_TTFFFT_e bf n9 n10 n17 n86 n87 n92 n97 n103 n110 n112 n127 n128 v16 v85 q89 v90 v120 v122 st s1 s2 s3 a19 p108 o108 p118 o118) (Ob.ok_cons.2 ⟨h1, (Ob.ok_cons.2 ⟨h2, (Ob.ok_cons.2 ⟨⟨h3, rfl⟩, (Ob.ok_cons.2 ⟨h4, (Ob.ok_cons.2 ⟨h5, (Ob.ok_cons.2 ⟨⟨h6, rfl⟩, (Ob.ok_cons.2 ⟨h7, (Ob.ok_cons.2 ⟨⟨h8, rfl⟩, (Ob.ok_cons.2 ⟨h9, (Ob.ok_cons.2 ⟨h10, (Ob.ok_cons.2 ⟨h11, (Ob.ok_cons.2 ⟨h12, (Ob.ok_cons.2 ⟨h13, (Ob.ok_cons.2 ⟨⟨by simp, h14⟩, (Ob.ok_cons.2 ⟨⟨by simp, h15⟩, (Ob.ok_cons.2 ⟨h16, (Ob.ok_cons.2 ⟨h17, (Ob.ok_cons.2 ⟨⟨by simp, h18⟩, (Ob.ok_cons.2 ⟨⟨by simp, h19⟩, (Ob.ok_cons.2 ⟨(fun _ => h20), (Ob.ok_cons.2 ⟨h21, (Ob.ok_cons.2 ⟨h22, (Ob.ok_cons.2 ⟨h23, Ob.ok_nil⟩)⟩)⟩)⟩)⟩)⟩)⟩)⟩)⟩)⟩)⟩)⟩)⟩)⟩)⟩)⟩)⟩)⟩)⟩)⟩)⟩)⟩)⟩) hn (conz g1 (conz g9 (conz g10 (conz g16 (conz g17 (conz g85 (conz g86 (one g87))))))))).mono fun ex T' st' ⟨q1, q2, q3, q4⟩ => by simp only [List.cons.injEq, and_true] at q3; exact ⟨q1, ⟨q2, q3⟩, q4⟩
theorem f3_13_TTFFFF_e (bf n9 n10 n17 n86 n87 n92 n97 n103 n110 n112 : Int) (v16 v85 q89 v90 v120 v122 : AV) (st s1 s2 s3 : St) (a19 p108 o108 p118 o118 : Nat) : ((evS Tryd.prog E0 noOv noS 100000 [2019, 2090, 2092, 2097, 5000, 6011, 7088, 7089, 7094, 7099, 7103, 7104, 7108, 7113, 7118, 7127, 7128, 8000] (f3P 13) ⟨137, [(1, (i64 bf)), (9, (i64 n9)), (10, (i64 n10)), (16, v16), (17, (i64 n17)), (85, v85), (86, (i64 n86)), (87, (i64 n87))], []⟩ st [.av TT, .av q89, .eff v90 id, .eff (.ptr a19 0) (fun _ => s1), .eff .undef (fun _ => s2), .eff (i64 n92) id, .av TT, .eff (i64 n97) id, .av FF, .eff (i64 n103) id, .eff FF id, .eff (.ptr p108 o108) id, .eff (i64 n110) id, .eff (i64 n112) id, .eff FF id, .eff (.ptr p118 o118) id, .eff v120 id, .eff v122 id, .eff FF (fun _ => s3)]).map fun q => (q.1, q.2.1.n, ([q.2.1.get 4] : List AV), q.2.2.1, q.2.2.2.2)) = some (.ret, 137, [FF], s3.show s2 [p108, a19, p118, a19], [binA E0 .lss 3 (i64 n87) (i64 n86) = some TT, indexAddrA E0 28 v85 (i64 n87) = some q89, loadA E0 st 39 q89 = some v90 ∧ st = st, allocA E0 st 39 = some ((.ptr a19 0), s1), storeA E0 s1 39 (.ptr a19 0) v90 = some s2, loadA E0 s2 3 (.ptr a19 0) = some (i64 n92) ∧ s2 = s2, binA E0 .lss 3 (i64 n92) (i64 bf) = some TT, loadA E0 s2 3 (.ptr a19 0) = some (i64 n97) ∧ s2 = s2, binA E0 .neq 3 (i64 n97) (i64 n10) = some FF, ∀ k ∈ [p108, a19, p118, a19], k < s2.next, lenA E0 28 v16 = some (i64 n103), binA E0 .eql 3 (i64 n17) (i64 n103) = some FF, indexAddrA E0 28 v16 (i64 n17) = some (.ptr p108 o108), [p108, a19, p118, a19].contains p108 = true ∧ loadA E0 s2 3 (.ptr p108 o108) = some (i64 n110), [p108, a19, p118, a19].contains a19 = true ∧ loadA E0 s2 3 (.ptr a19 0) = some (i64 n112), binA E0 .neq 3 (i64 n110) (i64 n112) = some FF, indexAddrA E0 28 v16 (i64 n17) = some (.ptr p118 o118), [p108, a19, p118, a19].contains p118 = true ∧ loadA E0 s2 33 (.ptr p118 (o118 + 1)) = some v120, [p108, a19, p118, a19].contains a19 = true ∧ loadA E0 s2 33 (.ptr a19 1) = some v122, (true = true → [p108, a19, p118, a19].all (fun k => (s2.get k).isSome) = true), obC 11 [v120, v122] (s2.hide [p108, a19, p118, a19]) FF s3]) := by kernel_rfl
theorem f3_13_TTFFFF {bf n9 n10 n17 n86 n87 n92 n97 n103 n110 n112 : Int} {v16 v85 q89 v90 v120 v122 : AV} {st s1 s2 s3 : St} {a19 p108 o108 p118 o118 : Nat} (h1 : binA E0 .lss 3 (i64 n87) (i64 n86) = some TT) (h2 : indexAddrA E0 28 v85 (i64 n87) = some q89) (h3 : loadA E0 st 39 q89 = some v90) (h4 : allocA E0 st 39 = some ((.ptr a19 0), s1)) (h5 : storeA E0 s1 39 (.ptr a19 0) v90 = some s2) (h6 : loadA E0 s2 3 (.ptr a19 0) = some (i64 n92)) (h7 : binA E0 .lss 3 (i64 n92) (i64 bf) = some TT) (h8 : loadA E0 s2 3 (.ptr a19 0) = some (i64 n97)) (h9 : binA E0 .neq 3 (i64 n97) (i64 n10) = some FF) (h10 : ∀ k ∈ [p108, a19, p118, a19], k < s2.next) (h11 : lenA E0 28 v16 = some (i64 n103)) (h12 : binA E0 .eql 3 (i64 n17) (i64 n103) = some FF) (h13 : indexAddrA E0 28 v16 (i64 n17) = some (.ptr p108 o108)) (h14 : loadA E0 s2 3 (.ptr p108 o108) = some (i64 n110)) (h15 : loadA E0 s2 3 (.ptr a19 0) = some (i64 n112)) (h16 : binA E0 .neq 3 (i64 n110) (i64 n112) = some FF) (h17 : indexAddrA E0 28 v16 (i64 n17) = some (.ptr p118 o118)) (h18 : loadA E0 s2 33 (.ptr p118 (o118 + 1)) = some v120) (h19 : loadA E0 s2 33 (.ptr a19 1) = some v122) (h20 : [p108, a19, p118, a19].all (fun k => (s2.get k).isSome) = true) (h21 : obC 11 [v120, v122] (s2.hide [p108, a19, p118, a19]) FF s3) {T : Tm} (hT : f3L12 T (i64 bf) (i64 n9) (i64 n10) v16 (i64 n17) v85 (i64 n86) (i64 n87)) : AW Tryd.prog (f3P 13) (fun ex T' st' => ex = .ret ∧ f3L3 T' FF ∧ st' = (s3.show s2 [p108, a19, p118, a19])) T st := by
  obtain ⟨hn, g1, g9, g10, g16, g17, g85, g86, g87⟩ := hT
  exact (gen_run (G := fun T => ([T.get 4] : List AV)) hE (f3_13_TTFFFF_e bf n9 n10 n17 n86 n87 n92 n97 n103 n110 n112 v16 v85 q89 v90 v120 v122 st s1 s2 s3 a19 p108 o108 p118 o118) (Ob.ok_cons.2 ⟨h1, (Ob.ok_cons.2 ⟨h2, (Ob.ok_cons.2 ⟨⟨h3, rfl⟩, (Ob.ok_cons.2 ⟨h4, (Ob.ok_cons.2 ⟨h5, (Ob.ok_cons.2 ⟨⟨h6, rfl⟩, (Ob.ok_cons.2 ⟨h7, (Ob.ok_cons.2 ⟨⟨h8, rfl⟩, (Ob.ok_cons.2 ⟨h9, (Ob.ok_cons.2 ⟨h10, (Ob.ok_cons.2 ⟨h11, (Ob.ok_cons.2 ⟨h12, (Ob.ok_cons.2 ⟨h13, (Ob.ok_cons.2 ⟨⟨by simp, h14⟩, (Ob.ok_cons.2 ⟨⟨by simp, h15⟩, (Ob.ok_cons.2 ⟨h16, (Ob.ok_cons.2 ⟨h17, (Ob.ok_cons.2 ⟨⟨by simp, h18⟩, (Ob.ok_cons.2 ⟨⟨by simp, h19⟩, (Ob.ok_cons.2 ⟨(fun _ => h20), (Ob.ok_cons.2 ⟨h21, Ob.ok_nil⟩)⟩)⟩)⟩)⟩)⟩)⟩)⟩)⟩)⟩)⟩)⟩)⟩)⟩)⟩)⟩)⟩)⟩)⟩)⟩)⟩) hn (conz g1 (conz g9 (conz g10 (conz g16 (conz g17 (conz g85 (conz g86 (one g87))))))))).mono fun ex T' st' ⟨q1, q2, q3, q4⟩ => by simp only [List.cons.injEq, and_true] at q3; exact ⟨q1, ⟨q2, q3⟩, q4⟩
theorem f3_13_TFT_e (bf n9 n10 n17 n86 n87 n92 n103 : Int) (v16 v85 q89 v90 : AV) (st s1 s2 : St) (a19 : Nat) : ((evS Tryd.prog E0 noOv noS 100000 [2019, 2090, 2092, 2097, 5000, 6011, 7088, 7089, 7094, 7099, 7103, 7104, 7108, 7113, 7118, 7127, 7128, 8000] (f3P 13) ⟨137, [(1, (i64 bf)), (9, (i64 n9)), (10, (i64 n10)), (16, v16), (17, (i64 n17)), (85, v85), (86, (i64 n86)), (87, (i64 n87))], []⟩ st [.av TT, .av q89, .eff v90 id, .eff (.ptr a19 0) (fun _ => s1), .eff .undef (fun _ => s2), .eff (i64 n92) id, .av FF, .eff (i64 n103) id, .eff TT id]).map fun q => (q.1, q.2.1.n, ([q.2.1.get 4] : List AV), q.2.2.1, q.2.2.2.2)) = some (.ret, 137, [FF], s2, [binA E0 .lss 3 (i64 n87) (i64 n86) = some TT, indexAddrA E0 28 v85 (i64 n87) = some q89, loadA E0 st 39 q89 = some v90 ∧ st = st, allocA E0 st 39 = some ((.ptr a19 0), s1), storeA E0 s1 39 (.ptr a19 0) v90 = some s2, loadA E0 s2 3 (.ptr a19 0) = some (i64 n92) ∧ s2 = s2, binA E0 .lss 3 (i64 n92) (i64 bf) = some FF, ∀ k ∈ [], k < s2.next, lenA E0 28 v16 = some (i64 n103), binA E0 .eql 3 (i64 n17) (i64 n103) = some TT]) := by kernel_rfl
theorem f3_13_TFT {bf n9 n10 n17 n86 n87 n92 n103 : Int} {v16 v85 q89 v90 : AV} {st s1 s2 : St} {a19 : Nat} (h1 : binA E0 .lss 3 (i64 n87) (i64 n86) = some TT) (h2 : indexAddrA E0 28 v85 (i64 n87) = some q89) (h3 : loadA E0 st 39 q89 = some v90) (h4 : allocA E0 st 39 = some ((.ptr a19 0), s1)) (h5 : storeA E0 s1 39 (.ptr a19 0) v90 = some s2) (h6 : loadA E0 s2 3 (.ptr a19 0) = some (i64 n92)) (h7 : binA E0 .lss 3 (i64 n92) (i64 bf) = some FF) (h8 : ∀ k ∈ [], k < s2.next) (h9 : lenA E0 28 v16 = some (i64 n103)) (h10 : binA E0 .eql 3 (i64 n17) (i64 n103) = some TT) {T : Tm} (hT : f3L12 T (i64 bf) (i64 n9) (i64 n10) v16 (i64 n17) v85 (i64 n86) (i64 n87)) : AW Tryd.prog (f3P 13) (fun ex T' st' => ex = .ret ∧ f3L3 T' FF ∧ st' = s2) T st := by
  obtain ⟨hn, g1, g9, g10, g16, g17, g85, g86, g87⟩ := hT
  exact (gen_run (G := fun T => ([T.get 4] : List AV)) hE (f3_13_TFT_e bf n9 n10 n17 n86 n87 n92 n103 v16 v85 q89 v90 st s1 s2 a19) (Ob.ok_cons.2 ⟨h1, (Ob.ok_cons.2 ⟨h2, (Ob.ok_cons.2 ⟨⟨h3, rfl⟩, (Ob.ok_cons.2 ⟨h4, (Ob.ok_cons.2 ⟨h5, (Ob.ok_cons.2 ⟨⟨h6, rfl⟩, (Ob.ok_cons.2 ⟨h7, (Ob.ok_cons.2 ⟨h8, (Ob.ok_cons.2 ⟨h9, (Ob.ok_cons.2 ⟨h10, Ob.ok_nil⟩)⟩)⟩)⟩)⟩)⟩)⟩)⟩)⟩)⟩) hn (conz g1 (conz g9 (conz g10 (conz g16 (conz g17 (conz g85 (conz g86 (one g87))))))))).mono fun ex T' st' ⟨q1, q2, q3, q4⟩ => by simp only [List.cons.injEq, and_true] at q3; exact ⟨q1, ⟨q2, q3⟩, q4⟩
theorem f3_13_TFFT_e (bf n9 n10 n17 n86 n87 n92 n103 n110 n112 : Int) (v16 v85 q89 v90 : AV) (st s1 s2 : St) (a19 p108 o108 : Nat) : ((evS Tryd.prog E0 noOv noS 100000 [2019, 2090, 2092, 2097, 5000, 6011, 7088, 7089, 7094, 7099, 7103, 7104, 7108, 7113, 7118, 7127, 7128, 8000] (f3P 13) ⟨137, [(1, (i64 bf)), (9, (i64 n9)), (10, (i64 n10)), (16, v16), (17, (i64 n17)), (85, v85), (86, (i64 n86)), (87, (i64 n87))], []⟩ st [.av TT, .av q89, .eff v90 id, .eff (.ptr a19 0) (fun _ => s1), .eff .undef (fun _ => s2), .eff (i64 n92) id, .av FF, .eff (i64 n103) id, .eff FF id, .eff (.ptr p108 o108) id, .eff (i64 n110) id, .eff (i64 n112) id, .eff TT id]).map fun q => (q.1, q.2.1.n, ([q.2.1.get 4] : List AV), q.2.2.1, q.2.2.2.2)) = some (.ret, 137, [FF], s2, [binA E0 .lss 3 (i64 n87) (i64 n86) = some TT, indexAddrA E0 28 v85 (i64 n87) = some q89, loadA E0 st 39 q89 = some v90 ∧ st = st, allocA E0 st 39 = some ((.ptr a19 0), s1), storeA E0 s1 39 (.ptr a19 0) v90 = some s2, loadA E0 s2 3 (.ptr a19 0) = some (i64 n92) ∧ s2 = s2, binA E0 .lss 3 (i64 n92) (i64 bf) = some FF, ∀ k ∈ [p108, a19], k < s2.next, lenA E0 28 v16 = some (i64 n103), binA E0 .eql 3 (i64 n17) (i64 n103) = some FF, indexAddrA E0 28 v16 (i64 n17) = some (.ptr p108 o108), [p108, a19].contains p108 = true ∧ loadA E0 s2 3 (.ptr p108 o108) = some (i64 n110), [p108, a19].contains a19 = true ∧ loadA E0 s2 3 (.ptr a19 0) = some (i64 n112), binA E0 .neq 3 (i64 n110) (i64 n112) = some TT]) := by kernel_rfl
theorem f3_13_TFFT {bf n9 n10 n17 n86 n87 n92 n103 n110 n112 : Int} {v16 v85 q89 v90 : AV} {st s1 s2 : St} {a19 p108 o108 : Nat} (h1 : binA E0 .lss 3 (i64 n87) (i64 n86) = some TT) (h2 : indexAddrA E0 28 v85 (i64 n87) = some q89) (h3 : loadA E0 st 39 q89 = some v90) (h4 : allocA E0 st 39 = some ((.ptr a19 0), s1)) (h5 : storeA E0 s1 39 (.ptr a19 0) v90 = some s2) (h6 : loadA E0 s2 3 (.ptr a19 0) = some (i64 n92)) (h7 : binA E0 .lss 3 (i64 n92) (i64 bf) = some FF) (h8 : ∀ k ∈ [p108, a19], k < s2.next) (h9 : lenA E0 28 v16 = some (i64 n103)) (h10 : binA E0 .eql 3 (i64 n17) (i64 n103) = some FF) (h11 : indexAddrA E0 28 v16 (i64 n17) = some (.ptr p108 o108)) (h12 : loadA E0 s2 3 (.ptr p108 o108) = some (i64 n110)) (h13 : loadA E0 s2 3 (.ptr a19 0) = some (i64 n112)) (h14 : binA E0 .neq 3 (i64 n110) (i64 n112) = some TT) {T : Tm} (hT : f3L12 T (i64 bf) (i64 n9) (i64 n10) v16 (i64 n17) v85 (i64 n86) (i64 n87)) : AW Tryd.prog (f3P 13) (fun ex T' st' => ex = .ret ∧ f3L3 T' FF ∧ st' = s2) T st := by
  obtain ⟨hn, g1, g9, g10, g16, g17, g85, g86, g87⟩ := hT
  exact (gen_run (G := fun T => ([T.get 4] : List AV)) hE (f3_13_TFFT_e bf n9 n10 n17 n86 n87 n92 n103 n110 n112 v16 v85 q89 v90 st s1 s2 a19 p108 o108) (Ob.ok_cons.2 ⟨h1, (Ob.ok_cons.2 ⟨h2, (Ob.ok_cons.2 ⟨⟨h3, rfl⟩, (Ob.ok_cons.2 ⟨h4, (Ob.ok_cons.2 ⟨h5, (Ob.ok_cons.2 ⟨⟨h6, rfl⟩, (Ob.ok_cons.2 ⟨h7, (Ob.ok_cons.2 ⟨h8, (Ob.ok_cons.2 ⟨h9, (Ob.ok_cons.2 ⟨h10, (Ob.ok_cons.2 ⟨h11, (Ob.ok_cons.2 ⟨⟨by simp, h12⟩, (Ob.ok_cons.2 ⟨⟨by simp, h13⟩, (Ob.ok_cons.2 ⟨h14, Ob.ok_nil⟩)⟩)⟩)⟩)⟩)⟩)⟩)⟩)⟩)⟩)⟩)⟩)⟩)⟩) hn (conz g1 (conz g9 (conz g10 (conz g16 (conz g17 (conz g85 (conz g86 (one g87))))))))).mono fun ex T' st' ⟨q1, q2, q3, q4⟩ => by simp only [List.cons.injEq, and_true] at q3; exact ⟨q1, ⟨q2, q3⟩, q4⟩
theorem f3_13_TFFFT_e (bf n9 n10 n17 n86 n87 n92 n103 n110 n112 n127 n128 : Int) (v16 v85 q89 v90 v120 v122 : AV) (st s1 s2 s3 : St) (a19 p108 o108 p118 o118 : Nat) : ((evS Tryd.prog E0 noOv noS 100000 [2019, 2090, 2092, 2097, 5000, 6011, 7088, 7089, 7094, 7099, 7103, 7104, 7108, 7113, 7118, 7127, 7128, 8000] (f3P 13) ⟨137, [(1, (i64 bf)), (9, (i64 n9)), (10, (i64 n10)), (16, v16), (17, (i64 n17)), (85, v85), (86, (i64 n86)), (87, (i64 n87))], []⟩ st [.av TT, .av q89, .eff v90 id, .eff (.ptr a19 0) (fun _ => s1), .eff .undef (fun _ => s2), .eff (i64 n92) id, .av FF, .eff (i64 n103) id, .eff FF id, .eff (.ptr p108 o108) id, .eff (i64 n110) id, .eff (i64 n112) id, .eff FF id, .eff (.ptr p118 o118) id, .eff v120 id, .eff v122 id, .eff TT (fun _ => s3), .av (i64 n127), .av (i64 n128)]).map fun q => (q.1, q.2.1.n, ([q.2.1.get 1, q.2.1.get 9, q.2.1.get 10, q.2.1.get 16, q.2.1.get 17, q.2.1.get 85, q.2.1.get 86, q.2.1.get 87] : List AV), q.2.2.1, q.2.2.2.2)) = some (.normal, 137, [(i64 bf), (i64 n9), (i64 n10), v16, (i64 n127), v85, (i64 n86), (i64 n128)], s3.show s2 [p108, a19, p118, a19], [binA E0 .lss 3 (i64 n87) (i64 n86) = some TT, indexAddrA E0 28 v85 (i64 n87) = some q89, loadA E0 st 39 q89 = some v90 ∧ st = st, allocA E0 st 39 = some ((.ptr a19 0), s1), storeA E0 s1 39 (.ptr a19 0) v90 = some s2, loadA E0 s2 3 (.ptr a19 0) = some (i64 n92) ∧ s2 = s2, binA E0 .lss 3 (i64 n92) (i64 bf) = some FF, ∀ k ∈ [p108, a19, p118, a19], k < s2.next, lenA E0 28 v16 = some (i64 n103), binA E0 .eql 3 (i64 n17) (i64 n103) = some FF, indexAddrA E0 28 v16 (i64 n17) = some (.ptr p108 o108), [p108, a19, p118, a19].contains p108 = true ∧ loadA E0 s2 3 (.ptr p108 o108) = some (i64 n110), [p108, a19, p118, a19].contains a19 = true ∧ loadA E0 s2 3 (.ptr a19 0) = some (i64 n112), binA E0 .neq 3 (i64 n110) (i64 n112) = some FF, indexAddrA E0 28 v16 (i64 n17) = some (.ptr p118 o118), [p108, a19, p118, a19].contains p118 = true ∧ loadA E0 s2 33 (.ptr p118 (o118 + 1)) = some v120, [p108, a19, p118, a19].contains a19 = true ∧ loadA E0 s2 33 (.ptr a19 1) = some v122, (true = true → [p108, a19, p118, a19].all (fun k => (s2.get k).isSome) = true), obC 11 [v120, v122] (s2.hide [p108, a19, p118, a19]) TT s3, binA E0 .add 3 (i64 n17) (i64 1) = some (i64 n127), binA E0 .add 3 (i64 n87) (i64 1) = some (i64 n128)]) := by kernel_rfl
theorem f3_13_TFFFT {bf n9 n10 n17 n86 n87 n92 n103 n110 n112 n127 n128 : Int} {v16 v85 q89 v90 v120 v122 : AV} {st s1 s2 s3 : St} {a19 p108 o108 p118 o118 : Nat} (h1 : binA E0 .lss 3 (i64 n87) (i64 n86) = some TT) (h2 : indexAddrA E0 28 v85 (i64 n87) = some q89) (h3 : loadA E0 st 39 q89 = some v90) (h4 : allocA E0 st 39 = some ((.ptr a19 0), s1)) (h5 : storeA E0 s1 39 (.ptr a19 0) v90 = some s2) (h6 : loadA E0 s2 3 (.ptr a19 0) = some (i64 n92)) (h7 : binA E0 .lss 3 (i64 n92) (i64 bf) = some FF) (h8 : ∀ k ∈ [p108, a19, p118, a19], k < s2.next) (h9 : lenA E0 28 v16 = some (i64 n103)) (h10 : binA E0 .eql 3 (i64 n17) (i64 n103) = some FF) (h11 : indexAddrA E0 28 v16 (i64 n17) = some (.ptr p108 o108)) (h12 : loadA E0 s2 3 (.ptr p108 o108) = some (i64 n110)) (h13 : loadA E0 s2 3 (.ptr a19 0) = some (i64 n112)) (h14 : binA E0 .neq 3 (i64 n110) (i64 n112) = some FF) (h15 : indexAddrA E0 28 v16 (i64 n17) = some (.ptr p118 o118)) (h16 : loadA E0 s2 33 (.ptr p118 (o118 + 1)) = some v120) (h17 : loadA E0 s2 33 (.ptr a19 1) = some v122) (h18 : [p108, a19, p118, a19].all (fun k => (s2.get k).isSome) = true) (h19 : obC 11 [v120, v122] (s2.hide [p108, a19, p118, a19]) TT s3) (h20 : binA E0 .add 3 (i64 n17) (i64 1) = some (i64 n127)) (h21 : binA E0 .add 3 (i64 n87) (i64 1) = some (i64 n128)) {T : Tm} (hT : f3L12 T (i64 bf) (i64 n9) (i64 n10) v16 (i64 n17) v85 (i64 n86) (i64 n87)) : AW Tryd.prog (f3P 13) (fun ex T' st' => ex = .normal ∧ f3L12 T' (i64 bf) (i64 n9) (i64 n10) v16 (i64 n127) v85 (i64 n86) (i64 n128) ∧ st' = (s3.show s2 [p108, a19, p118, a19])) T st := by
  obtain ⟨hn, g1, g9, g10, g16, g17, g85, g86, g87⟩ := hT
  exact (gen_run (G := fun T => ([T.get 1, T.get 9, T.get 10, T.get 16, T.get 17, T.get 85, T.get 86, T.get 87] : List AV)) hE (f3_13_TFFFT_e bf n9 n10 n17 n86 n87 n92 n103 n110 n112 n127 n128 v16 v85 q89 v90 v120 v122 st s1 s2 s3 a19 p108 o108 p118 o118) (Ob.ok_cons.2 ⟨h1, (Ob.ok_cons.2 ⟨h2, (Ob.ok_cons.2 ⟨⟨h3, rfl⟩, (Ob.ok_cons.2 ⟨h4, (Ob.ok_cons.2 ⟨h5, (Ob.ok_cons.2 ⟨⟨h6, rfl⟩, (Ob.ok_cons.2 ⟨h7, (Ob.ok_cons.2 ⟨h8, (Ob.ok_cons.2 ⟨h9, (Ob.ok_cons.2 ⟨h10, (Ob.ok_cons.2 ⟨h11, (Ob.ok_cons.2 ⟨⟨by simp, h12⟩, (Ob.ok_cons.2 ⟨⟨by simp, h13⟩, (Ob.ok_cons.2 ⟨h14, (Ob.ok_cons.2 ⟨h15, (Ob.ok_cons.2 ⟨⟨by simp, h16⟩, (Ob.ok_cons.2 ⟨⟨by simp, h17⟩, (Ob.ok_cons.2 ⟨(fun _ => h18), (Ob.ok_cons.2 ⟨h19, (Ob.ok_cons.2 ⟨h20, (Ob.ok_cons.2 ⟨h21, Ob.ok_nil⟩)⟩)⟩)⟩)⟩)⟩)⟩)⟩)⟩)⟩)⟩)⟩)⟩)⟩)⟩)⟩)⟩)⟩)⟩)⟩)⟩) hn (conz g1 (conz g9 (conz g10 (conz g16 (conz g17 (conz g85 (conz g86 (one g87))))))))).mono fun ex T' st' ⟨q1, q2, q3, q4⟩ => by simp only [List.cons.injEq, and_true] at q3; exact ⟨q1, ⟨q2, q3⟩, q4⟩
theorem f3_13_TFFFF_e (bf n9 n10 n17 n86 n87 n92 n103 n110 n112 : Int) (v16 v85 q89 v90 v120 v122 : AV) (st s1 s2 s3 : St) (a19 p108 o108 p118 o118 : Nat) : ((evS Tryd.prog E0 noOv noS 100000 [2019, 2090, 2092, 2097, 5000, 6011, 7088, 7089, 7094, 7099, 7103, 7104, 7108, 7113, 7118, 7127, 7128, 8000] (f3P 13) ⟨137, [(1, (i64 bf)), (9, (i64 n9)), (10, (i64 n10)), (16, v16), (17, (i64 n17)), (85, v85), (86, (i64 n86)), (87, (i64 n87))], []⟩ st [.av TT, .av q89, .eff v90 id, .eff (.ptr a19 0) (fun _ => s1), .eff .undef (fun _ => s2), .eff (i64 n92) id, .av FF, .eff (i64 n103) id, .eff FF id, .eff (.ptr p108 o108) id, .eff (i64 n110) id, .eff (i64 n112) id, .eff FF id, .eff (.ptr p118 o118) id, .eff v120 id, .eff v122 id, .eff FF (fun _ => s3)]).map fun q => (q.1, q.2.1.n, ([q.2.1.get 4] : List AV), q.2.2.1, q.2.2.2.2)) = some (.ret, 137, [FF], s3.show s2 [p108, a19, p118, a19], [binA E0 .lss 3 (i64 n87) (i64 n86) = some TT, indexAddrA E0 28 v85 (i64 n87) = some q89, loadA E0 st 39 q89 = some v90 ∧ st = st, allocA E0 st 39 = some ((.ptr a19 0), s1), storeA E0 s1 39 (.ptr a19 0) v90 = some s2, loadA E0 s2 3 (.ptr a19 0) = some (i64 n92) ∧ s2 = s2, binA E0 .lss 3 (i64 n92) (i64 bf) = some FF, ∀ k ∈ [p108, a19, p118, a19], k < s2.next, lenA E0 28 v16 = some (i64 n103), binA E0 .eql 3 (i64 n17) (i64 n103) = some FF, indexAddrA E0 28 v16 (i64 n17) = some (.ptr p108 o108), [p108, a19, p118, a19].contains p108 = true ∧ loadA E0 s2 3 (.ptr p108 o108) = some (i64 n110), [p108, a19, p118, a19].contains a19 = true ∧ loadA E0 s2 3 (.ptr a19 0) = some (i64 n112), binA E0 .neq 3 (i64 n110) (i64 n112) = some FF, indexAddrA E0 28 v16 (i64 n17) = some (.ptr p118 o118), [p108, a19, p118, a19].contains p118 = true ∧ loadA E0 s2 33 (.ptr p118 (o118 + 1)) = some v120, [p108, a19, p118, a19].contains a19 = true ∧ loadA E0 s2 33 (.ptr a19 1) = some v122, (true = true → [p108, a19, p118, a19].all (fun k => (s2.get k).isSome) = true), obC 11 [v120, v122] (s2.hide [p108, a19, p118, a19]) FF s3]) := by kernel_rfl
theorem f3_13_TFFFF {bf n9 n10 n17 n86 n87 n92 n103 n110 n112 : Int} {v16 v85 q89 v90 v120 v122 : AV} {st s1 s2 s3 : St} {a19 p108 o108 p118 o118 : Nat} (h1 : binA E0 .lss 3 (i64 n87) (i64 n86) = some TT) (h2 : indexAddrA E0 28 v85 (i64 n87) = some q89) (h3 : loadA E0 st 39 q89 = some v90) (h4 : allocA E0 st 39 = some ((.ptr a19 0), s1)) (h5 : storeA E0 s1 39 (.ptr a19 0) v90 = some s2) (h6 : loadA E0 s2 3 (.ptr a19 0) = some (i64 n92)) (h7 : binA E0 .lss 3 (i64 n92) (i64 bf) = some FF) (h8 : ∀ k ∈ [p108, a19, p118, a19], k < s2.next) (h9 : lenA E0 28 v16 = some (i64 n103)) (h10 : binA E0 .eql 3 (i64 n17) (i64 n103) = some FF) (h11 : indexAddrA E0 28 v16 (i64 n17) = some (.ptr p108 o108)) (h12 : loadA E0 s2 3 (.ptr p108 o108) = some (i64 n110)) (h13 : loadA E0 s2 3 (.ptr a19 0) = some (i64 n112)) (h14 : binA E0 .neq 3 (i64 n110) (i64 n112) = some FF) (h15 : indexAddrA E0 28 v16 (i64 n17) = some (.ptr p118 o118)) (h16 : loadA E0 s2 33 (.ptr p118 (o118 + 1)) = some v120) (h17 : loadA E0 s2 33 (.ptr a19 1) = some v122) (h18 : [p108, a19, p118, a19].all (fun k => (s2.get k).isSome) = true) (h19 : obC 11 [v120, v122] (s2.hide [p108, a19, p118, a19]) FF s3) {T : Tm} (hT : f3L12 T (i64 bf) (i64 n9) (i64 n10) v16 (i64 n17) v85 (i64 n86) (i64 n87)) : AW Tryd.prog (f3P 13) (fun ex T' st' => ex = .ret ∧ f3L3 T' FF ∧ st' = (s3.show s2 [p108, a19, p118, a19])) T st := by
  obtain ⟨hn, g1, g9, g10, g16, g17, g85, g86, g87⟩ := hT
  exact (gen_run (G := fun T => ([T.get 4] : List AV)) hE (f3_13_TFFFF_e bf n9 n10 n17 n86 n87 n92 n103 n110 n112 v16 v85 q89 v90 v120 v122 st s1 s2 s3 a19 p108 o108 p118 o118) (Ob.ok_cons.2 ⟨h1, (Ob.ok_cons.2 ⟨h2, (Ob.ok_cons.2 ⟨⟨h3, rfl⟩, (Ob.ok_cons.2 ⟨h4, (Ob.ok_cons.2 ⟨h5, (Ob.ok_cons.2 ⟨⟨h6, rfl⟩, (Ob.ok_cons.2 ⟨h7, (Ob.ok_cons.2 ⟨h8, (Ob.ok_cons.2 ⟨h9, (Ob.ok_cons.2 ⟨h10, (Ob.ok_cons.2 ⟨h11, (Ob.ok_cons.2 ⟨⟨by simp, h12⟩, (Ob.ok_cons.2 ⟨⟨by simp, h13⟩, (Ob.ok_cons.2 ⟨h14, (Ob.ok_cons.2 ⟨h15, (Ob.ok_cons.2 ⟨⟨by simp, h16⟩, (Ob.ok_cons.2 ⟨⟨by simp, h17⟩, (Ob.ok_cons.2 ⟨(fun _ => h18), (Ob.ok_cons.2 ⟨h19, Ob.ok_nil⟩)⟩)⟩)⟩)⟩)⟩)⟩)⟩)⟩)⟩)⟩)⟩)⟩)⟩)⟩)⟩)⟩)⟩)⟩) hn (conz g1 (conz g9 (conz g10 (conz g16 (conz g17 (conz g85 (conz g86 (one g87))))))))).mono fun ex T' st' ⟨q1, q2, q3, q4⟩ => by simp only [List.cons.injEq, and_true] at q3; exact ⟨q1, ⟨q2, q3⟩, q4⟩
def f3L13 (T : Tm) (a9 a16 a17 : AV) : Prop := T.n = 137 ∧ T.get 9 = a9 ∧ T.get 16 = a16 ∧ T.get 17 = a17
theorem f3_13_F_e (bf n9 n10 n17 n86 n87 : Int) (v16 v85 : AV) (st : St) : ((evS Tryd.prog E0 noOv noS 100000 [2019, 2090, 2092, 2097, 5000, 6011, 7088, 7089, 7094, 7099, 7103, 7104, 7108, 7113, 7118, 7127, 7128, 8000] (f3P 13) ⟨137, [(1, (i64 bf)), (9, (i64 n9)), (10, (i64 n10)), (16, v16), (17, (i64 n17)), (85, v85), (86, (i64 n86)), (87, (i64 n87))], []⟩ st [.av FF]).map fun q => (q.1, q.2.1.n, ([q.2.1.get 9, q.2.1.get 16, q.2.1.get 17] : List AV), q.2.2.1, q.2.2.2.2)) = some ((.exit 2), 137, [(i64 n9), v16, (i64 n17)], st, [binA E0 .lss 3 (i64 n87) (i64 n86) = some FF]) := by kernel_rfl
theorem f3_13_F {bf n9 n10 n17 n86 n87 : Int} {v16 v85 : AV} {st : St} (h1 : binA E0 .lss 3 (i64 n87) (i64 n86) = some FF) {T : Tm} (hT : f3L12 T (i64 bf) (i64 n9) (i64 n10) v16 (i64 n17) v85 (i64 n86) (i64 n87)) : AW Tryd.prog (f3P 13) (fun ex T' st' => ex = (.exit 2) ∧ f3L13 T' (i64 n9) v16 (i64 n17) ∧ st' = st) T st := by
  obtain ⟨hn, g1, g9, g10, g16, g17, g85, g86, g87⟩ := hT
  exact (gen_run (G := fun T => ([T.get 9, T.get 16, T.get 17] : List AV)) hE (f3_13_F_e bf n9 n10 n17 n86 n87 v16 v85 st) (Ob.ok_cons.2 ⟨h1, Ob.ok_nil⟩) hn (conz g1 (conz g9 (conz g10 (conz g16 (conz g17 (conz g85 (conz g86 (one g87))))))))).mono fun ex T' st' ⟨q1, q2, q3, q4⟩ => by simp only [List.cons.injEq, and_true] at q3; exact ⟨q1, ⟨q2, q3⟩, q4⟩
theorem f3_14_TT_e (n9 n17 n134 : Int) (v16 : AV) (st : St) : ((evS Tryd.prog E0 noOv noS 100000 [7130, 7134, 7135] (f3P 14) ⟨137, [(9, (i64 n9)), (16, v16), (17, (i64 n17))], []⟩ st [.av TT, .av (i64 n134), .av TT]).map fun q => (q.1, q.2.1.n, ([q.2.1.get 4] : List AV), q.2.2.1, q.2.2.2.2)) = some (.ret, 137, [TT], st, [binA E0 .eql 29 (i64 n9) (i64 0) = some TT, lenA E0 28 v16 = some (i64 n134), binA E0 .eql 3 (i64 n17) (i64 n134) = some TT]) := by kernel_rfl
theorem f3_14_TT {n9 n17 n134 : Int} {v16 : AV} {st : St} (h1 : binA E0 .eql 29 (i64 n9) (i64 0) = some TT) (h2 : lenA E0 28 v16 = some (i64 n134)) (h3 : binA E0 .eql 3 (i64 n17) (i64 n134) = some TT) {T : Tm} (hT : f3L13 T (i64 n9) v16 (i64 n17)) : AW Tryd.prog (f3P 14) (fun ex T' st' => ex = .ret ∧ f3L3 T' TT ∧ st' = st) T st := by
  obtain ⟨hn, g9, g16, g17⟩ := hT
  exact (gen_run (G := fun T => ([T.get 4] : List AV)) hE (f3_14_TT_e n9 n17 n134 v16 st) (Ob.ok_cons.2 ⟨h1, (Ob.ok_cons.2 ⟨h2, (Ob.ok_cons.2 ⟨h3, Ob.ok_nil⟩)⟩)⟩) hn (conz g9 (conz g16 (one g17)))).mono fun ex T' st' ⟨q1, q2, q3, q4⟩ => by simp only [List.cons.injEq, and_true] at q3; exact ⟨q1, ⟨q2, q3⟩, q4⟩
theorem f3_14_TF_e (n9 n17 n134 : Int) (v16 : AV) (st : St) : ((evS Tryd.prog E0 noOv noS 100000 [7130, 7134, 7135] (f3P 14) ⟨137, [(9, (i64 n9)), (16, v16), (17, (i64 n17))], []⟩ st [.av TT, .av (i64 n134), .av FF]).map fun q => (q.1, q.2.1.n, ([q.2.1.get 4] : List AV), q.2.2.1, q.2.2.2.2)) = some (.ret, 137, [FF], st, [binA E0 .eql 29 (i64 n9) (i64 0) = some TT, lenA E0 28 v16 = some (i64 n134), binA E0 .eql 3 (i64 n17) (i64 n134) = some FF]) := by kernel_rfl
theorem f3_14_TF {n9 n17 n134 : Int} {v16 : AV} {st : St} (h1 : binA E0 .eql 29 (i64 n9) (i64 0) = some TT) (h2 : lenA E0 28 v16 = some (i64 n134)) (h3 : binA E0 .eql 3 (i64 n17) (i64 n134) = some FF) {T : Tm} (hT : f3L13 T (i64 n9) v16 (i64 n17)) : AW Tryd.prog (f3P 14) (fun ex T' st' => ex = .ret ∧ f3L3 T' FF ∧ st' = st) T st := by
  obtain ⟨hn, g9, g16, g17⟩ := hT
  exact (gen_run (G := fun T => ([T.get 4] : List AV)) hE (f3_14_TF_e n9 n17 n134 v16 st) (Ob.ok_cons.2 ⟨h1, (Ob.ok_cons.2 ⟨h2, (Ob.ok_cons.2 ⟨h3, Ob.ok_nil⟩)⟩)⟩) hn (conz g9 (conz g16 (one g17)))).mono fun ex T' st' ⟨q1, q2, q3, q4⟩ => by simp only [List.cons.injEq, and_true] at q3; exact ⟨q1, ⟨q2, q3⟩, q4⟩
theorem f3_14_F_e (n9 n17 : Int) (v16 : AV) (st : St) : ((evS Tryd.prog E0 noOv noS 100000 [7130, 7134, 7135] (f3P 14) ⟨137, [(9, (i64 n9)), (16, v16), (17, (i64 n17))], []⟩ st [.av FF]).map fun q => (q.1, q.2.1.n, ([q.2.1.get 4] : List AV), q.2.2.1, q.2.2.2.2)) = some (.ret, 137, [FF], st, [binA E0 .eql 29 (i64 n9) (i64 0) = some FF]) := by kernel_rfl
theorem f3_14_F {n9 n17 : Int} {v16 : AV} {st : St} (h1 : binA E0 .eql 29 (i64 n9) (i64 0) = some FF) {T : Tm} (hT : f3L13 T (i64 n9) v16 (i64 n17)) : AW Tryd.prog (f3P 14) (fun ex T' st' => ex = .ret ∧ f3L3 T' FF ∧ st' = st) T st := by
  obtain ⟨hn, g9, g16, g17⟩ := hT
  exact (gen_run (G := fun T => ([T.get 4] : List AV)) hE (f3_14_F_e n9 n17 v16 st) (Ob.ok_cons.2 ⟨h1, Ob.ok_nil⟩) hn (conz g9 (conz g16 (one g17)))).mono fun ex T' st' ⟨q1, q2, q3, q4⟩ => by simp only [List.cons.injEq, and_true] at q3; exact ⟨q1, ⟨q2, q3⟩, q4⟩
end
section
set_option maxRecDepth 4000
theorem nodup_nm {K : List Nat} (hK : K.Pairwise (· < ·)) (h9 : ∀ k ∈ K, 1 ≤ k ∧ k ≤ 9) : (K.map nm).Nodup := by
  unfold List.Nodup
  rw [List.pairwise_map]
  refine hK.imp_of_mem fun {a b} ha hb hab e => ?_
  have := nm_lt hab (h9 a ha).1 (h9 b hb).2
  rw [e] at this
  exact absurd this (List.lt_irrefl _)
theorem nm_inj {i j : Nat} (hi : 1 ≤ i ∧ i ≤ 9) (hj : 1 ≤ j ∧ j ≤ 9) (e : nm i = nm j) : i = j := by
  rcases Nat.lt_trichotomy i j with h | h | h
  · have := nm_lt h hi.1 hj.2; rw [e] at this; exact absurd this (List.lt_irrefl _)
  · exact h
  · have := nm_lt h hj.1 hi.2; rw [e] at this; exact absurd this (List.lt_irrefl _)
theorem Segs.nodup {s : PS} {K : List Nat} {B : Nat → List Int} (h : Segs s K B) : (s.L.map PF.name).Nodup := h.perm.nodup_iff.2 (nodup_nm h.inc h.r9)
theorem pRemove_eq {s : PS} {K : List Nat} {B : Nat → List Int} (h : Segs s K B) (hfu : s.fu = 0) (hoff : s.off = false) {k j : Nat} (hk : k ∈ K) (hj : find (nm k) s.L = some j) : pRemove s (nm k) = (0, { s with L := s.L.eraseIdx j }) := by
  unfold pRemove
  rw [if_neg (by rw [h.rd hoff hk]; simp), if_neg (by rw [hfu]; decide), hj]
  simp only [burnt, burnN, burnB, hfu, Option.getD_some]
  cases s; simp only at hfu hoff; subst hfu; subst hoff; rfl
theorem perm_eraseIdx {α : Type} : ∀ {L : List α} {j : Nat} {f : α}, L[j]? = some f → L.Perm (f :: L.eraseIdx j)
  | [], j, f, h => by simp at h
  | a :: r, 0, f, h => by
    simp only [List.getElem?_cons_zero, Option.some.injEq] at h
    subst h; exact .refl _
  | a :: r, j + 1, f, h => by
    rw [List.getElem?_cons_succ] at h
    rw [List.eraseIdx_cons_succ]
    exact ((perm_eraseIdx h).cons a).trans (.swap _ _ _)
theorem Segs.remove {s : PS} {K : List Nat} {B : Nat → List Int} (h : Segs s K B) {k j : Nat} (hk : k ∈ K) (hj : find (nm k) s.L = some j) : Segs { s with L := s.L.eraseIdx j } (K.erase k) B := by
  obtain ⟨f, hf, hn⟩ := find_some hj
  have hsub : (K.erase k).Sublist K := List.erase_sublist
  have hKn : K.Nodup := h.inc.imp fun {a b} hab => Nat.ne_of_lt hab
  have hp1 : (s.L.map PF.name).Perm (nm k :: (K.erase k).map nm) := h.perm.trans ((List.perm_cons_erase hk).map nm)
  have hp2 : (s.L.map PF.name).Perm (nm k :: (s.L.eraseIdx j).map PF.name) := by
    have h2 := (perm_eraseIdx hf).map PF.name
    rw [List.map_cons, hn] at h2
    exact h2
  refine ⟨(hp2.symm.trans hp1).cons_inv, h.inc.sublist hsub, fun i hi => h.r9 i (hsub.subset hi), Nat.le_trans hsub.length_le h.len, fun i hi => ?_⟩
  have hne : i ≠ k := fun e => by rw [e] at hi; exact (List.Nodup.not_mem_erase hKn) hi
  obtain ⟨j', f', g1, g2, g3⟩ := h.file i (hsub.subset hi)
  have hnm : f'.name = nm i := by obtain ⟨f2, a, b⟩ := find_some g1; rw [g2] at a; cases a; exact b
  have hjj : j' ≠ j := fun e => by
    rw [e, hf] at g2; cases g2
    rw [hn] at hnm
    exact hne (nm_inj (h.r9 _ (hsub.subset hi)) (h.r9 _ hk) hnm.symm)
  have hmem : f' ∈ s.L.eraseIdx j := List.mem_eraseIdx_iff_getElem?.2 ⟨j', hjj, g2⟩
  obtain ⟨q, hq⟩ := List.mem_iff_getElem?.1 hmem
  have hnd : ((s.L.eraseIdx j).map PF.name).Nodup := h.nodup.sublist ((List.eraseIdx_sublist _ _).map _)
  exact ⟨q, f', by rw [← hnm]; exact find_nodup hnd hq, hq, g3⟩
end
section
set_option maxRecDepth 4000
def kept (bf : Int) (op k : Nat) : Bool := decide (bf ≤ k) || decide (k = op)
theorem usedL_sub {A B : List PF} (h : A.Sublist B) : usedL A ≤ usedL B := by
  induction h with
  | slnil => exact Nat.le_refl _
  | cons a _ ih => rw [usedL_cons]; omega
  | cons_cons a _ ih => rw [usedL_cons, usedL_cons]; omega
section
variable {st : St} {w d m nx op ct : Nat} {s : PS}
theorem Fine.remove {s : PS} {U : Nat} (h : Fine s U) (j : Nat) : Fine { s with L := s.L.eraseIdx j } U := by
  refine ⟨⟨fun f hf => h.good.dv f ((List.eraseIdx_sublist _ _).subset hf), h.good.fu⟩, Nat.le_trans ?_ h.used, h.q⟩
  exact usedL_sub (List.eraseIdx_sublist s.L j)
theorem retire_ok {K : List Nat} {B : Nat → List Int} {U : Nat} {bf : Int} (h : WA st w d m s nx op ct) (hS : Segs s K B) (hfu : s.fu = 0) (hoff : s.off = false) (hf : Fine s U) :
    ∃ st' s', obC 10 [.ptr w 0, i64 bf] st (i64 0) st' ∧ WA st' w d m s' nx op ct ∧ Segs s' (K.filter (kept bf op)) B ∧ s'.fu = 0 ∧ s'.off = false ∧ Fine s' U ∧ Rest st st' [d, m] := by
  obtain ⟨v, s1, b1, b2, b3, _⟩ := segments_ok h hS.perm hS.inc hS.r9 hS.len
  have h1 := h.rest b3
  let Inv : Nat → St × PS → Prop := fun i p => WA p.1 w d m p.2 nx op ct ∧ Segs p.2 ((K.take i).filter (kept bf op) ++ K.drop i) B ∧ p.2.fu = 0 ∧ p.2.off = false ∧ Fine p.2 U ∧ Rest s1 p.1 [d, m]
  let Rel : Nat → St × PS → St × PS → Prop := fun i p p' => ∀ T, f10L1 T (.ptr w 0) (i64 bf) v (i64 K.length) (i64 i) → AW Tryd.prog (f10P 3) (fun ex T' z => ex = .normal ∧ f10L1 T' (.ptr w 0) (i64 bf) v (i64 K.length) (i64 (i + 1 : Nat)) ∧ z = p'.1) T p.1
  have turn : ∀ i p, i < K.length → Inv i p → ∃ p', Inv (i + 1) p' ∧ Rel i p p' := fun i ⟨σ, si⟩ hi ⟨i1, i2, i3, i4, i5, i6⟩ => by
    simp only at i1 i2 i3 i4 i5 i6
    have hi9 : i < 9 := Nat.lt_of_lt_of_le hi hS.len
    have hki : K[i]? = some K[i] := List.getElem?_eq_getElem hi
    have hmem := List.getElem_mem hi
    have hdr : K.drop i = K[i] :: K.drop (i + 1) := List.drop_eq_getElem_cons hi
    have htk : K.take (i + 1) = K.take i ++ [K[i]] := by rw [List.take_add_one, hki]; rfl
    have hk9 := hS.r9 _ hmem
    generalize K[i] = k at *
    rcases b2 with ⟨e, _⟩ | ⟨_, _, id, rfl, hg⟩
    · omega
    have hgσ := i6.keep id _ (by
      simp only [List.mem_cons, List.not_mem_nil, or_false]
      rintro (e | e)
      · rw [e, h1.disk.row] at hg; simp at hg
      · obtain ⟨_, _, hm⟩ := h1.disk.map
        rw [e, hm] at hg; cases hg) hg
    have hld : loadA E0 σ 3 (.ptr id (0 + i * 1)) = some (i64 k) := load_row hgσ (p3 (by rw [Nat.zero_add, Nat.mul_one, List.getElem?_map, hki]; rfl))
    by_cases hb : bf ≤ k
    · refine ⟨(σ, si), ⟨i1, ?_, i3, i4, i5, i6⟩, fun T hT => f10_3_TT (lssT (by omega)) (idxS sl55 hi) hld (geqT hb) (add64 (by omega)) hT⟩
      rw [htk, List.filter_append, List.filter_cons_of_pos (by simp [kept, hb]), List.filter_nil, List.append_assoc]
      rw [hdr] at i2; exact i2
    by_cases ho : k = op
    · refine ⟨(σ, si), ⟨i1, ?_, i3, i4, i5, i6⟩, fun T hT => f10_3_TFT (lssT (by omega)) (idxS sl55 hi) hld (geqF hb) i1.l2 (eqlT (by omega)) (add64 (by omega)) hT⟩
      rw [htk, List.filter_append, List.filter_cons_of_pos (by simp [kept, ho]), List.filter_nil, List.append_assoc]
      rw [hdr] at i2; exact i2
    rw [hdr] at i2
    have hin : k ∈ (K.take i).filter (kept bf op) ++ k :: K.drop (i + 1) := by simp
    obtain ⟨j, f, f1, _, _⟩ := i2.file k hin
    have hrm := pRemove_eq i2 i3 i4 hin f1
    obtain ⟨σ1, n1, N1⟩ := name_ok hk9 i1.wf
    have w1 := i1.rest N1
    obtain ⟨σ2, r2, p2, R2⟩ := remove_ok w1.disk w1.wf w1.lock i5.good (nm k)
    rw [hrm] at r2 p2
    have hnot : k ∉ (K.take i).filter (kept bf op) := fun hh => by
      have := List.pairwise_append.1 i2.inc
      exact absurd (this.2.2 k hh k (by simp)) (Nat.lt_irrefl _)
    refine ⟨(σ2, _), ⟨w1.disk' p2 R2, ?_, i3, i4, i5.remove j, i6.trans ((N1.weak (by simp)).trans R2)⟩, fun T hT => f10_3_TFFF (lssT (by omega)) (idxS sl55 hi) hld (geqF hb) i1.l2 (eqlF (by omega)) n1 w1.l0 r2 (neqF rfl) (add64 (by omega)) hT⟩
    have := i2.remove hin f1
    rw [List.erase_append_right _ hnot, List.erase_cons_head] at this
    rw [htk, List.filter_append, List.filter_cons_of_neg (by simp [kept, hb, ho]), List.filter_nil, List.append_nil]
    exact this
  obtain ⟨c, c0, inv, step⟩ := chain_seq Inv Rel K.length (s1, s) ⟨h1, by simpa using hS, hfu, hoff, hf, Rest.refl b3.wf _⟩ turn
  obtain ⟨e1, e2, e3, e4, e5, e6⟩ := inv K.length (Nat.le_refl _)
  rw [List.take_of_length_le (Nat.le_refl _), List.drop_of_length_le (Nat.le_refl _), List.append_nil] at e2
  refine ⟨(c K.length).1, (c K.length).2, ?_, e1, e2, e3, e4, e5, (b3.weak (by simp)).trans e6⟩
  refine ACalls.body (E := E0) hE Tryd.func10 f10body ?_
  refine AW.andThen (f10_0 ⟨rfl, rfl, rfl⟩) fun T1 q1 => ?_
  refine AW.andThen (f10_1 h.l0 q1) fun T2 q2 => ?_
  refine AW.andThen (AW.andThen (f10_2 b1 (Ls.len sl55 b2) q2) fun T3 q3 => AW.turns (In := fun i T => f10L1 T (.ptr w 0) (i64 bf) v (i64 K.length) (i64 i)) (L := fun T => f10L3 T) (c := fun i => (c i).1) (n := K.length) (sf := (c K.length).1) (by rw [c0]) q3 (fun i hi T hT => step i hi T hT) (fun T hT => f10_3_F (lssF (by omega)) hT)) fun T4 q4 => ?_
  refine AW.atRet (f10_4 q4) fun T5 q5 => ?_
  refine ⟨[T5.get 4], rfl, ?_⟩
  simp only [oneOrTup]
  exact ⟨q5.2, trivial⟩
end
end
section
set_option maxRecDepth 4000
def upd (B : Nat → List Int) (k : Nat) (b : List Int) : Nat → List Int := fun i => if i = k then b else B i
theorem Segs.set {s s' : PS} {K : List Nat} {B : Nat → List Int} (h : Segs s K B) {k j : Nat} {f f' : PF} (hk : k ∈ K) (hj : find (nm k) s.L = some j) (hf : s.L[j]? = some f) (hn : f'.name = nm k) (hL : s'.L = s.L.set j f') : Segs s' K (upd B k f'.bytes) := by
  have hfn : f.name = nm k := by obtain ⟨f2, a, b⟩ := find_some hj; rw [hf] at a; cases a; exact b
  have hnames : s'.L.map PF.name = s.L.map PF.name := by
    rw [hL, List.map_set, hn, ← hfn]
    refine List.ext_getElem? fun i => ?_
    rw [List.getElem?_set]
    split
    · rename_i e; subst e
      split
      · rw [List.getElem?_map, hf]; rfl
      · rename_i hlt
        rw [List.getElem?_eq_none (by omega)]
    · rfl
  have hjl : j < s.L.length := (List.getElem?_eq_some_iff.1 hf).1
  refine ⟨by rw [hnames]; exact h.perm, h.inc, h.r9, h.len, fun i hi => ?_⟩
  have hnd : (s'.L.map PF.name).Nodup := by rw [hnames]; exact h.nodup
  by_cases e : i = k
  · have hq : s'.L[j]? = some f' := by rw [hL, List.getElem?_set, if_pos rfl, if_pos hjl]
    refine ⟨j, f', by rw [e, ← hn]; exact find_nodup hnd hq, hq, by unfold upd; rw [if_pos e]⟩
  · obtain ⟨j', f2, g1, g2, g3⟩ := h.file i hi
    have hf2 : f2.name = nm i := by obtain ⟨f3, a, b⟩ := find_some g1; rw [g2] at a; cases a; exact b
    have hjj : j ≠ j' := fun e2 => by
      rw [← e2, hf] at g2; cases g2
      rw [hfn] at hf2
      exact e (nm_inj (h.r9 _ hi) (h.r9 _ hk) hf2.symm)
    have hq : s'.L[j']? = some f2 := by rw [hL, List.getElem?_set, if_neg hjj]; exact g2
    refine ⟨j', f2, by rw [← hf2]; exact find_nodup hnd hq, hq, by unfold upd; rw [if_neg e]; exact g3⟩
/-- a disk without a fuse, that is on -/
structure Calmed (s : PS) : Prop where
  fu : s.fu = 0
  off : s.off = false
theorem Calmed.burnt {s : PS} (h : Calmed s) : burnt s = s := by
  obtain ⟨h1, h2⟩ := h
  cases s; simp only at h1 h2; subst h1; subst h2; rfl
theorem Segs.same {s : PS} {K : List Nat} {B B' : Nat → List Int} (h : Segs s K B) (e : ∀ k ∈ K, B' k = B k) : Segs s K B' :=
  ⟨h.perm, h.inc, h.r9, h.len, fun k hk => by obtain ⟨j, f, a, b, c⟩ := h.file k hk; exact ⟨j, f, a, b, by rw [e k hk]; exact c⟩⟩
theorem Segs.sync {s : PS} {K : List Nat} {B : Nat → List Int} (h : Segs s K B) (hc : Calmed s) {k : Nat} (hk : k ∈ K) : (pSync s (nm k)).1 = 0 ∧ Segs (pSync s (nm k)).2 K B ∧ Calmed (pSync s (nm k)).2 ∧ (pSync s (nm k)).2.q = s.q ∧ usedL (pSync s (nm k)).2.L = usedL s.L := by
  obtain ⟨j, f, h1, h2, h3⟩ := h.file k hk
  have hn : f.name = nm k := by obtain ⟨f2, a, b⟩ := find_some h1; rw [h2] at a; cases a; exact b
  have e : pSync s (nm k) = (0, { s with L := s.L.set j { f with last := f.bytes.length } }) := by
    unfold pSync
    rw [if_neg (by rw [h.rd hc.off hk]; simp), if_neg (by rw [hc.fu]; decide), h1]
    simp only [h2, hc.burnt]
  rw [e]
  refine ⟨rfl, (Segs.set (f' := { f with last := f.bytes.length }) h hk h1 h2 hn rfl).same fun i _ => ?_, ⟨hc.fu, hc.off⟩, rfl, ?_⟩
  · unfold upd; split
    · rename_i e2; rw [e2]; exact h3.symm
    · rfl
  · have := usedL_put (f' := { f with last := f.bytes.length }) h2
    simp only at this ⊢
    omega
theorem Segs.app {s s' : PS} {K : List Nat} {B : Nat → List Int} (h : Segs s K B) (hc : Calmed s) {k : Nat} (hk : k ∈ K) {c : List Int} (hroom : (usedL s.L : Int) + c.length ≤ s.q) (ha : AppS s (nm k) c s') : appE s (nm k) c = 0 ∧ Segs s' K (upd B k (B k ++ c)) ∧ Calmed s' ∧ s'.q = s.q ∧ usedL s'.L = usedL s.L + c.length := by
  have hr := h.rd hc.off hk
  obtain ⟨j, f, h1, h2, h3⟩ := h.file k hk
  have hb : ¬ (burnB s.fu = true) := by rw [hc.fu]; decide
  unfold AppS at ha
  rw [if_neg (by rw [hr]; simp), if_neg (by omega), if_neg hb] at ha
  obtain ⟨j', f', dv, g1, g2, g3, _, rfl⟩ := ha
  obtain rfl : j = j' := by rw [h1] at g1; exact Option.some.inj g1
  obtain rfl : f = f' := by rw [h2] at g2; exact Option.some.inj g2
  refine ⟨?_, ?_, ?_⟩
  · unfold appE
    rw [if_neg (by rw [hr]; simp), if_neg (by omega), if_neg hb]
  · have := Segs.set (s' := { burnt s with L := s.L.set j ⟨nm k, dv, f.bytes ++ c, f.last⟩ }) (f' := ⟨nm k, dv, f.bytes ++ c, f.last⟩) h hk h1 h2 rfl rfl
    rw [h3] at this; rw [h3]; exact this
  · rw [hc.burnt]
    refine ⟨⟨hc.fu, hc.off⟩, rfl, ?_⟩
    have := usedL_put (f' := ⟨nm k, dv, f.bytes ++ c, f.last⟩) h2
    simp only [List.length_append] at this ⊢
    omega
theorem Segs.create {s : PS} {K : List Nat} {B : Nat → List Int} (h : Segs s K B) (hc : Calmed s) {x : Nat} (hx : ∀ k ∈ K, k < x) (h9 : 1 ≤ x ∧ x ≤ 9) (hl : K.length < 9) : (pCreate s (nm x)).1 = 0 ∧ Segs (pCreate s (nm x)).2 (K ++ [x]) (upd B x []) ∧ Calmed (pCreate s (nm x)).2 ∧ (pCreate s (nm x)).2.q = s.q ∧ usedL (pCreate s (nm x)).2.L = usedL s.L := by
  have hnf : find (nm x) s.L = none := by
    cases hq : find (nm x) s.L with
    | none => rfl
    | some j =>
      obtain ⟨f, a, b⟩ := find_some hq
      have : nm x ∈ K.map nm := h.perm.mem_iff.1 (by rw [← b]; exact List.mem_map_of_mem (List.mem_of_getElem? a))
      obtain ⟨k, hk, e⟩ := List.mem_map.1 this
      have := nm_inj (h.r9 k hk) h9 e
      have := hx k hk
      omega
  have hlen : s.L.length = K.length := by have := h.perm.length_eq; simpa using this
  have e : pCreate s (nm x) = (0, { s with L := s.L ++ [⟨nm x, .nils, [], 0⟩] }) := by
    unfold pCreate
    have hr : rdE s.L s.off false (nm x) = 0 := by
      unfold rdE
      rw [hc.off, if_neg (by simp), if_neg (fun h' => h' (nm_ok h9)), if_neg (by simp)]
    rw [if_neg (by rw [hr]; simp), if_neg (by omega), if_neg (by rw [hc.fu]; decide), hc.burnt]
    simp only [putL, hnf]
  rw [e]
  have hperm : ((s.L ++ [⟨nm x, .nils, [], 0⟩] : List PF).map PF.name).Perm ((K ++ [x]).map nm) := by
    simp only [List.map_append, List.map_cons, List.map_nil]
    exact h.perm.append_right _
  have hinc : (K ++ [x]).Pairwise (· < ·) := by
    rw [List.pairwise_append]
    exact ⟨h.inc, by simp, fun a ha b hb => by rw [List.mem_singleton.1 hb]; exact hx a ha⟩
  have hr9 : ∀ k ∈ K ++ [x], 1 ≤ k ∧ k ≤ 9 := fun k hk => by
    rcases List.mem_append.1 hk with hk | hk
    · exact h.r9 k hk
    · rw [List.mem_singleton.1 hk]; exact h9
  have hnd := hperm.nodup_iff.2 (nodup_nm hinc hr9)
  refine ⟨rfl, ⟨hperm, hinc, hr9, by simp; omega, fun k hk => ?_⟩, ⟨hc.fu, hc.off⟩, rfl, by rw [usedL_append]; simp [usedL]⟩
  rcases List.mem_append.1 hk with hk | hk
  · obtain ⟨j, f, a, b, c⟩ := h.file k hk
    have hn : f.name = nm k := by obtain ⟨f2, a2, b2⟩ := find_some a; rw [b] at a2; cases a2; exact b2
    have hq : (s.L ++ [⟨nm x, .nils, [], 0⟩] : List PF)[j]? = some f := by
      rw [List.getElem?_append_left (List.getElem?_eq_some_iff.1 b).1]; exact b
    exact ⟨j, f, by rw [← hn]; exact find_nodup hnd hq, hq, by unfold upd; rw [if_neg (by have := hx k hk; omega)]; exact c⟩
  · obtain rfl := List.mem_singleton.1 hk
    have hq : (s.L ++ [⟨nm k, .nils, [], 0⟩] : List PF)[s.L.length]? = some ⟨nm k, .nils, [], 0⟩ := by
      rw [List.getElem?_append_right (Nat.le_refl _), Nat.sub_self]; rfl
    exact ⟨_, _, find_nodup (f := ⟨nm k, .nils, [], 0⟩) hnd hq, hq, by unfold upd; rw [if_pos rfl]⟩
end
section
set_option maxRecDepth 4000
/-- a log that was opened on an empty disk, and its records -/
structure LogI (s : PS) (nx op ct : Nat) (G : Nat → List (List Int)) (N U : Nat) : Prop where
  segs : Segs s (List.range' 1 op) fun k => (G k).flatMap frameL
  calm : Calmed s
  hnx : nx = op + 1
  hct : op = 0 ∧ ct = 0 ∨ 0 < op ∧ ct = (G op).length ∧ 1 ≤ ct ∧ ct ≤ 8
  num : N + 8 = 8 * op + ct ∨ op = 0 ∧ N = 0
  full : ∀ k, 1 ≤ k → k < op → (G k).length = 8
  used : usedL s.L ≤ U
  q : s.q = 1048576
  good : Good s
  sz : ∀ k, ∀ r ∈ G k, 1 ≤ r.length ∧ r.length ≤ 500
def updG (G : Nat → List (List Int)) (k : Nat) (l : List (List Int)) : Nat → List (List Int) := fun i => if i = k then l else G i
/-- the records behind one more Append -/
def addG (G : Nat → List (List Int)) (op ct : Nat) (r : List Int) : Nat → List (List Int) := if op = 0 ∨ ct = 8 then updG G (op + 1) [r] else updG G op (G op ++ [r])
theorem LogI.fine {s : PS} {nx op ct N U : Nat} {G : Nat → List (List Int)} (h : LogI s nx op ct G N U) : Fine s U := ⟨h.good, h.used, by rw [h.q]; omega⟩
theorem log_append {st : St} {w d m : Nat} {s : PS} {nx op ct N U : Nat} {G : Nat → List (List Int)} {data : List Int} (h : WA st w d m s nx op ct) (hI : LogI s nx op ct G N U) (hN : N < 60) (hU : U + 508 ≤ 1048576) (h1 : 1 ≤ data.length) (h2 : data.length ≤ 500) :
    ∃ st' s' op', obC 8 [.ptr w 0, recW data] st (.tup [i64 (op' : Nat), i64 0]) st' ∧ WA st' w d m s' (op' + 1) op' (if op = 0 ∨ ct = 8 then 1 else ct + 1) ∧ op' = (if op = 0 ∨ ct = 8 then op + 1 else op) ∧ LogI s' (op' + 1) op' (if op = 0 ∨ ct = 8 then 1 else ct + 1) (addG G op ct data) (N + 1) (U + (8 + data.length)) ∧ RestF st st' [d, m, w] := by
  have hop : op ≤ 8 := by rcases hI.num with h | h <;> omega
  have hct8 : ct ≤ 8 := by rcases hI.hct with h | h <;> omega
  have hfull7 : ct = 8 → op ≤ 7 := fun e => by rcases hI.num with h | h <;> omega
  have hnx := hI.hnx
  obtain ⟨st', s', hA, hR⟩ := wappend_ok (data := data) h hI.fine (by omega) (by rw [hnx]; omega) (by omega) hct8 h1 (by omega)
  have hlen := frame_len data
  have hK : ∀ {n k : Nat}, k ∈ List.range' 1 n ↔ 1 ≤ k ∧ k ≤ n := fun {n k} => by rw [List.mem_range'_1]; omega
  by_cases hc : op = 0 ∨ ct = 8
  · -- a new segment
    have hpre : ∃ sC, wPre s nx op ct = (0, sC, nx + 1, nx, 0) ∧ Segs sC (List.range' 1 (op + 1)) (upd (fun k => (G k).flatMap frameL) (op + 1) []) ∧ Calmed sC ∧ sC.q = s.q ∧ usedL sC.L = usedL s.L ∧ Fine sC U := by
      have hrg : List.range' 1 op ++ [op + 1] = List.range' 1 (op + 1) := by rw [List.range'_1_concat]; congr 2; omega
      by_cases h0 : op = 0
      · obtain ⟨a1, a2, a3, a4, a5⟩ := hI.segs.create hI.calm (x := nx) (fun k hk => by have := hK.1 hk; omega) (by omega) (by rw [List.length_range']; omega)
        refine ⟨(pCreate s (nm nx)).2, ?_, ?_, a3, a4, a5, hI.fine.create _⟩
        · unfold wPre
          rw [if_neg (by omega), if_pos h0, if_neg (by rw [a1]; simp)]
        · rw [hnx, hrg] at a2; rw [hnx]; exact a2
      · have h8 : ct = 8 := by omega
        obtain ⟨b1, b2, b3, b4, b5⟩ := hI.segs.sync hI.calm (k := op) (hK.2 (by omega))
        obtain ⟨a1, a2, a3, a4, a5⟩ := b2.create b3 (x := nx) (fun k hk => by have := hK.1 hk; omega) (by have := hfull7 h8; omega) (by rw [List.length_range']; have := hfull7 h8; omega)
        refine ⟨(pCreate (pSync s (nm op)).2 (nm nx)).2, ?_, ?_, a3, a4.trans b4, a5.trans b5, (hI.fine.sync _).create _⟩
        · unfold wPre
          rw [if_pos ⟨by omega, h8⟩, if_neg (by rw [b1]; simp), if_neg (by rw [a1]; simp)]
        · rw [hnx, hrg] at a2; rw [hnx]; exact a2
    obtain ⟨sC, hp, c1, c2, c3, c4, c5⟩ := hpre
    unfold WApp at hA
    rw [hp] at hA
    rcases hA with ⟨hz, _⟩ | ⟨_, happ, hrest⟩
    · exact absurd rfl hz
    simp only at happ hrest
    rw [hnx] at happ hrest
    obtain ⟨d1, d2, d3, d4, d5⟩ := c1.app c2 (k := op + 1) (hK.2 (by omega)) (by rw [c3, hI.q, c4, hlen]; have := hI.used; omega) happ
    rcases hrest with ⟨hz, _⟩ | ⟨_, hob, hwa⟩
    · exact absurd d1 hz
    refine ⟨st', s', op + 1, hob, by rw [if_pos hc]; exact hwa, by rw [if_pos hc], ?_, hR⟩
    rw [if_pos hc]
    have hF : Fine s' (U + (frameL data).length) := c5.app happ
    have hG : addG G op ct data = updG G (op + 1) [data] := by unfold addG; rw [if_pos hc]
    rw [hG]
    refine ⟨d2.same fun k hk => ?_, d3, rfl, .inr ⟨by omega, by simp [updG], by omega, by omega⟩, ?_, fun k hk1 hk2 => ?_, by rw [← hlen]; exact hF.used, by rw [d4, c3, hI.q], hF.good, fun k r hr => ?_⟩
    · unfold upd updG
      split
      · rename_i e; rw [if_pos rfl]; simp
      · rename_i e; rfl
    · rcases hI.num with h | h <;> rcases hI.hct with h' | h' <;> omega
    · unfold updG
      rw [if_neg (by omega)]
      by_cases e : k = op
      · rcases hI.hct with h' | h'
        · omega
        · rw [e, ← h'.2.1]; omega
      · exact hI.full k hk1 (by omega)
    · unfold updG at hr
      split at hr
      · rw [List.mem_singleton.1 hr]; omega
      · exact hI.sz k r hr
  · have hc1 : op ≠ 0 := fun e => hc (.inl e)
    have hc2 : ct ≠ 8 := fun e => hc (.inr e)
    have hp : wPre s nx op ct = (0, s, nx, op, ct) := by
      unfold wPre; rw [if_neg (fun h' => hc2 h'.2), if_neg hc1]
    unfold WApp at hA
    rw [hp] at hA
    rcases hA with ⟨hz, _⟩ | ⟨_, happ, hrest⟩
    · exact absurd rfl hz
    simp only at happ hrest
    rw [hnx] at hrest
    obtain ⟨d1, d2, d3, d4, d5⟩ := hI.segs.app hI.calm (k := op) (hK.2 (by omega)) (by rw [hI.q, hlen]; have := hI.used; omega) happ
    rcases hrest with ⟨hz, _⟩ | ⟨_, hob, hwa⟩
    · exact absurd d1 hz
    refine ⟨st', s', op, hob, by rw [if_neg hc]; exact hwa, by rw [if_neg hc], ?_, hR⟩
    rw [if_neg hc]
    have hF : Fine s' (U + (frameL data).length) := hI.fine.app happ
    have hG : addG G op ct data = updG G op (G op ++ [data]) := by unfold addG; rw [if_neg hc]
    rw [hG]
    refine ⟨d2.same fun k hk => ?_, d3, rfl, .inr ⟨by omega, ?_, by omega, by omega⟩, ?_, fun k hk1 hk2 => ?_, by rw [← hlen]; exact hF.used, by rw [d4, hI.q], hF.good, fun k r hr => ?_⟩
    · unfold upd updG
      split
      · rename_i e; simp
      · rfl
    · unfold updG
      rw [if_pos rfl, List.length_append]
      rcases hI.hct with h' | h'
      · omega
      · simp only [List.length_cons, List.length_nil]; omega
    · rcases hI.num with h | h <;> rcases hI.hct with h' | h' <;> omega
    · unfold updG
      rw [if_neg (by omega)]
      exact hI.full k hk1 hk2
    · unfold updG at hr
      split at hr
      · rename_i e
        rcases List.mem_append.1 hr with hr | hr
        · exact hI.sz op r hr
        · rw [List.mem_singleton.1 hr]; omega
      · exact hI.sz k r hr
end
section
set_option maxRecDepth 4000
theorem build76 (q : Int) : buildA E0 76 [(1, i64 q)] = some (.agg [.nils, i64 q, i64 0, FF]) := by kernel_rfl
theorem box76 (st : St) (q : Int) : boxA st 76 (.agg [.nils, i64 q, i64 0, FF]) = some (.ptr st.next 0, st.push (.row [.nils, i64 q, i64 0, FF] 76)) := by kernel_rfl
theorem both_new {st : St} (hw : st.wf) : ∃ e st', obC 5 [i64 1048576] st (.tup [.ptr (st.next + 1) 0, .ptr e 0]) st' ∧ PDs st' (st.next + 1) st.next ⟨[], 1048576, 0, false⟩ ∧ Rest st st' [] := by
  obtain ⟨s1, a1, a2, a3⟩ := (new_ok hw 1048576).2 (by omega)
  have hp : Rest s1 (s1.push (.row [.nils, i64 1048576, i64 0, FF] 76)) [] := Rest.push a3.wf _ _
  exact ⟨s1.next, _, f5_FF a1 (f15_F (lssF (by omega)) (build76 _) (box76 _ _)) (neqF rfl) (neqF rfl), PD.rest a2 hp, a3.trans hp⟩
theorem segs_nil {s : PS} (h : s.L = []) (B : Nat → List Int) : Segs s [] B := ⟨by rw [h]; exact .refl _, by simp, fun k hk => by simp at hk, by simp, fun k hk => by simp at hk⟩
theorem log_new : LogI ⟨[], 1048576, 0, false⟩ 1 0 0 (fun _ => []) 0 0 := ⟨segs_nil rfl _, ⟨rfl, rfl⟩, rfl, .inl ⟨rfl, rfl⟩, .inr ⟨rfl, rfl⟩, fun k h1 h2 => by omega, by simp [usedL], rfl, ⟨fun f hf => by simp at hf, by decide⟩, fun k r hr => by simp at hr⟩
theorem log_sync {st : St} {w d m : Nat} {s : PS} {nx op ct N U : Nat} {G : Nat → List (List Int)} (h : WA st w d m s nx op ct) (hI : LogI s nx op ct G N U) (hop : op ≤ 9) :
    ∃ st', obC 9 [.ptr w 0] st (i64 0) st' ∧ WA st' w d m (wSync s op).2 nx op ct ∧ LogI (wSync s op).2 nx op ct G N U ∧ Rest st st' [d, m] := by
  obtain ⟨st', a, b, c⟩ := wsync_ok h hI.good hop
  by_cases h0 : op = 0
  · have e : wSync s op = (0, s) := by unfold wSync; rw [if_pos h0]
    rw [e] at a b ⊢
    exact ⟨st', a, b, hI, c⟩
  · have e : wSync s op = pSync s (nm op) := by unfold wSync; rw [if_neg h0]
    rw [e] at a b ⊢
    obtain ⟨b1, b2, b3, b4, b5⟩ := hI.segs.sync hI.calm (k := op) (by rw [List.mem_range'_1]; omega)
    rw [b1] at a
    have hF := hI.fine.sync (nm op)
    exact ⟨st', a, b, ⟨b2, b3, hI.hnx, hI.hct, hI.num, hI.full, hF.used, b4.trans hI.q, hF.good, hI.sz⟩, c⟩
end
section
set_option maxRecDepth 4000
theorem emb_tab {st : St} (hgl : st.gl = (stTab tabsD).gl) : Emb (stTab tabsD) st (fun i => st.next + i) :=
  ⟨fun i _ => rfl, fun i h => by simp [stTab] at h, fun i j o o' h => by simp [stTab, St.get, Tr.get] at h, fun id o h => by simp [stTab, St.get, Tr.get] at h, fun id o h => by simp [stTab, St.get, Tr.get] at h, fun id o h => by simp [stTab, St.get, Tr.get] at h, fun p hp => ⟨by rw [hgl]; exact hp, fun a ha => by
    obtain ⟨t, _, rfl⟩ := List.mem_map.1 hp
    simp only [intsAV] at ha
    obtain ⟨z, _, rfl⟩ := List.mem_map.1 ha
    exact ⟨_, rfl⟩⟩⟩
theorem awake7 : ((evCall E0 ovF 1000000 7 [] (stTab tabsD)).map fun q => (q.1, q.2.lock)) = some (TT, []) := by kernel_rfl
/-- awake, at any store that holds the tables -/
theorem awake_det {st : St} (hgl : st.gl = (stTab tabsD).gl) (hw : st.wf) : ∃ st', obC 7 [] st TT st' ∧ Rest st st' [] := by
  obtain ⟨⟨a, s⟩, h1, h2⟩ := Option.map_eq_some_iff.1 awake7
  simp only [Prod.mk.injEq] at h2
  obtain ⟨rfl, hk⟩ := h2
  have hc := (ev_ok (envOf_ok (P := Tryd.prog) rfl) ovF_ok 1000000).call 7 [] (stTab tabsD) _ h1
  have hc2 : ACalls Tryd.prog 7 [] (fun a' s' => a' = TT ∧ s' = ⟨s.next, .nil, [], s.gl⟩) (stTab tabsD) := hc.forget fun a' s' e _ => by
    cases e
    exact ⟨⟨s.next, .nil, [], s.gl⟩, ⟨rfl, rfl⟩, fun i o hi => by simp [St.get, Tr.get] at hi, rfl, hk.symm, rfl⟩
  have hE := emb_tab hgl
  have hnone : ∀ k, (⟨s.next, .nil, [], s.gl⟩ : St).get k = none := fun k => by simp [St.get, Tr.get]
  refine ⟨mergeSt ⟨s.next, .nil, [], s.gl⟩ st (stTab tabsD) (fun i => st.next + i), (hc2.frame hE).mono fun a s0 hq => ?_, ⟨fun i o _ ho => ?_, Nat.le_add_right _ _, rfl, rfl, fun i o hi => ?_⟩⟩
  · obtain ⟨r0, st0', ⟨h1, h2⟩, h3, h4, _, _⟩ := hq
    subst h1; subst h2
    exact ⟨by rw [h3]; rfl, h4⟩
  · have hlt := hw _ _ ho
    rw [merge_out hE (k := i) fun j _ _ e => by have e : st.next + j = i := e; omega]
    exact ho
  · show i < st.next + (s.next - 0)
    rcases merge_cases hE hi with ⟨j, o0, _, _, h3, _⟩ | ⟨h1, _⟩
    · rw [hnone] at h3; cases h3
    · have := hw _ _ h1; omega
end
section
set_option maxRecDepth 4000
/-- lists of records as they are given -/
def GivenR (l : AV) (len : Nat) (cells : List AV) : Prop := (l = .imm 1 len false cells ∧ cells.length = len ∧ ∀ (k : Nat) (x : AV), cells[k]? = some x → x = .nils ∨ ∃ d : List Int, x = recW d) ∨ (l = .nils ∧ len = 0)
theorem sl33 : SlT 33 5 1 := ⟨⟨_, rfl, by kernel_rfl⟩, by kernel_rfl⟩
structure LSt where
  st : St
  s : PS
  op : Nat
  ct : Nat
  G : Nat → List (List Int)
  N : Nat
  U : Nat
structure LInv (s0 : St) (w d m i : Nat) (p : LSt) : Prop where
  wa : WA p.st w d m p.s (p.op + 1) p.op p.ct
  log : LogI p.s (p.op + 1) p.op p.ct p.G p.N p.U
  n : p.N ≤ i
  u : p.U ≤ i * 508
  keep : RestF s0 p.st [d, m, w]
theorem idx_imm {len i : Nat} {cells : List AV} (hi : i < len) : indexAddrA E0 22 (.imm 1 len false cells) (i64 i) = some (.iptr (cells.drop (i * 1))) := by
  obtain ⟨⟨q, h1, h2⟩, h3⟩ := sl22
  simp only [indexAddrA, h1, h2, h3]
  rw [if_pos ⟨trivial, by omega, by omega, by decide⟩]; rfl
theorem load_iptr {st : St} {cells : List AV} {i : Nat} {x : AV} (h : cells[i]? = some x) : loadA E0 st 33 (.iptr (cells.drop (i * 1))) = some x := by
  show partA E0 33 (cells.drop (i * 1)) 0 = some x
  exact part24 (by rw [List.getElem?_drop]; simpa using h)
theorem add_turn {s0 : St} {w d m i len : Nat} {bf : Int} {cells : List AV} (hi : i < len) (h60 : i < 60) (hc : ∀ x, cells[i]? = some x → x = .nils ∨ ∃ d : List Int, x = recW d) (hlen : cells.length = len) {p : LSt} (hI : LInv s0 w d m i p) :
    ∃ p', LInv s0 w d m (i + 1) p' ∧ ∀ T, f3L6 T (i64 bf) (.ptr d 0) (.ptr w 0) (i64 p.op) (.imm 1 len false cells) (i64 len) (i64 i) → AW Tryd.prog (f3P 6) (fun ex T' z => ex = .normal ∧ f3L6 T' (i64 bf) (.ptr d 0) (.ptr w 0) (i64 p'.op) (.imm 1 len false cells) (i64 len) (i64 (i + 1 : Nat)) ∧ z = p'.st) T p.st := by
  have hx : cells[i]? = some cells[i] := List.getElem?_eq_getElem (by omega)
  have hI2 : LInv s0 w d m (i + 1) p := ⟨hI.wa, hI.log, by have := hI.n; omega, by have := hI.u; omega, hI.keep⟩
  rcases hc _ hx with hn | ⟨data, hd⟩
  · rw [hn] at hx
    exact ⟨p, hI2, fun T hT => f3_6_TFT (lssT (by omega)) (idx_imm hi) (load_iptr hx) (eqlF (by omega)) (lenS0 sl33) (eqlT rfl) (add64 (by omega)) hT⟩
  · rw [hd] at hx
    have hl : lenA E0 33 (recW data) = some (i64 data.length) := by kernel_rfl
    by_cases h0 : data.length = 0
    · exact ⟨p, hI2, fun T hT => f3_6_TFT (lssT (by omega)) (idx_imm hi) (load_iptr hx) (eqlF (by omega)) hl (eqlT (by omega)) (add64 (by omega)) hT⟩
    by_cases h5 : 500 < data.length
    · exact ⟨p, hI2, fun T hT => f3_6_TFFT (lssT (by omega)) (idx_imm hi) (load_iptr hx) (eqlF (by omega)) hl (eqlF (by omega)) hl (gtrT (by omega)) (add64 (by omega)) hT⟩
    obtain ⟨st', s', op', a1, a2, _, a3, a4⟩ := log_append (data := data) hI.wa hI.log (Nat.lt_of_le_of_lt hI.n h60) (by have h := hI.u; have : i * 508 ≤ 59 * 508 := Nat.mul_le_mul_right _ (by omega); exact Nat.le_trans (Nat.add_le_add_right (Nat.le_trans h this) 508) (by decide)) (by omega) (by omega)
    exact ⟨⟨st', s', op', _, _, _, _⟩, ⟨a2, a3, by show p.N + 1 ≤ i + 1; have := hI.n; omega, by show p.U + (8 + data.length) ≤ (i + 1) * 508; have := hI.u; omega, hI.keep.trans a4⟩,
      fun T hT => f3_6_TFFFF (lssT (by omega)) (idx_imm hi) (load_iptr hx) (eqlF (by omega)) hl (eqlF (by omega)) hl (gtrF (by omega)) a1 (neqF rfl) (add64 (by omega)) hT⟩
end
section
set_option maxRecDepth 4000
theorem LInv.le {s0 : St} {w d m i j : Nat} {p : LSt} (h : LInv s0 w d m i p) (hj : i ≤ j) : LInv s0 w d m j p := ⟨h.wa, h.log, Nat.le_trans h.n hj, Nat.le_trans h.u (Nat.mul_le_mul_right _ hj), h.keep⟩
theorem add_loop {s0 : St} {w d m len : Nat} {bf : Int} {l : AV} {cells : List AV} (hg : GivenR l len cells) {p : LSt} (hI : LInv s0 w d m 0 p) :
    ∃ p', LInv s0 w d m 60 p' ∧ ∀ T, f3L6 T (i64 bf) (.ptr d 0) (.ptr w 0) (i64 p.op) l (i64 len) (i64 (0 : Nat)) → AW Tryd.prog (.block 0 (.loop (f3P 6))) (fun ex T' z => ex = .normal ∧ f3L7 T' (i64 bf) (.ptr d 0) (.ptr w 0) (i64 p'.op) ∧ z = p'.st) T p.st := by
  rcases hg with ⟨rfl, hlen, hc⟩ | ⟨rfl, rfl⟩
  · obtain ⟨c, c0, inv, step⟩ := chain_seq (fun i q => LInv s0 w d m i q) (fun i q q' => ∀ T, f3L6 T (i64 bf) (.ptr d 0) (.ptr w 0) (i64 q.op) (.imm 1 len false cells) (i64 len) (i64 i) → AW Tryd.prog (f3P 6) (fun ex T' z => ex = .normal ∧ f3L6 T' (i64 bf) (.ptr d 0) (.ptr w 0) (i64 q'.op) (.imm 1 len false cells) (i64 len) (i64 (i + 1 : Nat)) ∧ z = q'.st) T q.st) (min len 60) p hI
      (fun i q hi hq => add_turn (by omega) (by omega) (fun x hx => hc i x hx) hlen hq)
    have hn := inv (min len 60) (Nat.le_refl _)
    refine ⟨c (min len 60), hn.le (by omega), fun T hT => AW.turns (In := fun i T => f3L6 T (i64 bf) (.ptr d 0) (.ptr w 0) (i64 (c i).op) (.imm 1 len false cells) (i64 len) (i64 i)) (L := fun T => f3L7 T (i64 bf) (.ptr d 0) (.ptr w 0) (i64 (c (min len 60)).op)) (c := fun i => (c i).st) (n := min len 60) (sf := (c (min len 60)).st) (by rw [c0]) (by rw [c0]; exact hT) (fun i hi T hT => step i hi T hT) (fun T hT => ?_)⟩
    by_cases hle : len ≤ 60
    · exact f3_6_F (lssF (by omega)) hT
    · have hx : cells[min len 60]? = some cells[min len 60] := List.getElem?_eq_getElem (by omega)
      exact f3_6_TT (lssT (by omega)) (idx_imm (by omega)) (load_iptr hx) (eqlT (by omega)) hT
  · exact ⟨p, hI.le (by omega), fun T hT => AW.turns (In := fun _ T => f3L6 T (i64 bf) (.ptr d 0) (.ptr w 0) (i64 p.op) .nils (i64 (0 : Nat)) (i64 (0 : Nat))) (L := fun T => f3L7 T (i64 bf) (.ptr d 0) (.ptr w 0) (i64 p.op)) (c := fun _ => p.st) (n := 0) (sf := p.st) rfl hT (fun i hi => absurd hi (Nat.not_lt_zero i)) (fun T hT => f3_6_F (lssF (by omega)) hT)⟩
end
section
set_option maxRecDepth 4000
theorem recs_log {s : PS} {nx op ct N U : Nat} {G : Nat → List (List Int)} (hI : LogI s nx op ct G N U) (k : Nat) : recs (fun k => (G k).flatMap frameL) k = G k := by
  have := split_frames [] (by decide) (G k) (fun r hr => ⟨(hI.sz k r hr).1, by have := (hI.sz k r hr).2; omega⟩)
  rw [List.append_nil] at this
  exact this
end
section
set_option maxRecDepth 4000
/-! ### bytes.Equal; lists of records -/
theorem numsA_u8 : ∀ bs : List Int, numsA (bs.map u8) = some bs
  | [] => rfl
  | b :: r => by simp only [List.map_cons, numsA, numsA_u8 r, Option.map_some]
theorem conv_bytes {st : St} {v : AV} {bs : List Int} (h : sliceCells st v = some (bs.length, bs.map u8)) : convO E0 st 33 9 v = some (str (strOfNums bs), st) := by
  have hb : bytesStrA E0 st 33 9 v = some (str (strOfNums bs)) := by
    obtain ⟨i, j, k, h1, h2, h3, h4, h5, h6⟩ : ∃ i j k, E0.ty 33 = some i ∧ E0.ty 9 = some j ∧ E0.ty 5 = some k ∧ i.desc = .slice 5 ∧ j.desc = .string ∧ k.desc = .int .u8 := ⟨_, _, _, rfl, rfl, rfl, by kernel_rfl, by kernel_rfl, by kernel_rfl⟩
    simp only [bytesStrA, h, h1, h2, h4, h5, h3, h6, numsA_u8, if_true]
  have hc : convA E0 st 33 9 v = some (str (strOfNums bs), st) := by unfold convA; rw [hb]
  unfold convO
  cases v <;> first | exact hc | (exfalso; revert h; simp [sliceCells])
theorem cells_recA (st : St) (r : List Int) : sliceCells st (recA r) = some (r.length, r.map u8) := rfl
theorem cells_recW (st : St) (r : List Int) : sliceCells st (recW r) = some (r.length, r.map u8) := rfl
theorem equal_ok {st : St} {v w : AV} {bs : List Int} (h1 : sliceCells st v = some (bs.length, bs.map u8)) (h2 : sliceCells st w = some (bs.length, bs.map u8)) : obC 11 [v, w] st TT st :=
  f11_T (conv_bytes h1) (conv_bytes h2) (eqST rfl)
theorem Rest.fresh {st s1 s2 : St} (h : Rest st s1 []) {S : List Nat} (h2 : Rest s1 s2 S) (hS : ∀ i ∈ S, st.next ≤ i) (hw : st.wf) : Rest st s2 [] :=
  ⟨fun i o hi ho => h2.keep i o (fun hm => by have := hS i hm; have := hw _ _ ho; omega) (h.keep i o hi ho), Nat.le_trans h.next h2.next, h2.lock.trans h.lock, h2.gl.trans h.gl, h2.wf⟩
theorem Rest.hid {st : St} (hw : st.wf) (I : List Nat) : Rest st ((st.hide I).show st I) [] := by
  have hg : ∀ i, ((st.hide I).show st I).get i = st.get i := fun i => by
    rw [St.show_get]; split
    · rfl
    · rfl
  exact ⟨fun i o _ ho => by rw [hg]; exact ho, by rw [St.show_next]; exact Nat.le_refl _, rfl, by rw [St.show_gl]; rfl, fun i o hi => by rw [hg] at hi; rw [St.show_next]; exact hw _ _ hi⟩
def rcC (p : Nat × List Int) : List AV := recC p.1 p.2
def rcs (B : Nat → List Int) (K : List Nat) : List (Nat × List Int) := K.flatMap fun k => (recs B k).map fun r => (k, r)
theorem cellsK_rcs (B : Nat → List Int) : ∀ K : List Nat, cellsK B K = (rcs B K).flatMap rcC
  | [] => rfl
  | k :: K => by
    have h := cellsK_rcs B K
    unfold cellsK rcs at *
    rw [List.flatMap_cons, List.flatMap_cons, List.flatMap_append, h]
    congr 1
    rw [List.flatMap_map]
    rfl
theorem numK_rcs (B : Nat → List Int) : ∀ K : List Nat, numK B K = (rcs B K).length
  | [] => rfl
  | k :: K => by
    have h := numK_rcs B K
    unfold numK rcs at *
    rw [List.flatMap_cons, List.map_cons, List.sum_cons, h, List.length_append, List.length_map]
theorem rcs_filter (B : Nat → List Int) (p : Nat → Bool) : ∀ K : List Nat, rcs B (K.filter p) = (rcs B K).filter fun q => p q.1
  | [] => rfl
  | k :: K => by
    have h := rcs_filter B p K
    unfold rcs at *
    rw [List.flatMap_cons, List.filter_append, ← h]
    by_cases hk : p k = true
    · rw [List.filter_cons_of_pos hk, List.flatMap_cons]
      have e : ((recs B k).map fun r => (k, r)).filter (fun q => p q.1) = (recs B k).map fun r => (k, r) := List.filter_eq_self.2 fun q hq => by
        obtain ⟨r, _, rfl⟩ := List.mem_map.1 hq
        exact hk
      rw [e]
    · rw [List.filter_cons_of_neg hk]
      have e : ((recs B k).map fun r => (k, r)).filter (fun q => p q.1) = [] := List.filter_eq_nil_iff.2 fun q hq => by
        obtain ⟨r, _, rfl⟩ := List.mem_map.1 hq
        exact hk
      rw [e, List.nil_append]
theorem rcC_at : ∀ (R : List (Nat × List Int)) (i k : Nat) (r : List Int), R[i]? = some (k, r) → (R.flatMap rcC)[i * 2]? = some (i64 k) ∧ (R.flatMap rcC)[i * 2 + 1]? = some (recA r)
  | [], i, k, r, h => by simp at h
  | q :: R, 0, k, r, h => by
    simp only [List.getElem?_cons_zero, Option.some.injEq] at h; subst h
    exact ⟨rfl, rfl⟩
  | q :: R, i + 1, k, r, h => by
    have := rcC_at R i k r (by simpa using h)
    rw [List.flatMap_cons, show (i + 1) * 2 = i * 2 + 2 by omega, show i * 2 + 2 + 1 = (i * 2 + 1) + 2 by omega]
    exact this
theorem rcC_len (R : List (Nat × List Int)) : (R.flatMap rcC).length = R.length * 2 := by
  induction R with
  | nil => rfl
  | cons q R ih => rw [List.flatMap_cons, List.length_append, ih, List.length_cons]; show 2 + _ = _; omega
theorem p39 {vs : List AV} {off : Nat} {a b : AV} (h1 : vs[off]? = some a) (h2 : vs[off + 1]? = some b) : partA E0 39 vs off = some (.agg [a, b]) := by
  obtain ⟨i, e1, e2, e3⟩ : ∃ i, E0.ty 39 = some i ∧ isAggD i.desc = true ∧ i.size = 2 := ⟨_, rfl, by kernel_rfl, by kernel_rfl⟩
  have hl : off + 1 < vs.length := by
    by_cases h : off + 1 < vs.length
    · exact h
    · rw [List.getElem?_eq_none (by omega)] at h2; cases h2
  have e : (vs.drop off).take 2 = [a, b] := by
    rw [List.getElem?_eq_getElem (by omega)] at h1 h2
    simp only [Option.some.injEq] at h1 h2
    rw [List.drop_eq_getElem_cons (by omega), List.drop_eq_getElem_cons (i := off + 1) (by omega), h1, h2]
    rfl
  simp only [partA, e1, e2, e3, e, if_true]
  rw [if_pos (by omega)]
theorem p33 {vs : List AV} {off : Nat} {a : AV} (h : vs[off]? = some a) : partA E0 33 vs off = some a := by
  have : (E0.ty 33).map (fun i => isAggD i.desc) = some false := by kernel_rfl
  obtain ⟨i, h1, h2⟩ := Option.map_eq_some_iff.1 this
  exact plainT h1 h2 h
theorem alloc39 (st : St) : allocA E0 st 39 = some (.ptr st.next 0, st.push (.row [i64 0, .nils] 39)) := by kernel_rfl
theorem store39 {st : St} {a : Nat} {x y u v : AV} {ty : Nat} (hg : st.get a = some (.row [x, y] ty)) (hl : st.lock = []) : storeA E0 st 39 (.ptr a 0) (.agg [u, v]) = some (st.set a (.row [u, v] ty)) := by
  have hwg := St.wget_of hg (show a ∉ st.lock by rw [hl]; simp)
  have hs : tySize E0 39 = some 2 := by kernel_rfl
  have hc : avCells (.agg [u, v]) = some [u, v] := rfl
  simp only [storeA, hc, hwg, hs]
  rfl
/-- a copy of a record of a list -/
theorem copy_rec {st : St} (hw : st.wf) (hl : st.lock = []) (u v : AV) : ∃ s1 s2, allocA E0 st 39 = some (.ptr st.next 0, s1) ∧ storeA E0 s1 39 (.ptr st.next 0) (.agg [u, v]) = some s2 ∧ s2.get st.next = some (.row [u, v] 39) ∧ Rest st s2 [] := by
  have h1 : Rest st (st.push (.row [i64 0, .nils] 39)) [] := Rest.push hw _ _
  have hg : (st.push (.row [i64 0, .nils] 39)).get st.next = some (.row [i64 0, .nils] 39) := by rw [St.get_push, if_pos rfl]
  refine ⟨_, _, alloc39 st, store39 hg (h1.lock.trans hl), by rw [St.get_set, if_pos rfl], ?_⟩
  exact h1.fresh (Rest.set (S := [st.next]) h1.wf (h1.wf _ _ hg) _ (by simp)) (by simp) hw
end
section
set_option maxRecDepth 4000
/-! ### WalRetires: what stands is held against what stood -/
def kp (bf : Int) (op : Nat) (q : Nat × List Int) : Bool := kept bf op q.1
theorem filter_at {α : Type} (p : α → Bool) : ∀ (R : List α) (i : Nat) (q : α), R[i]? = some q → p q = true → (R.filter p)[((R.take i).filter p).length]? = some q
  | [], i, q, h, _ => by simp at h
  | a :: R, 0, q, h, hp => by
    simp only [List.getElem?_cons_zero, Option.some.injEq] at h; subst h
    rw [List.filter_cons_of_pos hp]; rfl
  | a :: R, i + 1, q, h, hp => by
    have ih := filter_at p R i q (by simpa using h) hp
    rw [List.take_succ_cons]
    by_cases ha : p a = true
    · rw [List.filter_cons_of_pos ha, List.filter_cons_of_pos ha, List.length_cons, List.getElem?_cons_succ]; exact ih
    · rw [List.filter_cons_of_neg ha, List.filter_cons_of_neg ha]; exact ih
def cnt {α : Type} (p : α → Bool) (R : List α) (i : Nat) : Nat := ((R.take i).filter p).length
theorem cnt_le {α : Type} (p : α → Bool) (R : List α) (i : Nat) : cnt p R i ≤ R.length :=
  Nat.le_trans (List.length_filter_le _ _) (by rw [List.length_take]; omega)
theorem cnt_T {α : Type} {p : α → Bool} {R : List α} {i : Nat} {q : α} (h : R[i]? = some q) (hp : p q = true) : cnt p R (i + 1) = cnt p R i + 1 := by
  unfold cnt
  rw [List.take_add_one, h]
  simp [List.filter_append, hp]
theorem cnt_F {α : Type} {p : α → Bool} {R : List α} {i : Nat} {q : α} (h : R[i]? = some q) (hp : p q = false) : cnt p R (i + 1) = cnt p R i := by
  unfold cnt
  rw [List.take_add_one, h]
  simp [List.filter_append, hp]
theorem lsIdx {st : St} {l : AV} {n i : Nat} {cells : List AV} (h : Ls st 39 2 l n cells) (hi : i < n) : ∃ id, l = .sl id 2 0 n false ∧ st.get id = some (.row cells 39) ∧ indexAddrA E0 28 l (i64 i) = some (.ptr id (0 + i * 2)) := by
  rcases h with ⟨e, _⟩ | ⟨_, _, id, rfl, hg⟩
  · omega
  · exact ⟨id, rfl, hg, idxS sl28 hi⟩
theorem cmp_turn {σs σ : St} {v14 v16 : AV} {R : List (Nat × List Int)} {bf : Int} {op i : Nat} (hws : σs.wf) (hl : σs.lock = []) (h14 : Ls σs 39 2 v14 R.length (R.flatMap rcC)) (h16 : Ls σs 39 2 v16 (R.filter (kp bf op)).length ((R.filter (kp bf op)).flatMap rcC)) (hb : R.length ≤ 1000000) (hi : i < R.length) (hI : Rest σs σ []) :
    ∃ σ', Rest σs σ' [] ∧ ∀ T, f3L12 T (i64 bf) (i64 0) (i64 op) v16 (i64 (cnt (kp bf op) R i : Nat)) v14 (i64 R.length) (i64 i) →
      AW Tryd.prog (f3P 13) (fun ex T' z => ex = .normal ∧ f3L12 T' (i64 bf) (i64 0) (i64 op) v16 (i64 (cnt (kp bf op) R (i + 1) : Nat)) v14 (i64 R.length) (i64 (i + 1 : Nat)) ∧ z = σ') T σ := by
  obtain ⟨id, hv, hg, hidx⟩ := lsIdx h14 hi
  have hq : R[i]? = some R[i] := List.getElem?_eq_getElem hi
  generalize R[i] = q at hq
  obtain ⟨k, r⟩ := q
  obtain ⟨c1, c2⟩ := rcC_at R i k r hq
  have hgσ := hI.keep _ _ (by simp) hg
  have hld : loadA E0 σ 39 (.ptr id (0 + i * 2)) = some (.agg [i64 k, recA r]) := load_row hgσ (p39 (by rw [Nat.zero_add]; exact c1) (by rw [Nat.zero_add]; exact c2))
  obtain ⟨s1, s2, a1, a2, a3, a4⟩ := copy_rec hI.wf (hI.lock.trans hl) (i64 k) (recA r)
  have R2 := hI.trans a4
  have ld0 : loadA E0 s2 3 (.ptr σ.next 0) = some (i64 k) := load_row a3 (p3 rfl)
  have ld1 : loadA E0 s2 33 (.ptr σ.next 1) = some (recA r) := load_row a3 (p33 rfl)
  have hcl := cnt_le (kp bf op) R i
  by_cases hk : kp bf op (k, r) = true
  · have hat := filter_at (kp bf op) R i (k, r) hq hk
    have hlt : cnt (kp bf op) R i < (R.filter (kp bf op)).length := by
      by_cases h : cnt (kp bf op) R i < (R.filter (kp bf op)).length
      · exact h
      · rw [List.getElem?_eq_none (by unfold cnt at h; omega)] at hat; cases hat
    obtain ⟨id2, hv2, hg2, hidx2⟩ := lsIdx h16 hlt
    obtain ⟨e1, e2⟩ := rcC_at _ _ k r hat
    have hg2σ := R2.keep _ _ (by simp) hg2
    have l1 : loadA E0 s2 3 (.ptr id2 (0 + cnt (kp bf op) R i * 2)) = some (i64 k) := load_row hg2σ (p3 (by rw [Nat.zero_add]; exact e1))
    have l2 : loadA E0 s2 33 (.ptr id2 (0 + cnt (kp bf op) R i * 2 + 1)) = some (recA r) := load_row hg2σ (p33 (by rw [Nat.zero_add]; exact e2))
    have heq : obC 11 [recA r, recA r] (s2.hide [id2, σ.next, id2, σ.next]) TT (s2.hide [id2, σ.next, id2, σ.next]) := equal_ok (cells_recA _ r) (cells_recA _ r)
    have hlt1 : ∀ j ∈ [id2, σ.next, id2, σ.next], j < s2.next := by
      have x1 := R2.wf _ _ hg2σ
      have x2 := R2.wf _ _ a3
      intro j hj
      simp only [List.mem_cons, List.not_mem_nil, or_false] at hj
      rcases hj with rfl | rfl | rfl | rfl <;> assumption
    have hall : [id2, σ.next, id2, σ.next].all (fun j => (s2.get j).isSome) = true := by simp [hg2σ, a3]
    have hlen : lenA E0 28 v16 = some (i64 (R.filter (kp bf op)).length) := Ls.len sl28 h16
    rw [cnt_T hq hk]
    refine ⟨_, R2.trans (Rest.hid R2.wf [id2, σ.next, id2, σ.next]), fun T hT => ?_⟩
    by_cases hbf : bf ≤ k
    · exact f3_13_TFFFT (lssT (by omega)) hidx hld a1 a2 ld0 (lssF (by omega)) hlt1 hlen (eqlF (by omega)) hidx2 l1 ld0 (neqF rfl) hidx2 l2 ld1 hall heq (add64 (by omega)) (add64 (by omega)) hT
    · have hop : k = op := by
        simp only [kp, kept, Bool.or_eq_true, decide_eq_true_eq] at hk
        omega
      exact f3_13_TTFFFT (lssT (by omega)) hidx hld a1 a2 ld0 (lssT (by omega)) ld0 (neqF (by omega)) hlt1 hlen (eqlF (by omega)) hidx2 l1 ld0 (neqF rfl) hidx2 l2 ld1 hall heq (add64 (by omega)) (add64 (by omega)) hT
  · have hk : kp bf op (k, r) = false := by simpa using hk
    rw [cnt_F hq hk]
    simp only [kp, kept, Bool.or_eq_false_iff, decide_eq_false_iff_not] at hk
    exact ⟨s2, R2, fun T hT => f3_13_TTT (lssT (by omega)) hidx hld a1 a2 ld0 (lssT (by omega)) ld0 (neqT (by omega)) (add64 (by omega)) hT⟩
theorem cmp_loop {σs : St} {v14 v16 : AV} {R : List (Nat × List Int)} {bf : Int} {op : Nat} (hws : σs.wf) (hl : σs.lock = []) (h14 : Ls σs 39 2 v14 R.length (R.flatMap rcC)) (h16 : Ls σs 39 2 v16 (R.filter (kp bf op)).length ((R.filter (kp bf op)).flatMap rcC)) (hb : R.length ≤ 1000000) :
    ∃ σ', Rest σs σ' [] ∧ ∀ T, f3L12 T (i64 bf) (i64 0) (i64 op) v16 (i64 0) v14 (i64 R.length) (i64 0) →
      AW Tryd.prog (.block 2 (.loop (f3P 13))) (fun ex T' z => ex = .normal ∧ f3L13 T' (i64 0) v16 (i64 (R.filter (kp bf op)).length) ∧ z = σ') T σs := by
  obtain ⟨c, c0, inv, step⟩ := chain_seq (fun _ σ => Rest σs σ []) (fun i σ σ' => ∀ T, f3L12 T (i64 bf) (i64 0) (i64 op) v16 (i64 (cnt (kp bf op) R i : Nat)) v14 (i64 R.length) (i64 i) →
      AW Tryd.prog (f3P 13) (fun ex T' z => ex = .normal ∧ f3L12 T' (i64 bf) (i64 0) (i64 op) v16 (i64 (cnt (kp bf op) R (i + 1) : Nat)) v14 (i64 R.length) (i64 (i + 1 : Nat)) ∧ z = σ') T σ) R.length σs (Rest.refl hws _) (fun i σ hi hI => cmp_turn hws hl h14 h16 hb hi hI)
  have e : cnt (kp bf op) R R.length = (R.filter (kp bf op)).length := by unfold cnt; rw [List.take_length]
  refine ⟨c R.length, inv _ (Nat.le_refl _), fun T hT => AW.turns (In := fun i T => f3L12 T (i64 bf) (i64 0) (i64 op) v16 (i64 (cnt (kp bf op) R i : Nat)) v14 (i64 R.length) (i64 i)) (L := fun T => f3L13 T (i64 0) v16 (i64 (R.filter (kp bf op)).length)) (c := c) (n := R.length) c0.symm (by simpa [cnt] using hT) (fun i hi T hT => step i hi T hT) (fun T hT => ?_)⟩
  have hT := hT
  rw [e] at hT
  exact f3_13_F (lssF (by omega)) hT
end
section
set_option maxRecDepth 4000
theorem WA.restF {st st' : St} {w d m nx op ct : Nat} {s : PS} (h : WA st w d m s nx op ct) (hg : ∀ f ∈ s.L, DV f) (hr : RestF st st' []) : WA st' w d m s nx op ct :=
  ⟨PD.restF h.disk hg hr (by simp) (by simp), hr.keep _ _ (by simp) h.row fun id vs _ => rfl, hr.wf, hr.lock.trans h.lock⟩
theorem Ls.disk {st st' : St} {d m n sz e : Nat} {s : PS} {l : AV} {cells : List AV} (h : Ls st e sz l n cells) (he : e ≠ 68) (hp : PDs st d m s) (hr : Rest st st' [d, m]) : Ls st' e sz l n cells :=
  h.keep fun id _ hg => PD.other hp hr hg he
theorem LogI.op8 {s : PS} {nx op ct N U : Nat} {G : Nat → List (List Int)} (h : LogI s nx op ct G N U) (hN : N ≤ 60) : op ≤ 8 := by
  have := h.num; have := h.hct
  omega
theorem LogI.len8 {s : PS} {nx op ct N U : Nat} {G : Nat → List (List Int)} (h : LogI s nx op ct G N U) {k : Nat} (hk : k ∈ List.range' 1 op) : (G k).length ≤ 8 := by
  rw [List.mem_range'_1] at hk
  by_cases e : k = op
  · subst e
    rcases h.hct with h' | h'
    · omega
    · rw [← h'.2.1]; exact h'.2.2.2
  · exact Nat.le_of_eq (h.full k hk.1 (by omega))
theorem sum_le8 : ∀ (l : List Nat), (∀ x ∈ l, x ≤ 8) → l.sum ≤ 8 * l.length
  | [], _ => by simp
  | a :: l, h => by
    have h1 := h a (by simp)
    have h2 := sum_le8 l fun x hx => h x (by simp [hx])
    rw [List.sum_cons, List.length_cons]; omega
theorem LogI.numK {s : PS} {nx op ct N U : Nat} {G : Nat → List (List Int)} (h : LogI s nx op ct G N U) (hop : op ≤ 9) : numK (fun k => (G k).flatMap frameL) (List.range' 1 op) ≤ 72 := by
  unfold E.numK
  refine Nat.le_trans (sum_le8 _ fun x hx => ?_) (by rw [List.length_map, List.length_range']; omega)
  obtain ⟨k, hk, rfl⟩ := List.mem_map.1 hx
  simp only [recs_log h]
  exact h.len8 hk
theorem retires_all {lv : AV} {len : Nat} {cells : List AV} (hg : GivenR lv len cells) (bf : Int) : ACalls Tryd.prog 3 [lv, i64 bf] (fun a _ => a = TT) (stTab tabsD) := by
  have hw0 : (stTab tabsD).wf := fun i o h => by simp [stTab, St.get, Tr.get] at h
  have hl0 : (stTab tabsD).lock = [] := rfl
  obtain ⟨e, s1, a1, a2, a3⟩ := both_new hw0
  generalize (stTab tabsD).next + 1 = d at a1 a2
  generalize (stTab tabsD).next = m at a1 a2
  obtain ⟨v2, s2, b1, b2, b3, b4, _⟩ := open_ok (K := []) (B := fun _ => []) (U := 0) (segs_nil rfl _) a2 a3.wf (a3.lock.trans hl0) log_new.fine (by omega) rfl (by simp [numK])
  generalize s1.next = w at b1 b2
  obtain ⟨s3, c1, c2⟩ := awake_det (b4.gl.trans a3.gl) b4.wf
  have w3 : WA s3 w d m ⟨[], 1048576, 0, false⟩ 1 0 0 := b2.rest c2
  obtain ⟨p, d1, d2⟩ := add_loop (bf := bf) hg (s0 := s3) (p := ⟨s3, ⟨[], 1048576, 0, false⟩, 0, 0, fun _ => [], 0, 0⟩) ⟨w3, log_new, Nat.le_refl _, Nat.le_refl _, (Rest.refl c2.wf _).f⟩
  have hop : p.op ≤ 8 := d1.log.op8 d1.n
  obtain ⟨s4, e1, e2, e3, e4⟩ := log_sync d1.wa d1.log (by omega)
  have hU : p.U ≤ 1000000 := Nat.le_trans d1.u (by decide)
  have hN : numK (fun k => (p.G k).flatMap frameL) (List.range' 1 p.op) ≤ 1000000 := Nat.le_trans (e3.numK (by omega)) (by decide)
  obtain ⟨v5, s5, g1, g2, g3, g4, _⟩ := open_ok e3.segs e2.disk e2.wf e2.lock e3.fine hU e3.calm.off hN
  have w5 : WA s5 w d m (wSync p.s p.op).2 (p.op + 1) p.op p.ct := e2.restF (fun f hf => (e3.good.dv f hf).1) g4
  obtain ⟨s6, s', r1, r2, r3, r4, r5, r6, r7⟩ := retire_ok (bf := bf) w5 e3.segs e3.calm.fu e3.calm.off e3.fine
  have L6 := g3.disk (by decide) w5.disk r7
  have hN' : numK (fun k => (p.G k).flatMap frameL) ((List.range' 1 p.op).filter (kept bf p.op)) ≤ 1000000 := by
    rw [numK_rcs, rcs_filter]
    exact Nat.le_trans (List.length_filter_le _ _) (by rw [← numK_rcs]; exact hN)
  obtain ⟨v7, s7, t1, t2, t3, t4, _⟩ := open_ok r3 r2.disk r2.wf r2.lock r6 hU r5 hN'
  have L7 := L6.restF t4 (fun id vs => frz_cellsK id vs _ _)
  rw [numK_rcs, cellsK_rcs] at L7
  rw [numK_rcs, cellsK_rcs, rcs_filter] at t3
  obtain ⟨s8, u1, u2⟩ := cmp_loop (bf := bf) (op := p.op) t2.wf t2.lock L7 t3 (by rw [← numK_rcs]; exact hN)
  refine ACalls.body (E := E0) hE Tryd.func3 f3body ?_
  refine AW.andThen (f3_0 ⟨rfl, rfl, rfl⟩) fun T1 q1 => ?_
  refine AW.andThen (f3_1 a1 q1) fun T2 q2 => ?_
  refine AW.andThen (f3_2 b1 q2) fun T3 q3 => ?_
  refine AW.andThen (f3_3_TF c1 (neqF rfl) q3) fun T4 q4 => ?_
  refine AW.andThen (f3_4 q4) fun T5 q5 => ?_
  refine AW.andThen (AW.andThen (f3_5 (n37 := len) ?_ q5) fun T6 q6 => d2 T6 q6) fun T7 q7 => ?_
  · rcases hg with ⟨rfl, _⟩ | ⟨rfl, rfl⟩
    · kernel_rfl
    · exact lenS0 sl22
  refine AW.andThen (f3_7_F e1 (neqF rfl) q7) fun T8 q8 => ?_
  refine AW.andThen (f3_8 g1 q8) fun T9 q9 => ?_
  refine AW.andThen (f3_9_FF (neqF rfl) r1 (neqF rfl) q9) fun T10 q10 => ?_
  refine AW.andThen (f3_10 t1 q10) fun T11 q11 => ?_
  refine AW.andThen (f3_11 q11) fun T12 q12 => ?_
  refine AW.andThen (AW.andThen (f3_12 (Ls.len sl28 L7) q12) fun T13 q13 => u2 T13 q13) fun T14 q14 => ?_
  refine AW.atRet (f3_14_TT (eqlT rfl) (Ls.len sl28 t3) (eqlT rfl) q14) fun T15 q15 => ?_
  refine ⟨[T15.get 4], rfl, ?_⟩
  simp only [oneOrTup]
  exact q15.2
end
section
set_option maxRecDepth 4000
/-! ### segments, and how much of each lasts; with a fuse -/
theorem Segs.congr {s s' : PS} {K : List Nat} {B : Nat → List Int} (h : Segs s K B) (e : s'.L = s.L) : Segs s' K B :=
  ⟨by rw [e]; exact h.perm, h.inc, h.r9, h.len, by rw [e]; exact h.file⟩
structure SegL (s : PS) (K : List Nat) (B : Nat → List Int) (La : Nat → Nat) : Prop where
  segs : Segs s K B
  last : ∀ (i : Nat) (f : PF) (k : Nat), s.L[i]? = some f → k ∈ K → f.name = nm k → f.last = La k
theorem SegL.congr {s s' : PS} {K : List Nat} {B : Nat → List Int} {La : Nat → Nat} (h : SegL s K B La) (e : s'.L = s.L) : SegL s' K B La :=
  ⟨h.segs.congr e, by rw [e]; exact h.last⟩
theorem SegL.burnt {s : PS} {K : List Nat} {B : Nat → List Int} {La : Nat → Nat} (h : SegL s K B La) : SegL (burnt s) K B La := h.congr rfl
theorem SegL.same {s : PS} {K : List Nat} {B B' : Nat → List Int} {La La' : Nat → Nat} (h : SegL s K B La) (e : ∀ k ∈ K, B' k = B k) (e2 : ∀ k ∈ K, La' k = La k) : SegL s K B' La' :=
  ⟨h.segs.same e, fun i f k h1 h2 h3 => (h.last i f k h1 h2 h3).trans (e2 k h2).symm⟩
def updn (La : Nat → Nat) (k : Nat) (b : Nat) : Nat → Nat := fun i => if i = k then b else La i
theorem name_idx {L : List PF} (hnd : (L.map PF.name).Nodup) {i j : Nat} {f g : PF} (hi : L[i]? = some f) (hj : L[j]? = some g) (e : f.name = g.name) : i = j := by
  have h1 := find_nodup hnd hi
  have h2 := find_nodup hnd hj
  rw [e, h2] at h1
  exact (Option.some.inj h1).symm
theorem SegL.set {s s' : PS} {K : List Nat} {B : Nat → List Int} {La : Nat → Nat} (h : SegL s K B La) {k j : Nat} {f f' : PF} (hk : k ∈ K) (hj : find (nm k) s.L = some j) (hf : s.L[j]? = some f) (hn : f'.name = nm k) (hL : s'.L = s.L.set j f') : SegL s' K (upd B k f'.bytes) (updn La k f'.last) := by
  have hfn : f.name = nm k := by obtain ⟨f2, a, b⟩ := find_some hj; rw [hf] at a; cases a; exact b
  refine ⟨h.segs.set hk hj hf hn hL, fun i g k' h1 h2 h3 => ?_⟩
  rw [hL, List.getElem?_set] at h1
  split at h1
  · rename_i e
    split at h1
    · cases h1
      have : k' = k := nm_inj (h.segs.r9 _ h2) (h.segs.r9 _ hk) (by rw [← h3, hn])
      unfold updn; rw [if_pos this]
    · cases h1
  · rename_i e
    have hne : k' ≠ k := fun e2 => e (name_idx h.segs.nodup hf h1 (by rw [h3, hfn, e2]))
    unfold updn; rw [if_neg hne]
    exact h.last i g k' h1 h2 h3
/-- the file of a segment -/
theorem SegL.file {s : PS} {K : List Nat} {B : Nat → List Int} {La : Nat → Nat} (h : SegL s K B La) {k : Nat} (hk : k ∈ K) : ∃ j f, find (nm k) s.L = some j ∧ s.L[j]? = some f ∧ f.name = nm k ∧ f.bytes = B k ∧ f.last = La k := by
  obtain ⟨j, f, h1, h2, h3⟩ := h.segs.file k hk
  have hn : f.name = nm k := by obtain ⟨f2, a, b⟩ := find_some h1; rw [h2] at a; cases a; exact b
  exact ⟨j, f, h1, h2, hn, h3, h.last j f k h2 hk hn⟩
theorem not_burnB {fu : Int} (h : burnB fu ≠ true) : burnB fu = false := by cases hb : burnB fu <;> simp_all
theorem SegL.sync {s : PS} {K : List Nat} {B : Nat → List Int} {La : Nat → Nat} (h : SegL s K B La) (hoff : s.off = false) {k : Nat} (hk : k ∈ K) :
    (pSync s (nm k) = (8, E.burnt s) ∧ burnB s.fu = true) ∨ ((pSync s (nm k)).1 = 0 ∧ SegL (pSync s (nm k)).2 K B (updn La k (B k).length) ∧ (pSync s (nm k)).2.off = false ∧ (pSync s (nm k)).2.q = s.q ∧ usedL (pSync s (nm k)).2.L = usedL s.L) := by
  obtain ⟨j, f, h1, h2, hn, h3, h4⟩ := h.file hk
  by_cases hb : burnB s.fu = true
  · left
    refine ⟨?_, hb⟩
    unfold pSync
    rw [if_neg (by rw [h.segs.rd hoff hk]; simp), if_pos hb]
  · right
    have e : pSync s (nm k) = (0, { E.burnt s with L := s.L.set j { f with last := f.bytes.length } }) := by
      unfold pSync
      rw [if_neg (by rw [h.segs.rd hoff hk]; simp), if_neg hb, h1]
      simp only [h2]
    rw [e]
    refine ⟨rfl, (SegL.set (f' := { f with last := f.bytes.length }) h hk h1 h2 hn rfl).same (fun i _ => ?_) (fun i _ => ?_), not_burnB hb, rfl, ?_⟩
    · unfold upd; split
      · rename_i e2; rw [e2]; exact h3.symm
      · rfl
    · unfold updn; rw [h3]
    · have := usedL_put (f' := { f with last := f.bytes.length }) h2
      simp only at this ⊢
      omega
theorem SegL.app {s s' : PS} {K : List Nat} {B : Nat → List Int} {La : Nat → Nat} (h : SegL s K B La) (hoff : s.off = false) {k : Nat} (hk : k ∈ K) {c : List Int} (hroom : (usedL s.L : Int) + c.length ≤ s.q) (ha : AppS s (nm k) c s') :
    (appE s (nm k) c = 8 ∧ s' = E.burnt s ∧ burnB s.fu = true) ∨ (appE s (nm k) c = 0 ∧ SegL s' K (upd B k (B k ++ c)) La ∧ s'.off = false ∧ s'.q = s.q ∧ usedL s'.L = usedL s.L + c.length) := by
  have hr := h.segs.rd hoff hk
  obtain ⟨j, f, h1, h2, hn, h3, h4⟩ := h.file hk
  unfold AppS at ha
  rw [if_neg (by rw [hr]; simp), if_neg (by omega)] at ha
  have hE : appE s (nm k) c = if burnB s.fu = true then 8 else 0 := by
    unfold appE
    rw [if_neg (by rw [hr]; simp), if_neg (by omega)]
  by_cases hb : burnB s.fu = true
  · rw [if_pos hb] at ha hE
    exact .inl ⟨hE, ha, hb⟩
  · rw [if_neg hb] at ha hE
    obtain ⟨j', f', dv, g1, g2, g3, _, rfl⟩ := ha
    obtain rfl : j = j' := by rw [h1] at g1; exact Option.some.inj g1
    obtain rfl : f = f' := by rw [h2] at g2; exact Option.some.inj g2
    refine .inr ⟨hE, ?_, not_burnB hb, rfl, ?_⟩
    · have := SegL.set (s' := { E.burnt s with L := s.L.set j ⟨nm k, dv, f.bytes ++ c, f.last⟩ }) (f' := ⟨nm k, dv, f.bytes ++ c, f.last⟩) h hk h1 h2 rfl rfl
      refine this.same (fun i _ => ?_) (fun i _ => ?_)
      · unfold upd; rw [h3]
      · unfold updn; split
        · rename_i e; rw [e]; exact h4.symm
        · rfl
    · have := usedL_put (f' := ⟨nm k, dv, f.bytes ++ c, f.last⟩) h2
      simp only [List.length_append] at this ⊢
      omega
theorem SegL.create {s : PS} {K : List Nat} {B : Nat → List Int} {La : Nat → Nat} (h : SegL s K B La) (hoff : s.off = false) {x : Nat} (hx : ∀ k ∈ K, k < x) (h9 : 1 ≤ x ∧ x ≤ 9) (hl : K.length < 9) :
    (pCreate s (nm x) = (8, E.burnt s) ∧ burnB s.fu = true) ∨ ((pCreate s (nm x)).1 = 0 ∧ SegL (pCreate s (nm x)).2 (K ++ [x]) (upd B x []) (updn La x 0) ∧ (pCreate s (nm x)).2.off = false ∧ (pCreate s (nm x)).2.q = s.q ∧ usedL (pCreate s (nm x)).2.L = usedL s.L) := by
  have hnf : find (nm x) s.L = none := by
    cases hq : find (nm x) s.L with
    | none => rfl
    | some j =>
      obtain ⟨f, a, b⟩ := find_some hq
      have : nm x ∈ K.map nm := h.segs.perm.mem_iff.1 (by rw [← b]; exact List.mem_map_of_mem (List.mem_of_getElem? a))
      obtain ⟨k, hk, e⟩ := List.mem_map.1 this
      have := nm_inj (h.segs.r9 k hk) h9 e
      have := hx k hk
      omega
  have hlen : s.L.length = K.length := by have := h.segs.perm.length_eq; simpa using this
  have hr : rdE s.L s.off false (nm x) = 0 := by
    unfold rdE
    rw [hoff, if_neg (by simp), if_neg (fun h' => h' (nm_ok h9)), if_neg (by simp)]
  by_cases hb : burnB s.fu = true
  · left
    refine ⟨?_, hb⟩
    unfold pCreate
    rw [if_neg (by rw [hr]; simp), if_neg (by omega), if_pos hb]
  · right
    have e : pCreate s (nm x) = (0, { E.burnt s with L := s.L ++ [⟨nm x, .nils, [], 0⟩] }) := by
      unfold pCreate
      rw [if_neg (by rw [hr]; simp), if_neg (by omega), if_neg hb]
      simp only [putL, hnf]
    have hcalm : Segs (pCreate { s with fu := 0 } (nm x)).2 (K ++ [x]) (upd B x []) := ((h.segs.congr (s' := { s with fu := 0 }) rfl).create ⟨rfl, hoff⟩ hx h9 hl).2.1
    have e0 : pCreate { s with fu := 0 } (nm x) = (0, { E.burnt { s with fu := 0 } with L := s.L ++ [⟨nm x, .nils, [], 0⟩] }) := by
      unfold pCreate
      rw [if_neg (by show ¬ rdE s.L s.off false (nm x) ≠ 0; rw [hr]; simp), if_neg (by show ¬ (_ ∧ 4096 ≤ s.L.length); omega), if_neg (by show ¬ burnB 0 = true; decide)]
      simp only [putL, hnf]
    rw [e0] at hcalm
    rw [e]
    refine ⟨rfl, ⟨hcalm.congr rfl, fun i f k h1 h2 h3 => ?_⟩, not_burnB hb, rfl, by rw [usedL_append]; simp [usedL]⟩
    have h1 : (s.L ++ [⟨nm x, .nils, [], 0⟩] : List PF)[i]? = some f := h1
    by_cases hi : i < s.L.length
    · rw [List.getElem?_append_left hi] at h1
      have hf : nm k ∈ K.map nm := h.segs.perm.mem_iff.1 (by rw [← h3]; exact List.mem_map_of_mem (List.mem_of_getElem? h1))
      obtain ⟨k2, hk2, e2⟩ := List.mem_map.1 hf
      have hkk : k2 = k := nm_inj (h.segs.r9 k2 hk2) (hcalm.r9 k h2) e2
      rw [hkk] at hk2
      unfold updn; rw [if_neg (by have := hx k hk2; omega)]
      exact h.last i f k h1 hk2 h3
    · rw [List.getElem?_append_right (by omega)] at h1
      have hi0 : i - s.L.length = 0 := by
        by_cases h0 : i - s.L.length = 0
        · exact h0
        · rw [List.getElem?_eq_none (by simp; omega)] at h1; cases h1
      rw [hi0] at h1
      simp only [List.getElem?_cons_zero, Option.some.injEq] at h1
      subst h1
      have : x = k := nm_inj h9 (hcalm.r9 k h2) h3
      unfold updn; rw [if_pos this.symm]
end
section
set_option maxRecDepth 4000
/-! ### the log's law, with a fuse: what stands on the disk, how much of it lasts -/
def framesK (G : Nat → List (List Int)) (k : Nat) : List Int := (G k).flatMap frameL
/-- all records of the segments 1 to n -/
def recsOf (G : Nat → List (List Int)) (n : Nat) : List (List Int) := (List.range' 1 n).flatMap G
theorem recsOf_succ (G : Nat → List (List Int)) (n : Nat) : recsOf G (n + 1) = recsOf G n ++ G (n + 1) := by
  unfold recsOf
  rw [List.range'_1_concat, List.flatMap_append]
  simp [Nat.add_comm]
theorem recsOf_upd {G : Nat → List (List Int)} {n k : Nat} (h : n < k) (l : List (List Int)) : recsOf (updG G k l) n = recsOf G n := by
  unfold recsOf
  have : ∀ x ∈ List.range' 1 n, updG G k l x = G x := fun x hx => by
    rw [List.mem_range'_1] at hx
    unfold updG; rw [if_neg (by omega)]
  rw [List.flatMap_def, List.flatMap_def, List.map_congr_left this]
/-- what lasts: all but the last segment, and of it the first j records at least; so do the first sy records -/
structure LogS (s : PS) (n : Nat) (G : Nat → List (List Int)) (La : Nat → Nat) (sy : Nat) : Prop where
  segs : SegL s (List.range' 1 n) (framesK G) La
  n8 : n ≤ 8
  lastF : ∀ k, 1 ≤ k → k < n → La k = (framesK G k).length
  lastO : (n = 0 ∧ sy = 0) ∨ (0 < n ∧ ∃ j, j ≤ (G n).length ∧ La n = (((G n).take j).flatMap frameL).length ∧ sy ≤ (recsOf G (n - 1)).length + j)
  sz : ∀ k, ∀ r ∈ G k, 1 ≤ r.length ∧ r.length ≤ 4096
  good : Good s
  used : usedL s.L ≤ 500000
  q : s.q = 1048576
theorem LogS.congr {s s' : PS} {n sy : Nat} {G : Nat → List (List Int)} {La : Nat → Nat} (h : LogS s n G La sy) (e : s'.L = s.L) (hf : 0 ≤ s'.fu ∧ s'.fu ≤ 9223372036854775807) (hq : s'.q = s.q) : LogS s' n G La sy :=
  ⟨h.segs.congr e, h.n8, h.lastF, h.lastO, h.sz, ⟨by rw [e]; exact h.good.dv, hf⟩, by rw [e]; exact h.used, hq.trans h.q⟩
theorem LogS.burnt {s : PS} {n sy : Nat} {G : Nat → List (List Int)} {La : Nat → Nat} (h : LogS s n G La sy) : LogS (burnt s) n G La sy := h.congr rfl (burnN_range h.good.fu) rfl
/-- a log whose disk is on -/
structure LogK (s : PS) (op ct : Nat) (G : Nat → List (List Int)) (La : Nat → Nat) (sy N U : Nat) : Prop where
  st : LogS s op G La sy
  off : s.off = false
  hct : op = 0 ∧ ct = 0 ∨ 0 < op ∧ ct = (G op).length ∧ 1 ≤ ct ∧ ct ≤ 8
  num : N + 8 = 8 * op + ct ∨ op = 0 ∧ N = 0
  full : ∀ k, 1 ≤ k → k < op → (G k).length = 8
  len : (recsOf G op).length = N
  used : usedL s.L ≤ U
theorem LogK.q {s : PS} {op ct N U sy : Nat} {G : Nat → List (List Int)} {La : Nat → Nat} (h : LogK s op ct G La sy N U) : s.q = 1048576 := h.st.q
theorem LogK.fine {s : PS} {op ct N U sy : Nat} {G : Nat → List (List Int)} {La : Nat → Nat} (h : LogK s op ct G La sy N U) : Fine s U := ⟨h.st.good, h.used, by rw [h.q]; omega⟩
/-- the log is dead (its disk is off): what it had stands -/
def Dead (s : PS) (A : List (List Int)) (sy : Nat) : Prop := ∃ n G La, LogS s n G La sy ∧ recsOf G n = A
theorem mem_r1 {n k : Nat} : k ∈ List.range' 1 n ↔ 1 ≤ k ∧ k ≤ n := by rw [List.mem_range'_1]; omega
theorem framesK_upd {G : Nat → List (List Int)} {k : Nat} {l : List (List Int)} (i : Nat) : framesK (updG G k l) i = if i = k then l.flatMap frameL else framesK G i := by
  unfold framesK updG; split <;> rfl
theorem keep_append {st : St} {w d m : Nat} {s : PS} {op ct N U sy : Nat} {G : Nat → List (List Int)} {La : Nat → Nat} {data : List Int} (h : WA st w d m s (op + 1) op ct) (hI : LogK s op ct G La sy N U) (hN : N < 50) (hU : U + 4104 ≤ 500000) (h1 : 1 ≤ data.length) (h2 : data.length ≤ 4096) :
    ∃ st' s', RestF st st' [d, m, w] ∧
      ((∃ op' ct' G' La', obC 8 [.ptr w 0, recW data] st (.tup [i64 (op' : Nat), i64 0]) st' ∧ WA st' w d m s' (op' + 1) op' ct' ∧ LogK s' op' ct' G' La' sy (N + 1) (U + (8 + data.length)) ∧ recsOf G' op' = recsOf G op ++ [data] ∧ (op = op' ∨ op' = op + 1)) ∨
       (obC 8 [.ptr w 0, recW data] st (.tup [i64 0, i64 8]) st' ∧ (∃ nx' op' ct', WA st' w d m s' nx' op' ct') ∧ Dead s' (recsOf G op) sy)) := by
  have hop : op ≤ 7 := by rcases hI.num with h | h <;> rcases hI.hct with h' | h' <;> omega
  have hct8 : ct ≤ 8 := by rcases hI.hct with h | h <;> omega
  have hfull6 : ct = 8 → op ≤ 6 := fun e => by rcases hI.num with h | h <;> omega
  obtain ⟨st', s', hA, hR⟩ := wappend_ok (data := data) h hI.fine (by omega) (by omega) (by omega) hct8 h1 (by omega)
  have hlen := frame_len data
  have hrg : List.range' 1 op ++ [op + 1] = List.range' 1 (op + 1) := by rw [List.range'_1_concat]; congr 2; omega
  refine ⟨st', s', hR, ?_⟩
  by_cases hc : op = 0 ∨ ct = 8
  · -- a new segment
    have hpre : (∃ sC nx' op' ct', wPre s (op + 1) op ct = (8, sC, nx', op', ct') ∧ Dead sC (recsOf G op) sy) ∨
        ∃ sC La', wPre s (op + 1) op ct = (0, sC, op + 1 + 1, op + 1, 0) ∧ SegL sC (List.range' 1 (op + 1)) (upd (framesK G) (op + 1) []) La' ∧ sC.off = false ∧ sC.q = s.q ∧ usedL sC.L = usedL s.L ∧ Fine sC U ∧ La' (op + 1) = 0 ∧ ∀ k, 1 ≤ k → k < op + 1 → La' k = (framesK G k).length := by
      by_cases h0 : op = 0
      · rcases hI.st.segs.create hI.off (x := op + 1) (fun k hk => by have := mem_r1.1 hk; omega) (by omega) (by rw [List.length_range']; omega) with ⟨e, hb⟩ | ⟨a1, a2, a3, a4, a5⟩
        · left
          refine ⟨E.burnt s, op + 1, 0, ct, ?_, op, G, La, hI.st.burnt, rfl⟩
          unfold wPre
          rw [if_neg (by omega), if_pos h0, e, if_pos (by simp)]
        · right
          refine ⟨(pCreate s (nm (op + 1))).2, updn La (op + 1) 0, ?_, by rw [← hrg]; exact a2, a3, a4, a5, hI.fine.create _, by simp [updn], fun k hk1 hk2 => by omega⟩
          unfold wPre
          rw [if_neg (by omega), if_pos h0, if_neg (by rw [a1]; simp)]
      · have h8 : ct = 8 := by omega
        rcases hI.st.segs.sync hI.off (k := op) (mem_r1.2 (by omega)) with ⟨e, hb⟩ | ⟨b1, b2, b3, b4, b5⟩
        · left
          refine ⟨E.burnt s, op + 1, op, ct, ?_, op, G, La, hI.st.burnt, rfl⟩
          unfold wPre
          rw [if_pos ⟨by omega, h8⟩, e, if_pos (by simp)]
        · have hfs : Fine (pSync s (nm op)).2 U := hI.fine.sync _
          rcases b2.create b3 (x := op + 1) (fun k hk => by have := mem_r1.1 hk; omega) (by have := hfull6 h8; omega) (by rw [List.length_range']; have := hfull6 h8; omega) with ⟨e, hb⟩ | ⟨a1, a2, a3, a4, a5⟩
          · left
            refine ⟨E.burnt (pSync s (nm op)).2, op + 1, 0, ct, ?_, op, G, updn La op (framesK G op).length, ?_, rfl⟩
            · unfold wPre
              rw [if_pos ⟨by omega, h8⟩, if_neg (by rw [b1]; simp), e, if_pos (by simp)]
            · refine ⟨b2.burnt, hI.st.n8, fun k hk1 hk2 => ?_, .inr ⟨by omega, (G op).length, Nat.le_refl _, ?_, ?_⟩, hI.st.sz, hfs.good.dv |> fun hd => ⟨hd, burnN_range hfs.good.fu⟩, by show usedL (pSync s (nm op)).2.L ≤ _; rw [b5]; exact hI.st.used, b4.trans hI.q⟩
              · unfold updn; rw [if_neg (by omega)]; exact hI.st.lastF k hk1 hk2
              · unfold updn; rw [if_pos rfl, List.take_length]; rfl
              · rcases hI.st.lastO with ⟨h, _⟩ | ⟨_, j, hj, _, hsy⟩
                · omega
                · omega
          · right
            refine ⟨(pCreate (pSync s (nm op)).2 (nm (op + 1))).2, updn (updn La op (framesK G op).length) (op + 1) 0, ?_, by rw [← hrg]; exact a2, a3, a4.trans b4, a5.trans b5, hfs.create _, by simp [updn], fun k hk1 hk2 => ?_⟩
            · unfold wPre
              rw [if_pos ⟨by omega, h8⟩, if_neg (by rw [b1]; simp), if_neg (by rw [a1]; simp)]
            · unfold updn
              rw [if_neg (by omega)]
              split
              · rename_i e; rw [e]
              · exact hI.st.lastF k hk1 (by omega)
    rcases hpre with ⟨sC, nx', op', ct', hp, hD⟩ | ⟨sC, La', hp, c1, c2, c3, c4, c5, c6, c7⟩
    · right
      unfold WApp at hA
      rw [hp] at hA
      rcases hA with ⟨_, rfl, hob, hwa⟩ | ⟨hz, _⟩
      · exact ⟨hob, ⟨_, _, _, hwa⟩, hD⟩
      · simp at hz
    unfold WApp at hA
    rw [hp] at hA
    rcases hA with ⟨hz, _⟩ | ⟨_, happ, hrest⟩
    · exact absurd rfl hz
    simp only at happ hrest
    have hfrK : ∀ k ∈ List.range' 1 (op + 1), framesK (updG G (op + 1) []) k = upd (framesK G) (op + 1) [] k := fun k _ => by
      rw [framesK_upd]; unfold upd; rfl
    have hsy : sy ≤ (recsOf G op).length := by
      rcases hI.st.lastO with ⟨_, h⟩ | ⟨h0, j, hj, _, hsy⟩
      · omega
      · have : (recsOf G op).length = (recsOf G (op - 1)).length + (G op).length := by
          have := recsOf_succ G (op - 1)
          rw [show op - 1 + 1 = op by omega] at this
          rw [this, List.length_append]
        omega
    rcases c1.app c2 (k := op + 1) (mem_r1.2 (by omega)) (by rw [c3, hI.q, c4, hlen]; have := hI.used; omega) happ with ⟨e8, rfl, hb⟩ | ⟨d1, d2, d3, d4, d5⟩
    · right
      rcases hrest with ⟨_, hob, hwa⟩ | ⟨hz, _⟩
      · rw [e8] at hob
        refine ⟨hob, ⟨_, _, _, hwa⟩, op + 1, updG G (op + 1) [], La', ⟨(c1.same hfrK fun _ _ => rfl).burnt, by omega, fun k hk1 hk2 => ?_, .inr ⟨by omega, 0, by omega, by simp [c6], ?_⟩, fun k r hr => ?_, ⟨c5.good.dv, burnN_range c5.good.fu⟩, by show usedL sC.L ≤ _; rw [c4]; exact hI.st.used, c3.trans hI.q⟩, ?_⟩
        · rw [framesK_upd, if_neg (by omega)]; exact c7 k hk1 hk2
        · rw [Nat.add_sub_cancel, recsOf_upd (by omega)]; omega
        · unfold updG at hr; split at hr
          · simp at hr
          · exact hI.st.sz k r hr
        · rw [recsOf_succ, recsOf_upd (by omega)]; simp [updG]
      · rw [e8] at hz; simp at hz
    · left
      rcases hrest with ⟨hz, _⟩ | ⟨_, hob, hwa⟩
      · exact absurd d1 hz
      have hF : Fine s' (U + (frameL data).length) := c5.app happ
      refine ⟨op + 1, 1, updG G (op + 1) [data], La', hob, hwa, ⟨⟨d2.same (fun k hk => ?_) (fun _ _ => rfl), by omega, fun k hk1 hk2 => ?_, .inr ⟨by omega, 0, by omega, by simp [c6], ?_⟩, fun k r hr => ?_, hF.good, Nat.le_trans hF.used (by omega), by rw [d4, c3, hI.q]⟩, d3, .inr ⟨by omega, by simp [updG], by omega, by omega⟩, ?_, fun k hk1 hk2 => ?_, ?_, by rw [← hlen]; exact hF.used⟩, ?_, .inr rfl⟩
      · rw [framesK_upd]; unfold upd
        split
        · rename_i e; simp
        · rfl
      · rw [framesK_upd, if_neg (by omega)]; exact c7 k hk1 hk2
      · rw [Nat.add_sub_cancel, recsOf_upd (by omega)]; omega
      · unfold updG at hr; split at hr
        · rw [List.mem_singleton.1 hr]; omega
        · exact hI.st.sz k r hr
      · rcases hI.num with h | h <;> rcases hI.hct with h' | h' <;> omega
      · unfold updG; rw [if_neg (by omega)]
        by_cases e : k = op
        · rcases hI.hct with h' | h'
          · omega
          · rw [e, ← h'.2.1]; omega
        · exact hI.full k hk1 (by omega)
      · rw [recsOf_succ, recsOf_upd (by omega), List.length_append, hI.len]; simp [updG]
      · rw [recsOf_succ, recsOf_upd (by omega)]; simp [updG]
  · have hc1 : op ≠ 0 := fun e => hc (.inl e)
    have hc2 : ct ≠ 8 := fun e => hc (.inr e)
    have hp : wPre s (op + 1) op ct = (0, s, op + 1, op, ct) := by
      unfold wPre; rw [if_neg (fun h' => hc2 h'.2), if_neg hc1]
    unfold WApp at hA
    rw [hp] at hA
    rcases hA with ⟨hz, _⟩ | ⟨_, happ, hrest⟩
    · exact absurd rfl hz
    simp only at happ hrest
    have hrs : recsOf G op = recsOf G (op - 1) ++ G op := by
      have := recsOf_succ G (op - 1)
      rwa [show op - 1 + 1 = op by omega] at this
    rcases hI.st.segs.app hI.off (k := op) (mem_r1.2 (by omega)) (by rw [hI.q, hlen]; have := hI.used; omega) happ with ⟨e8, rfl, hb⟩ | ⟨d1, d2, d3, d4, d5⟩
    · right
      rcases hrest with ⟨_, hob, hwa⟩ | ⟨hz, _⟩
      · rw [e8] at hob
        exact ⟨hob, ⟨_, _, _, hwa⟩, ⟨op, G, La, hI.st.burnt, rfl⟩⟩
      · rw [e8] at hz; simp at hz
    · left
      rcases hrest with ⟨hz, _⟩ | ⟨_, hob, hwa⟩
      · exact absurd d1 hz
      have hF : Fine s' (U + (frameL data).length) := hI.fine.app happ
      have hrs' : recsOf (updG G op (G op ++ [data])) op = recsOf G op ++ [data] := by
        have := recsOf_succ (updG G op (G op ++ [data])) (op - 1)
        rw [show op - 1 + 1 = op by omega] at this
        rw [this, recsOf_upd (by omega), hrs]
        simp [updG]
      refine ⟨op, ct + 1, updG G op (G op ++ [data]), La, hob, hwa, ⟨⟨d2.same (fun k hk => ?_) (fun _ _ => rfl), hI.st.n8, fun k hk1 hk2 => ?_, ?_, fun k r hr => ?_, hF.good, Nat.le_trans hF.used (by omega), by rw [d4, hI.q]⟩, d3, .inr ⟨by omega, ?_, by omega, by omega⟩, ?_, fun k hk1 hk2 => ?_, by rw [hrs', List.length_append, hI.len]; rfl, by rw [← hlen]; exact hF.used⟩, hrs', .inl rfl⟩
      · rw [framesK_upd]; unfold upd
        split
        · rename_i e; rw [List.flatMap_append]; simp [framesK]
        · rfl
      · rw [framesK_upd, if_neg (by omega)]; exact hI.st.lastF k hk1 hk2
      · rcases hI.st.lastO with ⟨h, _⟩ | ⟨_, j, hj, hla, hsy⟩
        · omega
        · refine .inr ⟨by omega, j, ?_, ?_, ?_⟩
          · simp only [updG, if_true]; rw [List.length_append]; omega
          · simp only [updG, if_true]; rw [List.take_append_of_le_length hj]; exact hla
          · rw [recsOf_upd (by omega)]; exact hsy
      · unfold updG at hr; split at hr
        · rename_i e
          rcases List.mem_append.1 hr with hr | hr
          · exact hI.st.sz op r hr
          · rw [List.mem_singleton.1 hr]; omega
        · exact hI.st.sz k r hr
      · simp only [updG, if_true]; rw [List.length_append]
        rcases hI.hct with h' | h'
        · omega
        · simp only [List.length_cons, List.length_nil]; omega
      · rcases hI.num with h | h <;> rcases hI.hct with h' | h' <;> omega
      · unfold updG; rw [if_neg (by omega)]; exact hI.full k hk1 hk2
end
section
set_option maxRecDepth 4000
/-! ### Sync and Fuse of a log that is on -/
theorem keep_sync {st : St} {w d m : Nat} {s : PS} {op ct N U sy : Nat} {G : Nat → List (List Int)} {La : Nat → Nat} (h : WA st w d m s (op + 1) op ct) (hI : LogK s op ct G La sy N U) (h0 : 0 < op) :
    ∃ st' s', Rest st st' [d, m] ∧ WA st' w d m s' (op + 1) op ct ∧ ((obC 9 [.ptr w 0] st (i64 0) st' ∧ ∃ La', LogK s' op ct G La' N N U) ∨ (obC 9 [.ptr w 0] st (i64 8) st' ∧ Dead s' (recsOf G op) sy)) := by
  have hn8 := hI.st.n8
  obtain ⟨st', a, b, c⟩ := wsync_ok h hI.st.good (by omega)
  have e : wSync s op = pSync s (nm op) := by unfold wSync; rw [if_neg (by omega)]
  rw [e] at a b
  refine ⟨st', _, c, b, ?_⟩
  have hF : Fine (pSync s (nm op)).2 U := hI.fine.sync _
  rcases hI.st.segs.sync hI.off (k := op) (mem_r1.2 (by omega)) with ⟨e2, hb⟩ | ⟨b1, b2, b3, b4, b5⟩
  · rw [e2] at a ⊢
    exact .inr ⟨a, op, G, La, hI.st.burnt, rfl⟩
  · rw [b1] at a
    refine .inl ⟨a, updn La op (framesK G op).length, ⟨b2, hI.st.n8, fun k hk1 hk2 => ?_, .inr ⟨h0, (G op).length, Nat.le_refl _, ?_, ?_⟩, hI.st.sz, hF.good, Nat.le_trans (Nat.le_of_eq b5) hI.st.used, b4.trans hI.q⟩, b3, hI.hct, hI.num, hI.full, hI.len, hF.used⟩
    · unfold updn; rw [if_neg (by omega)]; exact hI.st.lastF k hk1 hk2
    · unfold updn; rw [if_pos rfl, List.take_length]; rfl
    · have := recsOf_succ G (op - 1)
      rw [show op - 1 + 1 = op by omega] at this
      rw [← hI.len, this, List.length_append]
      exact Nat.le_refl _
theorem keep_fuse {st : St} {w d m : Nat} {s : PS} {nx op ct op' ct' N U sy : Nat} {G : Nat → List (List Int)} {La : Nat → Nat} (h : WA st w d m s nx op' ct') (hI : LogK s op ct G La sy N U) {k : Int} (hk : 0 ≤ k ∧ k ≤ 9223372036854775807) :
    ∃ st' s', obC 12 [.ptr d 0, i64 k] st (.tup []) st' ∧ Rest st st' [d, m] ∧ WA st' w d m s' nx op' ct' ∧ LogK s' op ct G La sy N U := by
  obtain ⟨st', a, b, c⟩ := fuse_ok h.disk h.wf h.lock k
  have hn : nn k = k := by unfold nn; rw [if_neg (by omega)]
  rw [hn] at b
  exact ⟨st', _, a, c, h.disk' b c, hI.st.congr rfl hk rfl, hI.off, hI.hct, hI.num, hI.full, hI.len, hI.used⟩
/-! ### a crash -/
theorem crL_map (ps : List Int) (a b : Nat → List Int) : ∀ (K : List Nat) (c : Nat), K.Pairwise (· < ·) → ∃ t : Nat → Nat, crL ps c (K.map fun k => (nm k, a k, b k)) = K.map fun k => (nm k, a k ++ (b k).take (t k), [])
  | [], c, _ => ⟨fun _ => 0, rfl⟩
  | k :: K, c, h => by
    obtain ⟨h1, h2⟩ := List.pairwise_cons.1 h
    obtain ⟨t, ht⟩ := crL_map ps a b K (crK ps c (nm k, a k, b k)).2 h2
    have hx : ∃ u, (crK ps c (nm k, a k, b k)).1 = (nm k, a k ++ (b k).take u, []) := by
      unfold crK
      by_cases hb : b k = []
      · rw [if_pos hb]; exact ⟨0, by simp [hb]⟩
      · rw [if_neg hb]; exact ⟨_, rfl⟩
    obtain ⟨u, hu⟩ := hx
    refine ⟨fun i => if i = k then u else t i, ?_⟩
    rw [List.map_cons, List.map_cons]
    simp only [crL]
    rw [hu, ht]
    simp only [if_true]
    congr 1
    refine List.map_congr_left fun i hi => ?_
    have := h1 i hi
    rw [if_neg (by omega)]
theorem key_map {s : PS} {K : List Nat} {B : Nat → List Int} {La : Nat → Nat} (h : SegL s K B La) : (s.L.map keyP).Perm (K.map fun k => (nm k, (B k).take (La k), (B k).drop (La k))) := by
  let φ : ByteArray → E.K := fun n => match K.find? (fun k => nm k == n) with
    | some k => (nm k, (B k).take (La k), (B k).drop (La k))
    | none => (n, [], [])
  have hφ : ∀ k ∈ K, φ (nm k) = (nm k, (B k).take (La k), (B k).drop (La k)) := fun k hk => by
    show (match K.find? (fun k' => nm k' == nm k) with | some k => (nm k, (B k).take (La k), (B k).drop (La k)) | none => (nm k, [], [])) = _
    cases hf : K.find? (fun k' => nm k' == nm k) with
    | none => exact absurd (ba_refl _) (by have := List.find?_eq_none.1 hf k hk; simpa using this)
    | some k' =>
      have e1 := List.find?_some hf
      have e2 := List.mem_of_find?_eq_some hf
      have : k' = k := nm_inj (h.segs.r9 _ e2) (h.segs.r9 _ hk) (ba_eq e1)
      rw [this]
  have e1 : s.L.map keyP = (s.L.map PF.name).map φ := by
    rw [List.map_map]
    refine List.map_congr_left fun f hf => ?_
    have hm : f.name ∈ K.map nm := h.segs.perm.mem_iff.1 (List.mem_map_of_mem hf)
    obtain ⟨k, hk, e⟩ := List.mem_map.1 hm
    obtain ⟨i, hi, hfi⟩ := List.mem_iff_getElem.1 hf
    have hfi' : s.L[i]? = some f := by rw [List.getElem?_eq_getElem hi, hfi]
    obtain ⟨j, g, g1, g2, g3, g4, g5⟩ := h.file hk
    have hij := name_idx h.segs.nodup hfi' g2 (by rw [g3, e])
    rw [hij, g2] at hfi'
    obtain rfl := Option.some.inj hfi'
    show keyP g = φ g.name
    rw [g3, hφ k hk]
    unfold keyP
    rw [g3, g4, g5]
  have e2 : (K.map nm).map φ = K.map fun k => (nm k, (B k).take (La k), (B k).drop (La k)) := by
    rw [List.map_map]
    exact List.map_congr_left fun k hk => hφ k hk
  rw [e1, ← e2]
  exact h.segs.perm.map φ
theorem crash_segs {st : St} {d m : Nat} {s : PS} {K : List Nat} {B : Nat → List Int} {La : Nat → Nat} (hp : PDs st d m s) (hw : st.wf) (hl : st.lock = []) (h : SegL s K B La) (hg : Good s) (hu : usedL s.L ≤ 600000) {x : AV} {ps : List Int} (hx : ArgP st x ps) (hps : PicksOk ps) :
    ∃ st' s' B', obC 13 [.ptr d 0, x] st (.tup []) st' ∧ PDs st' d m s' ∧ Rest st st' [d, m] ∧ s'.fu = 0 ∧ s'.off = false ∧ s'.q = s.q ∧ Good s' ∧ usedL s'.L ≤ usedL s.L ∧ SegL s' K B' (fun k => (B' k).length) ∧ ∀ k ∈ K, ∃ t, B' k = (B k).take (La k + t) := by
  have hb : (600000 : Nat) ≤ big := by decide
  have hM1 : (K.map fun k => (nm k, (B k).take (La k), (B k).drop (La k))).map (·.1) = K.map nm := by rw [List.map_map]; rfl
  obtain ⟨st', L', a1, a2, a3, a4, a5, a6, a7⟩ := crash_ok hp hw hl (fun f hf => ⟨(hg.dv f hf).1, (hg.dv f hf).2, by
      have : f.bytes.length ≤ usedL s.L := le_sum (List.mem_map.2 ⟨f, hf, rfl⟩)
      omega⟩) (key_map h) (by rw [hM1]; exact ord_nm h.segs.inc h.segs.r9) (by rw [List.length_map]; have := h.segs.len; omega) (fun k hk => by
        obtain ⟨i, hi, rfl⟩ := List.mem_map.1 hk
        exact nm_ok (h.segs.r9 i hi)) hx hps
  obtain ⟨t, ht⟩ := crL_map ps (fun k => (B k).take (La k)) (fun k => (B k).drop (La k)) K 0 h.segs.inc
  rw [ht] at a5
  refine ⟨st', ⟨L', s.q, 0, false⟩, fun k => (B k).take (La k) ++ ((B k).drop (La k)).take (t k), a1, a2, a7, rfl, rfl, rfl, ⟨fun f hf => ⟨(a4 f hf).1, (a4 f hf).2.1⟩, ⟨Int.le_refl 0, by show (0 : Int) ≤ _; omega⟩⟩, a6, ?_, fun k hk => ⟨t k, by rw [List.take_add]⟩⟩
  have hperm : (L'.map PF.name).Perm (K.map nm) := by rw [a3]; exact h.segs.perm
  have hnd : (L'.map PF.name).Nodup := hperm.nodup_iff.2 (nodup_nm h.segs.inc h.segs.r9)
  have hfile : ∀ k ∈ K, ∃ (j : Nat) (f : PF), L'[j]? = some f ∧ f.name = nm k ∧ f.bytes = (B k).take (La k) ++ ((B k).drop (La k)).take (t k) ∧ f.last = f.bytes.length := fun k hk => by
    have hm := a5.mem_iff.2 (List.mem_map_of_mem (f := fun k => (nm k, (B k).take (La k) ++ ((B k).drop (La k)).take (t k), ([] : List Int))) hk)
    obtain ⟨f, hf, e⟩ := List.mem_map.1 hm
    obtain ⟨j, hj, hfj⟩ := List.mem_iff_getElem.1 hf
    simp only [keyP, Prod.mk.injEq] at e
    obtain ⟨e1, e2, e3⟩ := e
    have hle := (a4 f hf).2.1
    have hge : f.bytes.length ≤ f.last := by
      have := congrArg List.length e3
      simp at this; omega
    refine ⟨j, f, by rw [List.getElem?_eq_getElem hj, hfj], e1, ?_, by omega⟩
    rw [← e2, List.take_of_length_le hge]
  refine ⟨⟨hperm, h.segs.inc, h.segs.r9, h.segs.len, fun k hk => ?_⟩, fun i f k h1 h2 h3 => ?_⟩
  · obtain ⟨j, f, f1, f2, f3, _⟩ := hfile k hk
    exact ⟨j, f, by rw [← f2]; exact find_nodup hnd f1, f1, f3⟩
  · obtain ⟨j, g, f1, f2, f3, f4⟩ := hfile k h2
    have := name_idx hnd h1 f1 (by rw [h3, f2])
    rw [this, f1] at h1
    obtain rfl := Option.some.inj h1
    rw [f4, f3]
/-! ### a torn end -/
theorem torn : ∀ (l : List (List Int)), (∀ d ∈ l, 1 ≤ d.length ∧ d.length ≤ 4096) → ∀ t, ∃ j, j ≤ l.length ∧ (∃ tl, parse1 tl = none ∧ (l.flatMap frameL).take t = (l.take j).flatMap frameL ++ tl) ∧ ∀ i, i ≤ l.length → ((l.take i).flatMap frameL).length ≤ t → i ≤ j
  | [], _, t => ⟨0, Nat.le_refl _, ⟨[], rfl, by simp⟩, fun i hi _ => hi⟩
  | d :: r, h, t => by
    have hd := h d (List.mem_cons_self ..)
    have hfl := frame_len d
    by_cases ht : t < (frameL d).length
    · refine ⟨0, Nat.zero_le _, ⟨(frameL d).take t, parse_part hd.1 hd.2 (by omega), ?_⟩, fun i hi hle => ?_⟩
      · rw [List.flatMap_cons, List.take_append_of_le_length (by omega)]; simp
      · cases i with
        | zero => exact Nat.le_refl _
        | succ i =>
          rw [List.take_succ_cons, List.flatMap_cons, List.length_append] at hle
          omega
    · obtain ⟨j, hj, ⟨tl, h1, h2⟩, h3⟩ := torn r (fun e he => h e (List.mem_cons_of_mem _ he)) (t - (frameL d).length)
      refine ⟨j + 1, by rw [List.length_cons]; omega, ⟨tl, h1, ?_⟩, fun i hi hle => ?_⟩
      · rw [List.flatMap_cons, List.take_append, List.take_of_length_le (by omega), h2, List.take_succ_cons, List.flatMap_cons, List.append_assoc]
      · cases i with
        | zero => omega
        | succ i =>
          rw [List.take_succ_cons, List.flatMap_cons, List.length_append] at hle
          have := h3 i (by rw [List.length_cons] at hi; omega) (by omega)
          omega
end
end Go.Proofs.YtalchcdenhfmiaaDoor.E
