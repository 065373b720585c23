/- Part 2 of the proof, over the abstract machine: contracts of the functions that the statement reaches, joined out of several texts. Condition: none beyond those that the lemmas name. -/
import Derived.Test.YtalchcdenhfmiaaGreatDoorP1
namespace Go.Proofs.YtalchcdenhfmiaaGreatDoor.E
open Go Go.Proofs
section
set_option maxRecDepth 4000
def keyP (f : PF) : K := (f.name, f.bytes.take f.last, f.bytes.drop f.last)
def ArgP (st : St) (x : AV) (ps : List Int) : Prop := (ps = [] ∧ x = .nils) ∨ (∃ fl, x = .imm 1 ps.length fl (ps.map u16)) ∨ ∃ i fl, x = .sl i 1 0 ps.length fl ∧ st.get i = some (.row (ps.map u16) 108)
theorem map_ne_row {st : St} {m r : Nat} {es : List (AV × AV)} {bs : List Nat} {c : Nat} {vs : List AV} {ty : Nat} (h1 : st.get m = some (.map es bs c)) (h2 : st.get r = some (.row vs ty)) : r ≠ m := fun e => by rw [e, h1] at h2; cases h2
/-- rows of other types stay, whatever the disk does -/
theorem PD.other {st st' : St} {d m : Nat} {L : List PF} {q fu : Int} {off : Bool} (hp : PD st d L q fu off m) (hr : Rest st st' [d, m]) {r : Nat} {vs : List AV} {ty : Nat} (hg : st.get r = some (.row vs ty)) (ht : ty ≠ 107) : st'.get r = some (.row vs ty) := by
  obtain ⟨bs, c, hm⟩ := hp.map
  refine hr.keep r _ (fun hi => ?_) hg
  simp only [List.mem_cons, List.not_mem_nil, or_false] at hi
  rcases hi with rfl | rfl
  · exact row_ne hg hp.row ht rfl
  · exact map_ne_row hm hg rfl
theorem perm_set {α : Type} {l A B : List α} {j : Nat} {x y : α} (h : l.Perm (A ++ x :: B)) (hj : l[j]? = some x) : (l.set j y).Perm (A ++ y :: B) := by
  obtain ⟨hlt, hx⟩ := List.getElem?_eq_some_iff.1 hj
  have e1 : l = l.take j ++ x :: l.drop (j + 1) := by
    conv => lhs; rw [← List.take_append_drop j l, List.drop_eq_getElem_cons hlt, hx]
  have e2 : l.set j y = l.take j ++ y :: l.drop (j + 1) := by rw [List.set_eq_take_append_cons_drop, if_pos hlt]
  have h1 : (x :: (l.take j ++ l.drop (j + 1))).Perm (x :: (A ++ B)) := by
    refine (List.perm_middle.symm.trans ?_).trans List.perm_middle
    rw [← e1]; exact h
  have h2 := h1.cons_inv
  rw [e2]
  exact (List.perm_middle.trans (h2.cons y)).trans List.perm_middle.symm
theorem boundsA_3 (len i : Nat) (h : i ≤ len) : boundsA len len none (some (i64 i)) (some (i64 i)) = some (0, i, i) := by
  delta boundsA
  simp only [natLe_ok h, natLe_ok (Nat.le_refl i)]
theorem slice3 {st : St} {bs : List Int} {fl : Bool} {w : Nat} (hw : w ≤ bs.length) : ∃ g, sliceA E0 st 22 (.imm 1 bs.length fl (bs.map u8)) none (some (i64 w)) (some (i64 w)) = some (.imm 1 w g ((bs.take w).map u8)) := by
  have sz5 : tySize E0 5 = some 1 := by kernel_rfl
  simp only [sliceA, ty28, sz5, if_true, boundsA_3 _ _ hw]
  exact ⟨fullOf (some (i64 w)) (0, w, w) fl bs.length, by simp only [Nat.sub_zero, Nat.mul_one, List.drop_zero, List.map_take]⟩
theorem find_nodup : ∀ {L : List PF} {j : Nat} {f : PF}, (L.map PF.name).Nodup → L[j]? = some f → find f.name L = some j
  | [], j, f, _, h => by cases h
  | g :: r, 0, f, _, h => by
    obtain rfl : g = f := by simpa using h
    unfold find
    rw [if_pos (ba_refl _)]
  | g :: r, j + 1, f, hn, h => by
    have hj : r[j]? = some f := by simpa using h
    obtain ⟨h1, h2⟩ := List.nodup_cons.1 hn
    unfold find
    rw [if_neg (fun e => h1 (by rw [← ba_eq e]; exact List.mem_map.2 ⟨f, List.mem_of_getElem? hj, rfl⟩)), find_nodup h2 hj]
    rfl
structure PcI (st0 : St) (d m : Nat) (s : PS) (M : List K) (ps : List Int) (i : Nat) (p : St × List PF) : Prop where
  rest : Rest st0 p.1 [d, m]
  pd : PDs p.1 d m { s with L := p.2 }
  names : p.2.map PF.name = s.L.map PF.name
  good : ∀ f ∈ p.2, DV f ∧ f.last ≤ f.bytes.length ∧ f.bytes.length ≤ big
  perm : (p.2.map keyP).Perm (crL ps 0 (M.take i) ++ M.drop i)
  used : usedL p.2 ≤ usedL s.L
def GP (T : Tm) : List AV := [T.get 0, T.get 1, T.get 4, T.get 11, T.get 13, T.get 14, T.get 15]
def pcIn (d : Nat) (x nv : AV) (M : List K) (ps : List Int) (i : Nat) (T : Tm) : Prop := T.n = 76 ∧ ∃ t, GP T = [.ptr d 0, x, i64 (crN ps 0 (M.take i)), t, nv, i64 M.length, i64 i]
def PcR (d : Nat) (x nv : AV) (M : List K) (ps : List Int) (i : Nat) (p p' : St × List PF) : Prop := ∀ T : Tm, pcIn d x nv M ps i T →
  AW Tryz.prog (pcP 4) (fun ex T' st' => ex = .normal ∧ pcIn d x nv M ps (i + 1) T' ∧ st' = p'.1) T p.1
theorem usedL_set {L : List PF} {j : Nat} {f f' : PF} (h : L[j]? = some f) (hle : f'.bytes.length ≤ f.bytes.length) : usedL (L.set j f') ≤ usedL L := by
  obtain ⟨hlt, hx⟩ := List.getElem?_eq_some_iff.1 h
  have e1 : L = L.take j ++ f :: L.drop (j + 1) := by
    conv => lhs; rw [← List.take_append_drop j L, List.drop_eq_getElem_cons hlt, hx]
  have e2 : L.set j f' = L.take j ++ f' :: L.drop (j + 1) := by rw [List.set_eq_take_append_cons_drop, if_pos hlt]
  rw [e2]
  conv => rhs; rw [e1]
  unfold usedL
  simp only [List.map_append, List.map_cons, List.sum_append, List.sum_cons]
  omega
theorem pc_step {st0 : St} {d m r : Nat} {rf : Bool} {s : PS} {M : List K} {x : AV} {ps : List Int} (hl : st0.lock = []) (hp0 : PDs st0 d m s) (hnd : (s.L.map PF.name).Nodup) (hr : st0.get r = some (.row (M.map fun k => str k.1) 9)) (hx : ArgP st0 x ps) (hps : PicksOk ps) (hM : M.length ≤ 100000) (i : Nat) (p : St × List PF) (hi : i < M.length) (hI : PcI st0 d m s M ps i p) :
    ∃ p', PcI st0 d m s M ps (i + 1) p' ∧ PcR d x (.sl r 1 0 M.length rf) M ps i p p' := by
  obtain ⟨st, L⟩ := p
  obtain ⟨rest, pd, names, good, perm, used⟩ := hI
  simp only at rest pd names good perm used
  have hw' := rest.wf
  have hl' : st.lock = [] := rest.lock.trans hl
  have hMi := List.getElem?_eq_getElem hi
  generalize M[i] = kk at hMi
  have hdropM : M.drop i = kk :: M.drop (i + 1) := by
    obtain ⟨h1, h2⟩ := List.getElem?_eq_some_iff.1 hMi
    rw [← h2]; exact List.drop_eq_getElem_cons h1
  have htakeM : M.take (i + 1) = M.take i ++ [kk] := by rw [List.take_add_one, hMi]; rfl
  rw [hdropM] at perm
  obtain ⟨f, hfm, hfk⟩ := List.mem_map.1 (perm.mem_iff.2 (List.mem_append_right _ (List.mem_cons_self ..)))
  obtain ⟨j, hj⟩ := List.getElem?_of_mem hfm
  have hndL : (L.map PF.name).Nodup := by rw [names]; exact hnd
  have hfind := find_nodup hndL hj
  have hjk : (L.map keyP)[j]? = some kk := by rw [List.getElem?_map, hj]; simp only [Option.map_some, hfk]
  have hname : kk.1 = f.name := by rw [← hfk]; rfl
  obtain ⟨g1, g2, g3⟩ := good f hfm
  obtain ⟨c1, c2⟩ := crL_snoc ps kk (M.take i) 0
  have hkle := crN_le ps (M.take i) 0
  rw [← htakeM] at c1 c2
  have hk1 : crN ps 0 (M.take i) ≤ 100000 := by
    have : (M.take i).length ≤ M.length := by simp; omega
    omega
  have hin : ∀ {T : Tm}, pcIn d x (.sl r 1 0 M.length rf) M ps i T → ∀ p ∈ pcT d x (crN ps 0 (M.take i)) (.sl r 1 0 M.length rf) M.length i, T.get p.1 = p.2 := fun {T} ⟨_, t, hG⟩ => by
    simp only [GP, List.cons.injEq, and_true] at hG
    exact conz hG.1 (conz hG.2.1 (conz hG.2.2.1 (conz hG.2.2.2.2.1 (conz hG.2.2.2.2.2.1 (one hG.2.2.2.2.2.2)))))
  have hout : ∀ {T' : Tm} {k' : Nat}, T'.n = 76 → GP T' = [.ptr d 0, x, i64 k', .undef, .sl r 1 0 M.length rf, i64 M.length, i64 ((i + 1 : Nat) : Int)] → k' = crN ps 0 (M.take (i + 1)) → pcIn d x (.sl r 1 0 M.length rf) M ps (i + 1) T' := fun {T' k'} h1 h2 h3 => ⟨h1, .undef, by rw [h2, h3]⟩
  generalize hkk : crN ps 0 (M.take i) = k at *
  have hr' : st.get r = some (.row (M.map fun k => str k.1) 9) := PD.other hp0 rest hr (by decide)
  obtain ⟨bs, c, hm⟩ := pd.map
  have onm : obL st 9 (.ptr r (0 + i * 1)) (str f.name) := ⟨load_row hr' (p9 (by rw [Nat.zero_add, Nat.mul_one, List.getElem?_map, hMi, ← hname]; rfl)), rfl⟩
  have omp : obL st 105 (.ptr d 0) (.mp m) := ⟨load_row pd.row (p101 rfl), rfl⟩
  have olk : obK st m f.name false (.agg [f.dv, i64 f.last]) := ⟨lookup_hit hm hfind hj false, rfl⟩
  obtain ⟨s1, a1, a2, a3, a4⟩ := local_ok hw' hl' f.dv (i64 f.last)
  have odv : obL s1 22 (.ptr st.next 0) f.dv := ⟨load_row a2 (p28 rfl), rfl⟩
  have ola : obL s1 3 (.ptr st.next 1) (i64 f.last) := ⟨load_row a2 (p3 rfl), rfl⟩
  have hsub : i64 (subN (f.bytes.length : Int) f.last) = i64 ((f.bytes.length : Int) - f.last) := by
    unfold big at g3
    rw [subN_eq _ _ (by omega)]
  have hH : (pcH d m r M.length i f.name (.agg [f.dv, i64 f.last]) f.dv f.bytes.length f.last ((f.bytes.length : Int) - f.last) st s1).ok := by
    unfold pcH
    simp only [Ob.ok_cons, Ob.ok_nil, and_true]
    exact ⟨lt_T (by omega), by omega, onm, omp, olk, a1, odv, ola, hsub⟩
  have hadd : i64 (addN i 1) = i64 ((i + 1 : Nat) : Int) := by rw [addN_eq _ _ (by omega)]; rfl
  have l1 : s1.lock = [] := a3.lock.trans hl'
  have pd1 : PDs s1 d m { s with L := L } := PD.rest pd a3
  by_cases he : f.bytes.drop f.last = []
  · have hlen : f.bytes.length = f.last := by
      have : (f.bytes.drop f.last).length = 0 := by rw [he]; rfl
      rw [List.length_drop] at this; omega
    have ec : crK ps k kk = (kk, k) := by unfold crK; rw [if_pos (by rw [← hfk]; exact he)]
    rw [ec] at c1 c2
    have hy : bo (eqN ((f.bytes.length : Int) - f.last) 0) = TT := ob_T (by rw [eqN_eq, beq_iff_eq]; omega)
    refine ⟨(s1, L), ⟨rest.trans (a3.weak (by simp)), pd1, names, good, ?_, used⟩, fun T hT => ?_⟩
    · show (L.map keyP).Perm _
      rw [c1, List.append_assoc]; exact perm
    · rcases g1 with ⟨h1, h2⟩ | ⟨fl, h2⟩
      · have e0 : (f.bytes.length : Int) = 0 := by rw [h1]; rfl
        rw [h2, e0] at hH
        rw [e0] at hy
        refine (any_run (G := GP) (pc_skipN d m r M.length i k (i + 1) rf x (.agg [.nils, i64 f.last]) f.name f.last (0 - (f.last : Int)) st s1) ?_ hT.1 (hin hT)).mono fun e T' st' ⟨q1, q2, q3, q4⟩ => ⟨q1, hout q2 q3 c2.symm, q4⟩
        rw [Ob.ok_append]
        refine ⟨hH, ?_⟩
        simp only [Ob.ok_cons, Ob.ok_nil, and_true]
        exact ⟨hy, hadd⟩
      · rw [h2] at hH
        refine (any_run (G := GP) (pc_skipI d m r M.length i k (i + 1) f.bytes.length fl rf x (.agg [.imm 1 f.bytes.length fl (f.bytes.map u8), i64 f.last]) (f.bytes.map u8) f.name f.last ((f.bytes.length : Int) - f.last) st s1) ?_ hT.1 (hin hT)).mono fun e T' st' ⟨q1, q2, q3, q4⟩ => ⟨q1, hout q2 q3 c2.symm, q4⟩
        rw [Ob.ok_append]
        refine ⟨hH, ?_⟩
        simp only [Ob.ok_cons, Ob.ok_nil, and_true]
        exact ⟨hy, hadd⟩
  · have hpos : f.last < f.bytes.length := by
      have : 0 < (f.bytes.drop f.last).length := List.length_pos_iff.2 he
      rw [List.length_drop] at this; omega
    obtain ⟨fl, hdv⟩ : ∃ fl, f.dv = .imm 1 f.bytes.length fl (f.bytes.map u8) := by
      rcases g1 with ⟨h, _⟩ | h
      · rw [h] at hpos; simp at hpos
      · exact h
    have hlen : (f.bytes.drop f.last).length = f.bytes.length - f.last := List.length_drop ..
    have ec : crK ps k kk = ((f.name, f.bytes.take f.last ++ (f.bytes.drop f.last).take (pk ps k (f.bytes.drop f.last).length), []), k + 1) := by
      unfold crK
      rw [← hfk, if_neg (show ¬ (keyP f).2.2 = [] from he)]; rfl
    rw [ec] at c1 c2
    have hwl : pk ps k (f.bytes.drop f.last).length ≤ (f.bytes.drop f.last).length := by
      unfold pk
      split
      · exact Nat.lt_succ_iff.1 (Nat.mod_lt _ (by omega))
      · omega
    generalize hwe : pk ps k (f.bytes.drop f.last).length = w at *
    have hwb : f.last + w ≤ f.bytes.length := by omega
    obtain ⟨g2', hsl⟩ := slice3 (st := s1) (fl := fl) hwb
    have hdv2c : avCells (.imm 1 (f.last + w) g2' ((f.bytes.take (f.last + w)).map u8)) = some [.imm 1 (f.last + w) g2' ((f.bytes.take (f.last + w)).map u8)] := rfl
    have t1 := store28 a2 l1 hdv2c
    have gA : (s1.set st.next (.row [.imm 1 (f.last + w) g2' ((f.bytes.take (f.last + w)).map u8), i64 f.last] 104)).get st.next = some (.row [.imm 1 (f.last + w) g2' ((f.bytes.take (f.last + w)).map u8), i64 f.last] 104) := by rw [St.get_set, if_pos rfl]
    have R2 : Rest st (s1.set st.next (.row [.imm 1 (f.last + w) g2' ((f.bytes.take (f.last + w)).map u8), i64 f.last] 104)) [] := a3.old (Rest.set a3.wf (a3.wf _ _ a2) _ (S := [st.next]) (by simp)) (by simp) hw'
    have lA : (s1.set st.next (.row [.imm 1 (f.last + w) g2' ((f.bytes.take (f.last + w)).map u8), i64 f.last] 104)).lock = [] := l1
    generalize s1.set st.next (.row [.imm 1 (f.last + w) g2' ((f.bytes.take (f.last + w)).map u8), i64 f.last] 104) = s2 at *
    have t2 := st105 gA lA ((f.last + w : Nat) : Int)
    have gB : (s2.set st.next (.row [.imm 1 (f.last + w) g2' ((f.bytes.take (f.last + w)).map u8), i64 ((f.last + w : Nat) : Int)] 104)).get st.next = some (.row [.imm 1 (f.last + w) g2' ((f.bytes.take (f.last + w)).map u8), i64 ((f.last + w : Nat) : Int)] 104) := by rw [St.get_set, if_pos rfl]
    have R3 : Rest st (s2.set st.next (.row [.imm 1 (f.last + w) g2' ((f.bytes.take (f.last + w)).map u8), i64 ((f.last + w : Nat) : Int)] 104)) [] := R2.old (Rest.set R2.wf (R2.wf _ _ gA) _ (S := [st.next]) (by simp)) (by simp) hw'
    have lB : (s2.set st.next (.row [.imm 1 (f.last + w) g2' ((f.bytes.take (f.last + w)).map u8), i64 ((f.last + w : Nat) : Int)] 104)).lock = [] := lA
    generalize s2.set st.next (.row [.imm 1 (f.last + w) g2' ((f.bytes.take (f.last + w)).map u8), i64 ((f.last + w : Nat) : Int)] 104) = s3 at *
    obtain ⟨s4, u1, u2, u3⟩ := upd_ok (PD.rest pd R3) R3.wf lB ⟨f.name, .imm 1 (f.last + w) g2' ((f.bytes.take (f.last + w)).map u8), f.bytes.take (f.last + w), f.last + w⟩ (a := st.next) gB
    have hput : putL L ⟨f.name, .imm 1 (f.last + w) g2' ((f.bytes.take (f.last + w)).map u8), f.bytes.take (f.last + w), f.last + w⟩ = L.set j ⟨f.name, .imm 1 (f.last + w) g2' ((f.bytes.take (f.last + w)).map u8), f.bytes.take (f.last + w), f.last + w⟩ := putL_hit hfind
    simp only at u2
    rw [hput] at u2
    have hO : (pcO d m (k + 1) (i + 1) st.next f.name f.dv (.imm 1 (f.last + w) g2' ((f.bytes.take (f.last + w)).map u8)) (.agg [.imm 1 (f.last + w) g2' ((f.bytes.take (f.last + w)).map u8), i64 ((f.last + w : Nat) : Int)]) (f.last + w) k i f.last w ((f.last + w : Nat) : Int) s1 s2 s3 s4).ok := by
      unfold big at g3
      unfold pcO
      rw [Ob.ok_append, Ob.ok_append]
      refine ⟨⟨?_, u1⟩, ?_⟩
      · simp only [Ob.ok_cons, Ob.ok_nil, and_true]
        have hsum : i64 (addN f.last w) = i64 ((f.last + w : Nat) : Int) := by rw [addN_eq _ _ (by omega)]; norm_cast
        exact ⟨by rw [addN_eq _ _ (by omega)]; rfl, odv, ola, hsum, ola, hsum, by rw [hdv]; exact hsl, t1, ⟨load_row gA (p28 rfl), rfl⟩, t2⟩
      · simp only [Ob.ok_cons, Ob.ok_nil, and_true]
        exact hadd
    have hy : bo (eqN ((f.bytes.length : Int) - f.last) 0) = FF := ob_F (by rw [eqN_eq, beq_eq_false_iff_ne]; omega)
    refine ⟨(s4, L.set j ⟨f.name, .imm 1 (f.last + w) g2' ((f.bytes.take (f.last + w)).map u8), f.bytes.take (f.last + w), f.last + w⟩), ⟨(rest.trans (R3.weak (by simp))).trans u3, u2, ?_, ?_, ?_, ?_⟩, fun T hT => ?_⟩
    · rw [List.map_set, names, ← names]
      refine List.ext_getElem? fun n => ?_
      rw [List.getElem?_set]
      split
      · rename_i e
        subst e
        split
        · rw [List.getElem?_map, hj]; rfl
        · rename_i h
          rw [List.getElem?_eq_none (by omega)]
      · rfl
    · intro h hm
      rcases List.mem_or_eq_of_mem_set hm with hm | rfl
      · exact good h hm
      · have hl2 : (f.bytes.take (f.last + w)).length = f.last + w := by rw [List.length_take, Nat.min_eq_left hwb]
        exact ⟨.inr ⟨g2', by simp only [hl2]⟩, by simp only [hl2]; omega, by simp only [hl2]; omega⟩
    · show ((L.set j _).map keyP).Perm _
      rw [List.map_set, c1, List.append_assoc]
      have hkp : keyP ⟨f.name, .imm 1 (f.last + w) g2' ((f.bytes.take (f.last + w)).map u8), f.bytes.take (f.last + w), f.last + w⟩ = (f.name, f.bytes.take f.last ++ (f.bytes.drop f.last).take w, []) := by
        simp only [keyP, List.take_take, Nat.min_self, List.drop_take, Nat.sub_self, List.take_zero]
        rw [List.take_add]
      rw [hkp]
      exact perm_set perm hjk
    · exact Nat.le_trans (usedL_set hj (by simp; omega)) used
    · rw [hdv] at hH hO
      have hxs : ArgP st x ps := by
        rcases hx with h | h | ⟨rl, gp, h, hg⟩
        · exact .inl h
        · exact .inr (.inl h)
        · exact .inr (.inr ⟨rl, gp, h, PD.other hp0 rest hg (by decide)⟩)
      have fin : ∀ {T' : Tm} {st' : St} {e : Exit}, (e = .normal ∧ T'.n = 76 ∧ GP T' = [.ptr d 0, x, i64 ((k + 1 : Nat) : Int), .undef, .sl r 1 0 M.length rf, i64 M.length, i64 ((i + 1 : Nat) : Int)] ∧ st' = s4) → e = .normal ∧ pcIn d x (.sl r 1 0 M.length rf) M ps (i + 1) T' ∧ st' = s4 := fun ⟨q1, q2, q3, q4⟩ => ⟨q1, hout q2 q3 c2.symm, q4⟩
      cases hpk : ps[k]? with
      | none =>
        have hle : ps.length ≤ k := List.getElem?_eq_none_iff.1 hpk
        have hw0 : w = 0 := by rw [← hwe]; unfold pk; rw [hpk]
        have hwI : ((w : Nat) : Int) = 0 := by rw [hw0]; rfl
        rw [hwI] at hO
        rcases hxs with ⟨h1, rfl⟩ | ⟨gp, rfl⟩ | ⟨rl, gp, rfl, hg⟩
        · refine (any_run (G := GP) (pc_noN d m r M.length i k (k + 1) (i + 1) f.bytes.length (f.last + w) fl rf g2' (.agg [.imm 1 f.bytes.length fl (f.bytes.map u8), i64 f.last]) (.agg [.imm 1 (f.last + w) g2' ((f.bytes.take (f.last + w)).map u8), i64 ((f.last + w : Nat) : Int)]) (f.bytes.map u8) ((f.bytes.take (f.last + w)).map u8) f.name f.last ((f.bytes.length : Int) - f.last) ((f.last + w : Nat) : Int) st s1 s2 s3 s4) ?_ hT.1 (hin hT)).mono fun e T' st' h => fin h
          rw [Ob.ok_append, Ob.ok_append]
          refine ⟨⟨hH, ?_⟩, hO⟩
          simp only [Ob.ok_cons, Ob.ok_nil, and_true]
          exact ⟨hy, lt_F (by omega)⟩
        · refine (any_run (G := GP) (pc_noI d m r M.length i k (k + 1) (i + 1) ps.length f.bytes.length (f.last + w) fl rf g2' gp (.agg [.imm 1 f.bytes.length fl (f.bytes.map u8), i64 f.last]) (.agg [.imm 1 (f.last + w) g2' ((f.bytes.take (f.last + w)).map u8), i64 ((f.last + w : Nat) : Int)]) (f.bytes.map u8) ((f.bytes.take (f.last + w)).map u8) (ps.map u16) f.name f.last ((f.bytes.length : Int) - f.last) ((f.last + w : Nat) : Int) st s1 s2 s3 s4) ?_ hT.1 (hin hT)).mono fun e T' st' h => fin h
          rw [Ob.ok_append, Ob.ok_append]
          refine ⟨⟨hH, ?_⟩, hO⟩
          simp only [Ob.ok_cons, Ob.ok_nil, and_true]
          exact ⟨hy, lt_F (by omega)⟩
        · refine (any_run (G := GP) (pc_noS d m r M.length i k (k + 1) (i + 1) ps.length f.bytes.length (f.last + w) rl fl rf g2' gp (.agg [.imm 1 f.bytes.length fl (f.bytes.map u8), i64 f.last]) (.agg [.imm 1 (f.last + w) g2' ((f.bytes.take (f.last + w)).map u8), i64 ((f.last + w : Nat) : Int)]) (f.bytes.map u8) ((f.bytes.take (f.last + w)).map u8) f.name f.last ((f.bytes.length : Int) - f.last) ((f.last + w : Nat) : Int) st s1 s2 s3 s4) ?_ hT.1 (hin hT)).mono fun e T' st' h => fin h
          rw [Ob.ok_append, Ob.ok_append]
          refine ⟨⟨hH, ?_⟩, hO⟩
          simp only [Ob.ok_cons, Ob.ok_nil, and_true]
          exact ⟨hy, lt_F (by omega)⟩
      | some v =>
        have hlt := (List.getElem?_eq_some_iff.1 hpk).1
        obtain ⟨hv0, hv1⟩ := hps v (List.mem_of_getElem? hpk)
        have hwv : w = v.toNat % ((f.bytes.drop f.last).length + 1) := by rw [← hwe]; unfold pk; rw [hpk]
        have hrem : remP v (((f.bytes.drop f.last).length + 1 : Nat) : Int) (i64 (w : Int)) s1 := by rw [hwv]; exact remP_ok hv0 s1
        have hl1 : i64 (addN ((f.bytes.length : Int) - f.last) 1) = i64 (((f.bytes.drop f.last).length + 1 : Nat) : Int) := by
          unfold big at g3
          rw [addN_eq _ _ (by omega), hlen]
          congr 2
          omega
        have hcv : i64 (IntKind.i64.wrap v) = i64 v := by rw [IntWalk.i64_in _ (by omega)]
        rcases hxs with ⟨h1, rfl⟩ | ⟨gp, rfl⟩ | ⟨rl, gp, rfl, hg⟩
        · rw [h1] at hlt; simp at hlt
        · refine (any_run (G := GP) (pc_pickI d m r M.length i k (k + 1) (i + 1) ps.length f.bytes.length (f.last + w) fl rf g2' gp (.agg [.imm 1 f.bytes.length fl (f.bytes.map u8), i64 f.last]) (.agg [.imm 1 (f.last + w) g2' ((f.bytes.take (f.last + w)).map u8), i64 ((f.last + w : Nat) : Int)]) (f.bytes.map u8) ((f.bytes.take (f.last + w)).map u8) (ps.map u16) f.name f.last ((f.bytes.length : Int) - f.last) ((f.last + w : Nat) : Int) v (((f.bytes.drop f.last).length + 1 : Nat) : Int) w st s1 s2 s3 s4) ?_ hT.1 (hin hT)).mono fun e T' st' h => fin h
          rw [Ob.ok_append, Ob.ok_append]
          refine ⟨⟨hH, ?_⟩, hO⟩
          simp only [Ob.ok_cons, Ob.ok_nil, and_true]
          exact ⟨hy, lt_T (by omega), by omega, ⟨load50 hpk, rfl⟩, hcv, hl1, hrem⟩
        · have hg1 := a3.keep _ _ (by simp) hg
          obtain ⟨t50, h50, h51⟩ := ty50
          refine (any_run (G := GP) (pc_pickS d m r M.length i k (k + 1) (i + 1) ps.length f.bytes.length (f.last + w) rl fl rf g2' gp (.agg [.imm 1 f.bytes.length fl (f.bytes.map u8), i64 f.last]) (.agg [.imm 1 (f.last + w) g2' ((f.bytes.take (f.last + w)).map u8), i64 ((f.last + w : Nat) : Int)]) (f.bytes.map u8) ((f.bytes.take (f.last + w)).map u8) f.name f.last ((f.bytes.length : Int) - f.last) ((f.last + w : Nat) : Int) v (((f.bytes.drop f.last).length + 1 : Nat) : Int) w st s1 s2 s3 s4) ?_ hT.1 (hin hT)).mono fun e T' st' h => fin h
          rw [Ob.ok_append, Ob.ok_append]
          refine ⟨⟨hH, ?_⟩, hO⟩
          simp only [Ob.ok_cons, Ob.ok_nil, and_true]
          exact ⟨hy, lt_T (by omega), by omega, ⟨load_row hg1 (plainT h50 h51 (by rw [Nat.zero_add, Nat.mul_one, List.getElem?_map, hpk]; rfl)), rfl⟩, hcv, hl1, hrem⟩
end
section
set_option maxRecDepth 4000
theorem pc_loop {st0 : St} {d m : Nat} {s : PS} {M : List K} {x nv : AV} {ps : List Int} {c : Nat → St × List PF} (step : ∀ i, i < M.length → PcR d x nv M ps i (c i) (c (i + 1)))
    {T : Tm} (hT : pcIn d x nv M ps 0 T) :
    AW Tryz.prog (.loop (pcP 4)) (fun ex T' st' => ex = .exit 0 ∧ T'.n = 76 ∧ T'.get 0 = .ptr d 0 ∧ st' = (c M.length).1) T (c 0).1 := by
  refine .loop (fun m T st' => ∃ i : Nat, i ≤ M.length ∧ m = M.length - i ∧ st' = (c i).1 ∧ pcIn d x nv M ps i T) M.length ⟨0, by omega, rfl, rfl, hT⟩ fun m T st' hI => ?_
  obtain ⟨i, hi, rfl, rfl, hn, t, hG⟩ := hI
  by_cases hlt : i < M.length
  · refine (step i hlt T ⟨hn, t, hG⟩).mono fun ex T' st2 ⟨he, hin', hst⟩ => ?_
    subst he
    exact ⟨M.length - (i + 1), by omega, i + 1, by omega, rfl, hst, hin'⟩
  · obtain rfl : i = M.length := by omega
    generalize crN ps 0 (M.take M.length) = k at hG
    have hG2 := hG
    simp only [GP, List.cons.injEq, and_true] at hG2
    have hT2 : ∀ p ∈ pcT d x k nv M.length M.length, T.get p.1 = p.2 := conz hG2.1 (conz hG2.2.1 (conz hG2.2.2.1 (conz hG2.2.2.2.2.1 (conz hG2.2.2.2.2.2.1 (one hG2.2.2.2.2.2.2)))))
    refine (any_run (G := GP) (pc_end d M.length M.length k x nv (c M.length).1) (by simp only [Ob.ok_cons, Ob.ok_nil, and_true]; exact lt_F (by omega)) hn hT2).mono fun ex T' st2 ⟨he, hn', hF, hst⟩ => ?_
    subst he
    simp only [GP, List.cons.injEq, and_true] at hF
    exact ⟨rfl, hn', hF.1, hst⟩
theorem pc_end_ok {st : St} {d m : Nat} {s : PS} (hp : PDs st d m s) (hw : st.wf) (hl : st.lock = []) : ∃ s1 s2, storeA E0 st 3 (.ptr d 2) (i64 0) = some s1 ∧ storeA E0 s1 4 (.ptr d 3) FF = some s2 ∧ PDs s2 d m ⟨s.L, s.q, 0, false⟩ ∧ Rest st s2 [d, m] := by
  have hd := hw _ _ hp.row
  have hs1 := storeN hp.row hl 0
  have g1 : (st.set d (.row [.mp m, i64 s.q, i64 0, bo s.off] 107)).get d = some (.row [.mp m, i64 s.q, i64 0, bo s.off] 107) := by rw [St.get_set, if_pos rfl]
  have hs2 := storeB g1 (by simpa using hl) false
  obtain ⟨bs, c, hm⟩ := hp.map
  have hne := hp.ne
  have R1 : Rest st (st.set d (.row [.mp m, i64 s.q, i64 0, bo s.off] 107)) [d, m] := Rest.set hw hd _ (by simp)
  refine ⟨_, _, hs1, hs2, ⟨by rw [St.get_set, if_pos rfl], bs, c, ?_⟩, R1.trans (Rest.set R1.wf (R1.wf _ _ g1) _ (by simp))⟩
  rw [St.get_set, if_neg (fun e => hne e.symm), St.get_set, if_neg (fun e => hne e.symm)]; exact hm
theorem crash_ok {st : St} {d m : Nat} {s : PS} (hp : PDs st d m s) (hw : st.wf) (hl : st.lock = []) (hgd : ∀ f ∈ s.L, DV f ∧ f.last ≤ f.bytes.length ∧ f.bytes.length ≤ big) {M : List K} (hperm : (s.L.map keyP).Perm M) (ho : Ord (M.map (·.1))) (hM : M.length ≤ 100000) (hmay : ∀ k ∈ M, mayS k.1) {x : AV} {ps : List Int} (hx : ArgP st x ps) (hps : PicksOk ps) :
    ∃ st' L', obC 22 [.ptr d 0, x] st (.tup []) st' ∧ PDs st' d m ⟨L', s.q, 0, false⟩ ∧ L'.map PF.name = s.L.map PF.name ∧ (∀ f ∈ L', DV f ∧ f.last ≤ f.bytes.length ∧ f.bytes.length ≤ big) ∧ (L'.map keyP).Perm (crL ps 0 M) ∧ usedL L' ≤ usedL s.L ∧ Rest st st' [d, m] := by
  have hpn : (s.L.map PF.name).Perm (M.map (·.1)) := by
    have := hperm.map (·.1)
    rw [List.map_map] at this
    exact this
  have hnames := names_ok hp hpn ho (by simpa using by omega) (fun n hn => by obtain ⟨k, hk, rfl⟩ := List.mem_map.1 hn; exact hmay k hk)
  have hnd : (s.L.map PF.name).Nodup := by
    have h1 : (s.L.map fun f => nb f.name).Perm ((M.map (·.1)).map nb) := by
      have := hpn.map nb
      rw [List.map_map] at this
      exact this
    have h2 : ((s.L.map PF.name).map nb).Nodup := by rw [List.map_map]; exact h1.nodup_iff.2 ho.nodup
    exact (List.pairwise_map.1 h2).imp fun h e => h (by rw [e])
  have key : ∀ nv st0, obC 56 [.ptr d 0] st nv st0 → Rest st st0 [] → ((nv = .nils ∧ M.length = 0) ∨ ∃ r rf, nv = .sl r 1 0 M.length rf ∧ st0.get r = some (.row (M.map fun k => str k.1) 9)) →
      ∃ st' L', obC 22 [.ptr d 0, x] st (.tup []) st' ∧ PDs st' d m ⟨L', s.q, 0, false⟩ ∧ L'.map PF.name = s.L.map PF.name ∧ (∀ f ∈ L', DV f ∧ f.last ≤ f.bytes.length ∧ f.bytes.length ≤ big) ∧ (L'.map keyP).Perm (crL ps 0 M) ∧ usedL L' ≤ usedL s.L ∧ Rest st st' [d, m] := by
    intro nv st0 hc hR hnv
    have hp0 : PDs st0 d m s := PD.rest hp hR
    have hl0 : st0.lock = [] := hR.lock.trans hl
    have hx0 : ArgP st0 x ps := by
      rcases hx with h | h | ⟨i, fl, h, hg⟩
      · exact .inl h
      · exact .inr (.inl h)
      · exact .inr (.inr ⟨i, fl, h, hR.keep _ _ (by simp) hg⟩)
    have init : PcI st0 d m s M ps 0 (st0, s.L) := ⟨Rest.refl hR.wf _, hp0, rfl, hgd, by simpa [crL] using hperm, Nat.le_refl _⟩
    have turn : ∀ i p, i < M.length → PcI st0 d m s M ps i p → ∃ p', PcI st0 d m s M ps (i + 1) p' ∧ PcR d x nv M ps i p p' := fun i p hi hI => by
      rcases hnv with ⟨_, h0⟩ | ⟨r, rf, rfl, hr⟩
      · omega
      · exact pc_step hl0 hp0 hnd hr hx0 hps hM i p hi hI
    obtain ⟨c, c0, inv, step⟩ := chain_seq (PcI st0 d m s M ps) (PcR d x nv M ps) M.length (st0, s.L) init turn
    have hend := inv M.length (Nat.le_refl _)
    have l1 : (c M.length).1.lock = [] := hend.rest.lock.trans hl0
    obtain ⟨s1, s2, e1, e2, e3, e4⟩ := pc_end_ok hend.pd hend.rest.wf l1
    refine ⟨s2, (c M.length).2, ?_, e3, hend.names, hend.good, ?_, hend.used, ((hR.weak (by simp)).trans hend.rest).trans e4⟩
    · refine ACalls.body (E := E0) hE Tryz.func22 body30 ?_
      refine .seq (.seq ((any_run (G := GP) (pc_0 d x st) Ob.ok_nil rfl (conz rfl (one rfl))).mono fun e T1 t1 ⟨he, n1, F1, hst⟩ => ?_))
      subst he; subst hst
      simp only [GP, List.cons.injEq, and_true] at F1
      simp only [thenA]
      refine (any_run (G := GP) (pc_1 d x t1) Ob.ok_nil n1 (conz F1.1 (conz F1.2.1 (one F1.2.2.2.1)))).mono fun e T2 t2 ⟨he, n2, F2, hst⟩ => ?_
      subst he; subst hst
      simp only [GP, List.cons.injEq, and_true] at F2
      simp only [thenA]
      refine .seq ((any_run (G := GP) (pc_2 d x t2) Ob.ok_nil n2 (conz F2.1 (one F2.2.1))).mono fun e T3 t3 ⟨he, n3, F3, hst⟩ => ?_)
      subst he; subst hst
      simp only [GP, List.cons.injEq, and_true] at F3
      simp only [thenA]
      have h3 : AW Tryz.prog (pcP 3) (fun ex T' st' => ex = .normal ∧ T'.n = 76 ∧ GP T' = [.ptr d 0, x, i64 0, .undef, nv, i64 M.length, i64 0] ∧ st' = st0) T3 t3 := by
        rcases hnv with ⟨rfl, h0⟩ | ⟨r, rf, rfl, _⟩
        · rw [h0]
          exact any_run (G := GP) (pc_3N d x t3 st0) (by simp only [Ob.ok_cons, Ob.ok_nil, and_true]; exact hc) n3 (conz F3.1 (conz F3.2.1 (one F3.2.2.1)))
        · exact any_run (G := GP) (pc_3S d r M.length rf x t3 st0) (by simp only [Ob.ok_cons, Ob.ok_nil, and_true]; exact hc) n3 (conz F3.1 (conz F3.2.1 (one F3.2.2.1)))
      refine .seq (.seq (h3.mono fun e T4 t4 ⟨he, n4, F4, hst⟩ => ?_))
      subst he; subst hst
      simp only [thenA]
      have hs : t4 = (c 0).1 := by rw [c0]
      rw [hs]
      refine .block ((pc_loop (st0 := t4) (m := m) (s := s) step ⟨n4, _, F4⟩).mono fun e T5 t5 ⟨he, n5, h0, hst⟩ => ?_)
      subst he
      simp only [blockA, if_true, thenA]
      rw [hst]
      refine (any_run (G := GP) (pc_5 d (c M.length).1 s1 s2) (by simp only [Ob.ok_cons, Ob.ok_nil, and_true]; exact ⟨e1, e2⟩) n5 (one h0)).mono fun e T6 t6 ⟨he, n6, F6, hst'⟩ => ?_
      subst he; subst hst'
      exact ⟨[], rfl, rfl, rfl⟩
    · have := hend.perm
      rwa [List.take_length, List.drop_length, List.append_nil] at this
  refine key _ _ hnames ?_ ?_
  · cases M with
    | nil => exact Rest.refl hw _
    | cons a r => exact Rest.push hw _ _
  · cases M with
    | nil => exact .inl ⟨rfl, rfl⟩
    | cons a r => exact .inr ⟨st.next, false, by simp [namesV], by simp only [List.map_cons, namesS]; rw [St.get_push, if_pos rfl, List.map_map]; rfl⟩
end
section
set_option maxRecDepth 4000
/-- what runs at the empty store, with values alone, runs at each -/
theorem small_val {f : Nat} {args : List AV} {r : AV} {N : Nat} (h : ACalls Tryz.prog f args (fun a s => a = r ∧ s = ⟨N, .nil, [], []⟩) st00) (ha : ∀ ρ, renL ρ args = args) (hr : ∀ ρ, ren ρ r = r) {st : St} (hw : st.wf) : ∃ st', obC f args st r st' ∧ Rest st st' [] := by
  have hE : Emb st00 st (fun i => st.next + i) :=
    ⟨fun i hi => by show st.next + i = st.next + (i - 0); rfl, fun i hi => absurd hi (Nat.not_lt_zero i), fun i j o o' h => by simp [st00, St.get, Tr.get] at h, fun id o h => by simp [st00, St.get, Tr.get] at h, fun id o h => by simp [st00, St.get, Tr.get] at h, fun id o h => by simp [st00, St.get, Tr.get] at h, fun p hp => by cases hp⟩
  have hfr := h.frame hE
  rw [ha] at hfr
  have hnone : ∀ k, (⟨N, .nil, [], []⟩ : St).get k = none := fun k => by simp [St.get, Tr.get]
  refine ⟨mergeSt ⟨N, .nil, [], []⟩ st st00 (fun i => st.next + i), hfr.mono fun a s hq => ?_, ⟨fun i o _ ho => ?_, Nat.le_add_right _ _, rfl, rfl, fun i o hi => ?_⟩⟩
  · obtain ⟨r0, st0', ⟨h1, h2⟩, h3, h4, _, _⟩ := hq
    subst h1; subst h2
    exact ⟨by rw [h3, hr], h4⟩
  · have hlt := hw _ _ ho
    rw [merge_out hE (k := i) fun j _ _ e => by have e : st.next + j = i := e; omega]
    exact ho
  · show i < st.next + (N - 0)
    rcases merge_cases hE hi with ⟨j, o0, _, _, h3, _⟩ | ⟨h1, _⟩
    · rw [hnone] at h3; cases h3
    · have := hw _ _ h1; omega
noncomputable def cloEv (f : Nat) (args : List AV) : Option (AV × List Nat × List (Nat × List AV)) := (evCall E0 ovF 100000 f args st00).map fun q => (q.1, q.2.lock, q.2.gl)
theorem closed_val {f : Nat} {args : List AV} {r : AV} (h : cloEv f args = some (r, [], [])) (ha : ∀ ρ, renL ρ args = args) (hr : ∀ ρ, ren ρ r = r) {st : St} (hw : st.wf) : ∃ st', obC f args st r st' ∧ Rest st st' [] := by
  obtain ⟨⟨a, s⟩, h1, h2⟩ := Option.map_eq_some_iff.1 h
  simp only [Prod.mk.injEq] at h2
  obtain ⟨rfl, hk, hg⟩ := h2
  refine small_val (N := s.next) ((((ev_ok (envOf_ok (P := Tryz.prog) rfl) ovF_ok 100000).call f args st00 _ h1)).forget fun a' s' e _ => ?_) ha hr hw
  cases e
  exact ⟨⟨s.next, .nil, [], []⟩, ⟨rfl, rfl⟩, fun i o hi => by simp [St.get, Tr.get] at hi, rfl, hk.symm, hg.symm⟩
/-- the name of a segment of one digit -/
def nmB (k : Nat) : List UInt8 := [119, 97, 108, 45, 48, 48, 48, 48, 48, 48, 48, UInt8.ofNat (48 + k)]
def nm (k : Nat) : ByteArray := ⟨(nmB k).toArray⟩
theorem name_all : ∀ k : Fin 9, cloEv 5 [i64 (k.val + 1 : Nat)] = some (.tup [str (nm (k.val + 1)), i64 0], [], [])
  | 0 => by kernel_rfl
  | 1 => by kernel_rfl
  | 2 => by kernel_rfl
  | 3 => by kernel_rfl
  | 4 => by kernel_rfl
  | 5 => by kernel_rfl
  | 6 => by kernel_rfl
  | 7 => by kernel_rfl
  | 8 => by kernel_rfl
theorem number_all : ∀ k : Fin 9, cloEv 71 [str (nm (k.val + 1))] = some (i64 (k.val + 1 : Nat), [], [])
  | 0 => by kernel_rfl
  | 1 => by kernel_rfl
  | 2 => by kernel_rfl
  | 3 => by kernel_rfl
  | 4 => by kernel_rfl
  | 5 => by kernel_rfl
  | 6 => by kernel_rfl
  | 7 => by kernel_rfl
  | 8 => by kernel_rfl
theorem name_ok {k : Nat} (h : 1 ≤ k ∧ k ≤ 9) {st : St} (hw : st.wf) : ∃ st', obC 5 [i64 k] st (.tup [str (nm k), i64 0]) st' ∧ Rest st st' [] := by
  have := name_all ⟨k - 1, by omega⟩
  rw [show (k - 1 + 1) = k by omega] at this
  exact closed_val this (fun _ => rfl) (fun _ => rfl) hw
theorem number_ok {k : Nat} (h : 1 ≤ k ∧ k ≤ 9) {st : St} (hw : st.wf) : ∃ st', obC 71 [str (nm k)] st (i64 k) st' ∧ Rest st st' [] := by
  have := number_all ⟨k - 1, by omega⟩
  rw [show (k - 1 + 1) = k by omega] at this
  exact closed_val this (fun _ => rfl) (fun _ => rfl) hw
end
section
set_option maxRecDepth 100000
theorem f18_T_e (st : St) (w p11 : Nat) (n17 : Int) : evCallS Tryz.prog E0 noOv (fun _ => [2011, 2017, 2023, 2030, 6005, 6052, 7018]) 100000 18 [(.ptr w 0)] st [.eff (.ptr p11 0) id, .eff (i64 n17) id, .av TT] = some ((i64 0), st, [], [loadA E0 st 38 (.ptr w 0) = some (.ptr p11 0) ∧ st = st, loadA E0 st 3 (.ptr w 2) = some (i64 n17) ∧ st = st, binA E0 .eql 3 (i64 n17) (i64 0) = some TT]) := by kernel_rfl
theorem f18_T {st : St} {w p11 : Nat} {n17 : Int} (h1 : loadA E0 st 38 (.ptr w 0) = some (.ptr p11 0)) (h2 : loadA E0 st 3 (.ptr w 2) = some (i64 n17)) (h3 : binA E0 .eql 3 (i64 n17) (i64 0) = some TT) : obC 18 [(.ptr w 0)] st (i64 0) st := ACalls.run hE noOv_ok (f18_T_e st w p11 n17) (Ob.ok_cons.2 ⟨⟨h1, rfl⟩, (Ob.ok_cons.2 ⟨⟨h2, rfl⟩, (Ob.ok_cons.2 ⟨h3, Ob.ok_nil⟩)⟩)⟩)
theorem f18_F_e (st s1 s2 : St) (w p11 p30 : Nat) (n17 n23 n24b n32 : Int) (w24a : ByteArray) : evCallS Tryz.prog E0 noOv (fun _ => [2011, 2017, 2023, 2030, 6005, 6052, 7018]) 100000 18 [(.ptr w 0)] st [.eff (.ptr p11 0) id, .eff (i64 n17) id, .av FF, .eff (i64 n23) id, .eff (.tup [(str w24a), (i64 n24b)]) (fun _ => s1), .eff (.ptr p30 0) id, .eff (i64 n32) (fun _ => s2)] = some ((i64 n32), s2, [], [loadA E0 st 38 (.ptr w 0) = some (.ptr p11 0) ∧ st = st, loadA E0 st 3 (.ptr w 2) = some (i64 n17) ∧ st = st, binA E0 .eql 3 (i64 n17) (i64 0) = some FF, loadA E0 st 3 (.ptr w 2) = some (i64 n23) ∧ st = st, obC 5 [(i64 n23)] st (.tup [(str w24a), (i64 n24b)]) s1, loadA E0 s1 38 (.ptr w 0) = some (.ptr p30 0) ∧ s1 = s1, obC 52 [(.ptr p30 0), (str w24a)] s1 (i64 n32) s2]) := by kernel_rfl
theorem f18_F {st s1 s2 : St} {w p11 p30 : Nat} {n17 n23 n24b n32 : Int} {w24a : ByteArray} (h1 : loadA E0 st 38 (.ptr w 0) = some (.ptr p11 0)) (h2 : loadA E0 st 3 (.ptr w 2) = some (i64 n17)) (h3 : binA E0 .eql 3 (i64 n17) (i64 0) = some FF) (h4 : loadA E0 st 3 (.ptr w 2) = some (i64 n23)) (h5 : obC 5 [(i64 n23)] st (.tup [(str w24a), (i64 n24b)]) s1) (h6 : loadA E0 s1 38 (.ptr w 0) = some (.ptr p30 0)) (h7 : obC 52 [(.ptr p30 0), (str w24a)] s1 (i64 n32) s2) : obC 18 [(.ptr w 0)] st (i64 n32) s2 := ACalls.run hE noOv_ok (f18_F_e st s1 s2 w p11 p30 n17 n23 n24b n32 w24a) (Ob.ok_cons.2 ⟨⟨h1, rfl⟩, (Ob.ok_cons.2 ⟨⟨h2, rfl⟩, (Ob.ok_cons.2 ⟨h3, (Ob.ok_cons.2 ⟨⟨h4, rfl⟩, (Ob.ok_cons.2 ⟨h5, (Ob.ok_cons.2 ⟨⟨h6, rfl⟩, (Ob.ok_cons.2 ⟨h7, Ob.ok_nil⟩)⟩)⟩)⟩)⟩)⟩)⟩)
theorem f51_T_e (st s1 : St) (w : Nat) (n10 n11b : Int) (w11a : ByteArray) : evCallS Tryz.prog E0 noOv (fun _ => [2010, 2019, 2030, 2038, 5000, 6005, 6030, 7015, 7023, 7039]) 100000 51 [(.ptr w 0)] st [.eff (i64 n10) id, .eff (.tup [(str w11a), (i64 n11b)]) (fun _ => s1), .av TT] = some ((i64 7), s1, [], [loadA E0 st 3 (.ptr w 1) = some (i64 n10) ∧ st = st, obC 5 [(i64 n10)] st (.tup [(str w11a), (i64 n11b)]) s1, binA E0 .neq 23 (i64 n11b) (i64 0) = some TT]) := by kernel_rfl
theorem f51_T {st s1 : St} {w : Nat} {n10 n11b : Int} {w11a : ByteArray} (h1 : loadA E0 st 3 (.ptr w 1) = some (i64 n10)) (h2 : obC 5 [(i64 n10)] st (.tup [(str w11a), (i64 n11b)]) s1) (h3 : binA E0 .neq 23 (i64 n11b) (i64 0) = some TT) : obC 51 [(.ptr w 0)] st (i64 7) s1 := ACalls.run hE noOv_ok (f51_T_e st s1 w n10 n11b w11a) (Ob.ok_cons.2 ⟨⟨h1, rfl⟩, (Ob.ok_cons.2 ⟨h2, (Ob.ok_cons.2 ⟨h3, Ob.ok_nil⟩)⟩)⟩)
theorem f51_FT_e (st s1 s2 : St) (w p19 : Nat) (n10 n11b n21 : Int) (w11a : ByteArray) : evCallS Tryz.prog E0 noOv (fun _ => [2010, 2019, 2030, 2038, 5000, 6005, 6030, 7015, 7023, 7039]) 100000 51 [(.ptr w 0)] st [.eff (i64 n10) id, .eff (.tup [(str w11a), (i64 n11b)]) (fun _ => s1), .av FF, .eff (.ptr p19 0) id, .eff (i64 n21) (fun _ => s2), .av TT] = some ((i64 n21), s2, [], [loadA E0 st 3 (.ptr w 1) = some (i64 n10) ∧ st = st, obC 5 [(i64 n10)] st (.tup [(str w11a), (i64 n11b)]) s1, binA E0 .neq 23 (i64 n11b) (i64 0) = some FF, loadA E0 s1 38 (.ptr w 0) = some (.ptr p19 0) ∧ s1 = s1, obC 30 [(.ptr p19 0), (str w11a)] s1 (i64 n21) s2, binA E0 .neq 23 (i64 n21) (i64 0) = some TT]) := by kernel_rfl
theorem f51_FT {st s1 s2 : St} {w p19 : Nat} {n10 n11b n21 : Int} {w11a : ByteArray} (h1 : loadA E0 st 3 (.ptr w 1) = some (i64 n10)) (h2 : obC 5 [(i64 n10)] st (.tup [(str w11a), (i64 n11b)]) s1) (h3 : binA E0 .neq 23 (i64 n11b) (i64 0) = some FF) (h4 : loadA E0 s1 38 (.ptr w 0) = some (.ptr p19 0)) (h5 : obC 30 [(.ptr p19 0), (str w11a)] s1 (i64 n21) s2) (h6 : binA E0 .neq 23 (i64 n21) (i64 0) = some TT) : obC 51 [(.ptr w 0)] st (i64 n21) s2 := ACalls.run hE noOv_ok (f51_FT_e st s1 s2 w p19 n10 n11b n21 w11a) (Ob.ok_cons.2 ⟨⟨h1, rfl⟩, (Ob.ok_cons.2 ⟨h2, (Ob.ok_cons.2 ⟨h3, (Ob.ok_cons.2 ⟨⟨h4, rfl⟩, (Ob.ok_cons.2 ⟨h5, (Ob.ok_cons.2 ⟨h6, Ob.ok_nil⟩)⟩)⟩)⟩)⟩)⟩)
theorem f51_FF_e (st s1 s2 s3 s4 s5 : St) (w p19 : Nat) (n10 n11b n21 n30 n38 n39 : Int) (w11a : ByteArray) : evCallS Tryz.prog E0 noOv (fun _ => [2010, 2019, 2030, 2038, 5000, 6005, 6030, 7015, 7023, 7039]) 100000 51 [(.ptr w 0)] st [.eff (i64 n10) id, .eff (.tup [(str w11a), (i64 n11b)]) (fun _ => s1), .av FF, .eff (.ptr p19 0) id, .eff (i64 n21) (fun _ => s2), .av FF, .eff (i64 n30) id, .eff .undef (fun _ => s3), .eff .undef (fun _ => s4), .eff (i64 n38) id, .av (i64 n39), .eff .undef (fun _ => s5)] = some ((i64 0), s5, [], [loadA E0 st 3 (.ptr w 1) = some (i64 n10) ∧ st = st, obC 5 [(i64 n10)] st (.tup [(str w11a), (i64 n11b)]) s1, binA E0 .neq 23 (i64 n11b) (i64 0) = some FF, loadA E0 s1 38 (.ptr w 0) = some (.ptr p19 0) ∧ s1 = s1, obC 30 [(.ptr p19 0), (str w11a)] s1 (i64 n21) s2, binA E0 .neq 23 (i64 n21) (i64 0) = some FF, loadA E0 s2 3 (.ptr w 1) = some (i64 n30) ∧ s2 = s2, storeA E0 s2 3 (.ptr w 2) (i64 n30) = some s3, storeA E0 s3 3 (.ptr w 3) (i64 0) = some s4, loadA E0 s4 3 (.ptr w 1) = some (i64 n38) ∧ s4 = s4, binA E0 .add 3 (i64 n38) (i64 1) = some (i64 n39), storeA E0 s4 3 (.ptr w 1) (i64 n39) = some s5]) := by kernel_rfl
theorem f51_FF {st s1 s2 s3 s4 s5 : St} {w p19 : Nat} {n10 n11b n21 n30 n38 n39 : Int} {w11a : ByteArray} (h1 : loadA E0 st 3 (.ptr w 1) = some (i64 n10)) (h2 : obC 5 [(i64 n10)] st (.tup [(str w11a), (i64 n11b)]) s1) (h3 : binA E0 .neq 23 (i64 n11b) (i64 0) = some FF) (h4 : loadA E0 s1 38 (.ptr w 0) = some (.ptr p19 0)) (h5 : obC 30 [(.ptr p19 0), (str w11a)] s1 (i64 n21) s2) (h6 : binA E0 .neq 23 (i64 n21) (i64 0) = some FF) (h7 : loadA E0 s2 3 (.ptr w 1) = some (i64 n30)) (h8 : storeA E0 s2 3 (.ptr w 2) (i64 n30) = some s3) (h9 : storeA E0 s3 3 (.ptr w 3) (i64 0) = some s4) (h10 : loadA E0 s4 3 (.ptr w 1) = some (i64 n38)) (h11 : binA E0 .add 3 (i64 n38) (i64 1) = some (i64 n39)) (h12 : storeA E0 s4 3 (.ptr w 1) (i64 n39) = some s5) : obC 51 [(.ptr w 0)] st (i64 0) s5 := ACalls.run hE noOv_ok (f51_FF_e st s1 s2 s3 s4 s5 w p19 n10 n11b n21 n30 n38 n39 w11a) (Ob.ok_cons.2 ⟨⟨h1, rfl⟩, (Ob.ok_cons.2 ⟨h2, (Ob.ok_cons.2 ⟨h3, (Ob.ok_cons.2 ⟨⟨h4, rfl⟩, (Ob.ok_cons.2 ⟨h5, (Ob.ok_cons.2 ⟨h6, (Ob.ok_cons.2 ⟨⟨h7, rfl⟩, (Ob.ok_cons.2 ⟨h8, (Ob.ok_cons.2 ⟨h9, (Ob.ok_cons.2 ⟨⟨h10, rfl⟩, (Ob.ok_cons.2 ⟨h11, (Ob.ok_cons.2 ⟨h12, Ob.ok_nil⟩)⟩)⟩)⟩)⟩)⟩)⟩)⟩)⟩)⟩)⟩)⟩)
theorem f34_e (st : St) (w : Nat) (n8 : Int) : evCallS Tryz.prog E0 noOv (fun _ => [2008]) 100000 34 [(.ptr w 0)] st [.eff (i64 n8) id] = some ((i64 n8), st, [], [loadA E0 st 3 (.ptr w 1) = some (i64 n8) ∧ st = st]) := by kernel_rfl
theorem f34 {st : St} {w : Nat} {n8 : Int} (h1 : loadA E0 st 3 (.ptr w 1) = some (i64 n8)) : obC 34 [(.ptr w 0)] st (i64 n8) st := ACalls.run hE noOv_ok (f34_e st w n8) (Ob.ok_cons.2 ⟨⟨h1, rfl⟩, Ob.ok_nil⟩)
theorem f16_T_e (st s1 : St) (w p19 : Nat) (x v24a : AV) (n24b : Int) : evCallS Tryz.prog E0 noOv (fun _ => [2019, 2033, 2039, 2053, 2064, 2071, 2081, 2088, 5000, 6005, 6007, 6018, 6032, 6051, 7028, 7034, 7040, 7045, 7054, 7058, 7076, 7082]) 100000 16 [(.ptr w 0), x] st [.eff (.ptr p19 0) id, .eff (.tup [v24a, (i64 n24b)]) (fun _ => s1), .av TT] = some ((.tup [(i64 0), (i64 n24b)]), s1, [], [loadA E0 st 38 (.ptr w 0) = some (.ptr p19 0) ∧ st = st, obC 7 [x] st (.tup [v24a, (i64 n24b)]) s1, binA E0 .neq 23 (i64 n24b) (i64 0) = some TT]) := by kernel_rfl
theorem f16_T {st s1 : St} {w p19 : Nat} {x v24a : AV} {n24b : Int} (h1 : loadA E0 st 38 (.ptr w 0) = some (.ptr p19 0)) (h2 : obC 7 [x] st (.tup [v24a, (i64 n24b)]) s1) (h3 : binA E0 .neq 23 (i64 n24b) (i64 0) = some TT) : obC 16 [(.ptr w 0), x] st (.tup [(i64 0), (i64 n24b)]) s1 := ACalls.run hE noOv_ok (f16_T_e st s1 w p19 x v24a n24b) (Ob.ok_cons.2 ⟨⟨h1, rfl⟩, (Ob.ok_cons.2 ⟨h2, (Ob.ok_cons.2 ⟨h3, Ob.ok_nil⟩)⟩)⟩)
theorem f16_FTTT_e (st s1 s2 : St) (w p19 : Nat) (x v24a : AV) (n24b n33 n39 n43 : Int) : evCallS Tryz.prog E0 noOv (fun _ => [2019, 2033, 2039, 2053, 2064, 2071, 2081, 2088, 5000, 6005, 6007, 6018, 6032, 6051, 7028, 7034, 7040, 7045, 7054, 7058, 7076, 7082]) 100000 16 [(.ptr w 0), x] st [.eff (.ptr p19 0) id, .eff (.tup [v24a, (i64 n24b)]) (fun _ => s1), .av FF, .eff (i64 n33) id, .av TT, .eff (i64 n39) id, .av TT, .eff (i64 n43) (fun _ => s2), .av TT] = some ((.tup [(i64 0), (i64 n43)]), s2, [], [loadA E0 st 38 (.ptr w 0) = some (.ptr p19 0) ∧ st = st, obC 7 [x] st (.tup [v24a, (i64 n24b)]) s1, binA E0 .neq 23 (i64 n24b) (i64 0) = some FF, loadA E0 s1 3 (.ptr w 2) = some (i64 n33) ∧ s1 = s1, binA E0 .gtr 3 (i64 n33) (i64 0) = some TT, loadA E0 s1 3 (.ptr w 3) = some (i64 n39) ∧ s1 = s1, binA E0 .eql 3 (i64 n39) (i64 8) = some TT, obC 18 [(.ptr w 0)] s1 (i64 n43) s2, binA E0 .neq 23 (i64 n43) (i64 0) = some TT]) := by kernel_rfl
theorem f16_FTTT {st s1 s2 : St} {w p19 : Nat} {x v24a : AV} {n24b n33 n39 n43 : Int} (h1 : loadA E0 st 38 (.ptr w 0) = some (.ptr p19 0)) (h2 : obC 7 [x] st (.tup [v24a, (i64 n24b)]) s1) (h3 : binA E0 .neq 23 (i64 n24b) (i64 0) = some FF) (h4 : loadA E0 s1 3 (.ptr w 2) = some (i64 n33)) (h5 : binA E0 .gtr 3 (i64 n33) (i64 0) = some TT) (h6 : loadA E0 s1 3 (.ptr w 3) = some (i64 n39)) (h7 : binA E0 .eql 3 (i64 n39) (i64 8) = some TT) (h8 : obC 18 [(.ptr w 0)] s1 (i64 n43) s2) (h9 : binA E0 .neq 23 (i64 n43) (i64 0) = some TT) : obC 16 [(.ptr w 0), x] st (.tup [(i64 0), (i64 n43)]) s2 := ACalls.run hE noOv_ok (f16_FTTT_e st s1 s2 w p19 x v24a n24b n33 n39 n43) (Ob.ok_cons.2 ⟨⟨h1, rfl⟩, (Ob.ok_cons.2 ⟨h2, (Ob.ok_cons.2 ⟨h3, (Ob.ok_cons.2 ⟨⟨h4, rfl⟩, (Ob.ok_cons.2 ⟨h5, (Ob.ok_cons.2 ⟨⟨h6, rfl⟩, (Ob.ok_cons.2 ⟨h7, (Ob.ok_cons.2 ⟨h8, (Ob.ok_cons.2 ⟨h9, Ob.ok_nil⟩)⟩)⟩)⟩)⟩)⟩)⟩)⟩)⟩)
theorem f16_FTTFTT_e (st s1 s2 s3 s4 : St) (w p19 : Nat) (x v24a : AV) (n24b n33 n39 n43 n53 n56 : Int) : evCallS Tryz.prog E0 noOv (fun _ => [2019, 2033, 2039, 2053, 2064, 2071, 2081, 2088, 5000, 6005, 6007, 6018, 6032, 6051, 7028, 7034, 7040, 7045, 7054, 7058, 7076, 7082]) 100000 16 [(.ptr w 0), x] st [.eff (.ptr p19 0) id, .eff (.tup [v24a, (i64 n24b)]) (fun _ => s1), .av FF, .eff (i64 n33) id, .av TT, .eff (i64 n39) id, .av TT, .eff (i64 n43) (fun _ => s2), .av FF, .eff .undef (fun _ => s3), .eff (i64 n53) id, .av TT, .eff (i64 n56) (fun _ => s4), .av TT] = some ((.tup [(i64 0), (i64 n56)]), s4, [], [loadA E0 st 38 (.ptr w 0) = some (.ptr p19 0) ∧ st = st, obC 7 [x] st (.tup [v24a, (i64 n24b)]) s1, binA E0 .neq 23 (i64 n24b) (i64 0) = some FF, loadA E0 s1 3 (.ptr w 2) = some (i64 n33) ∧ s1 = s1, binA E0 .gtr 3 (i64 n33) (i64 0) = some TT, loadA E0 s1 3 (.ptr w 3) = some (i64 n39) ∧ s1 = s1, binA E0 .eql 3 (i64 n39) (i64 8) = some TT, obC 18 [(.ptr w 0)] s1 (i64 n43) s2, binA E0 .neq 23 (i64 n43) (i64 0) = some FF, storeA E0 s2 3 (.ptr w 2) (i64 0) = some s3, loadA E0 s3 3 (.ptr w 2) = some (i64 n53) ∧ s3 = s3, binA E0 .eql 3 (i64 n53) (i64 0) = some TT, obC 51 [(.ptr w 0)] s3 (i64 n56) s4, binA E0 .neq 23 (i64 n56) (i64 0) = some TT]) := by kernel_rfl
theorem f16_FTTFTT {st s1 s2 s3 s4 : St} {w p19 : Nat} {x v24a : AV} {n24b n33 n39 n43 n53 n56 : Int} (h1 : loadA E0 st 38 (.ptr w 0) = some (.ptr p19 0)) (h2 : obC 7 [x] st (.tup [v24a, (i64 n24b)]) s1) (h3 : binA E0 .neq 23 (i64 n24b) (i64 0) = some FF) (h4 : loadA E0 s1 3 (.ptr w 2) = some (i64 n33)) (h5 : binA E0 .gtr 3 (i64 n33) (i64 0) = some TT) (h6 : loadA E0 s1 3 (.ptr w 3) = some (i64 n39)) (h7 : binA E0 .eql 3 (i64 n39) (i64 8) = some TT) (h8 : obC 18 [(.ptr w 0)] s1 (i64 n43) s2) (h9 : binA E0 .neq 23 (i64 n43) (i64 0) = some FF) (h10 : storeA E0 s2 3 (.ptr w 2) (i64 0) = some s3) (h11 : loadA E0 s3 3 (.ptr w 2) = some (i64 n53)) (h12 : binA E0 .eql 3 (i64 n53) (i64 0) = some TT) (h13 : obC 51 [(.ptr w 0)] s3 (i64 n56) s4) (h14 : binA E0 .neq 23 (i64 n56) (i64 0) = some TT) : obC 16 [(.ptr w 0), x] st (.tup [(i64 0), (i64 n56)]) s4 := ACalls.run hE noOv_ok (f16_FTTFTT_e st s1 s2 s3 s4 w p19 x v24a n24b n33 n39 n43 n53 n56) (Ob.ok_cons.2 ⟨⟨h1, rfl⟩, (Ob.ok_cons.2 ⟨h2, (Ob.ok_cons.2 ⟨h3, (Ob.ok_cons.2 ⟨⟨h4, rfl⟩, (Ob.ok_cons.2 ⟨h5, (Ob.ok_cons.2 ⟨⟨h6, rfl⟩, (Ob.ok_cons.2 ⟨h7, (Ob.ok_cons.2 ⟨h8, (Ob.ok_cons.2 ⟨h9, (Ob.ok_cons.2 ⟨h10, (Ob.ok_cons.2 ⟨⟨h11, rfl⟩, (Ob.ok_cons.2 ⟨h12, (Ob.ok_cons.2 ⟨h13, (Ob.ok_cons.2 ⟨h14, Ob.ok_nil⟩)⟩)⟩)⟩)⟩)⟩)⟩)⟩)⟩)⟩)⟩)⟩)⟩)⟩)
theorem f16_FTTFTFT_e (st s1 s2 s3 s4 s5 s6 : St) (w p19 p71 : Nat) (x v24a : AV) (n24b n33 n39 n43 n53 n56 n64 n65b n74 : Int) (w65a : ByteArray) : evCallS Tryz.prog E0 noOv (fun _ => [2019, 2033, 2039, 2053, 2064, 2071, 2081, 2088, 5000, 6005, 6007, 6018, 6032, 6051, 7028, 7034, 7040, 7045, 7054, 7058, 7076, 7082]) 100000 16 [(.ptr w 0), x] st [.eff (.ptr p19 0) id, .eff (.tup [v24a, (i64 n24b)]) (fun _ => s1), .av FF, .eff (i64 n33) id, .av TT, .eff (i64 n39) id, .av TT, .eff (i64 n43) (fun _ => s2), .av FF, .eff .undef (fun _ => s3), .eff (i64 n53) id, .av TT, .eff (i64 n56) (fun _ => s4), .av FF, .eff (i64 n64) id, .eff (.tup [(str w65a), (i64 n65b)]) (fun _ => s5), .eff (.ptr p71 0) id, .eff (i64 n74) (fun _ => s6), .av TT] = some ((.tup [(i64 0), (i64 n74)]), s6, [], [loadA E0 st 38 (.ptr w 0) = some (.ptr p19 0) ∧ st = st, obC 7 [x] st (.tup [v24a, (i64 n24b)]) s1, binA E0 .neq 23 (i64 n24b) (i64 0) = some FF, loadA E0 s1 3 (.ptr w 2) = some (i64 n33) ∧ s1 = s1, binA E0 .gtr 3 (i64 n33) (i64 0) = some TT, loadA E0 s1 3 (.ptr w 3) = some (i64 n39) ∧ s1 = s1, binA E0 .eql 3 (i64 n39) (i64 8) = some TT, obC 18 [(.ptr w 0)] s1 (i64 n43) s2, binA E0 .neq 23 (i64 n43) (i64 0) = some FF, storeA E0 s2 3 (.ptr w 2) (i64 0) = some s3, loadA E0 s3 3 (.ptr w 2) = some (i64 n53) ∧ s3 = s3, binA E0 .eql 3 (i64 n53) (i64 0) = some TT, obC 51 [(.ptr w 0)] s3 (i64 n56) s4, binA E0 .neq 23 (i64 n56) (i64 0) = some FF, loadA E0 s4 3 (.ptr w 2) = some (i64 n64) ∧ s4 = s4, obC 5 [(i64 n64)] s4 (.tup [(str w65a), (i64 n65b)]) s5, loadA E0 s5 38 (.ptr w 0) = some (.ptr p71 0) ∧ s5 = s5, obC 32 [(.ptr p71 0), (str w65a), v24a] s5 (i64 n74) s6, binA E0 .neq 23 (i64 n74) (i64 0) = some TT]) := by kernel_rfl
theorem f16_FTTFTFT {st s1 s2 s3 s4 s5 s6 : St} {w p19 p71 : Nat} {x v24a : AV} {n24b n33 n39 n43 n53 n56 n64 n65b n74 : Int} {w65a : ByteArray} (h1 : loadA E0 st 38 (.ptr w 0) = some (.ptr p19 0)) (h2 : obC 7 [x] st (.tup [v24a, (i64 n24b)]) s1) (h3 : binA E0 .neq 23 (i64 n24b) (i64 0) = some FF) (h4 : loadA E0 s1 3 (.ptr w 2) = some (i64 n33)) (h5 : binA E0 .gtr 3 (i64 n33) (i64 0) = some TT) (h6 : loadA E0 s1 3 (.ptr w 3) = some (i64 n39)) (h7 : binA E0 .eql 3 (i64 n39) (i64 8) = some TT) (h8 : obC 18 [(.ptr w 0)] s1 (i64 n43) s2) (h9 : binA E0 .neq 23 (i64 n43) (i64 0) = some FF) (h10 : storeA E0 s2 3 (.ptr w 2) (i64 0) = some s3) (h11 : loadA E0 s3 3 (.ptr w 2) = some (i64 n53)) (h12 : binA E0 .eql 3 (i64 n53) (i64 0) = some TT) (h13 : obC 51 [(.ptr w 0)] s3 (i64 n56) s4) (h14 : binA E0 .neq 23 (i64 n56) (i64 0) = some FF) (h15 : loadA E0 s4 3 (.ptr w 2) = some (i64 n64)) (h16 : obC 5 [(i64 n64)] s4 (.tup [(str w65a), (i64 n65b)]) s5) (h17 : loadA E0 s5 38 (.ptr w 0) = some (.ptr p71 0)) (h18 : obC 32 [(.ptr p71 0), (str w65a), v24a] s5 (i64 n74) s6) (h19 : binA E0 .neq 23 (i64 n74) (i64 0) = some TT) : obC 16 [(.ptr w 0), x] st (.tup [(i64 0), (i64 n74)]) s6 := ACalls.run hE noOv_ok (f16_FTTFTFT_e st s1 s2 s3 s4 s5 s6 w p19 p71 x v24a n24b n33 n39 n43 n53 n56 n64 n65b n74 w65a) (Ob.ok_cons.2 ⟨⟨h1, rfl⟩, (Ob.ok_cons.2 ⟨h2, (Ob.ok_cons.2 ⟨h3, (Ob.ok_cons.2 ⟨⟨h4, rfl⟩, (Ob.ok_cons.2 ⟨h5, (Ob.ok_cons.2 ⟨⟨h6, rfl⟩, (Ob.ok_cons.2 ⟨h7, (Ob.ok_cons.2 ⟨h8, (Ob.ok_cons.2 ⟨h9, (Ob.ok_cons.2 ⟨h10, (Ob.ok_cons.2 ⟨⟨h11, rfl⟩, (Ob.ok_cons.2 ⟨h12, (Ob.ok_cons.2 ⟨h13, (Ob.ok_cons.2 ⟨h14, (Ob.ok_cons.2 ⟨⟨h15, rfl⟩, (Ob.ok_cons.2 ⟨h16, (Ob.ok_cons.2 ⟨⟨h17, rfl⟩, (Ob.ok_cons.2 ⟨h18, (Ob.ok_cons.2 ⟨h19, Ob.ok_nil⟩)⟩)⟩)⟩)⟩)⟩)⟩)⟩)⟩)⟩)⟩)⟩)⟩)⟩)⟩)⟩)⟩)⟩)⟩)
theorem f16_FTTFTFF_e (st s1 s2 s3 s4 s5 s6 s7 : St) (w p19 p71 : Nat) (x v24a : AV) (n24b n33 n39 n43 n53 n56 n64 n65b n74 n81 n82 n88 : Int) (w65a : ByteArray) : evCallS Tryz.prog E0 noOv (fun _ => [2019, 2033, 2039, 2053, 2064, 2071, 2081, 2088, 5000, 6005, 6007, 6018, 6032, 6051, 7028, 7034, 7040, 7045, 7054, 7058, 7076, 7082]) 100000 16 [(.ptr w 0), x] st [.eff (.ptr p19 0) id, .eff (.tup [v24a, (i64 n24b)]) (fun _ => s1), .av FF, .eff (i64 n33) id, .av TT, .eff (i64 n39) id, .av TT, .eff (i64 n43) (fun _ => s2), .av FF, .eff .undef (fun _ => s3), .eff (i64 n53) id, .av TT, .eff (i64 n56) (fun _ => s4), .av FF, .eff (i64 n64) id, .eff (.tup [(str w65a), (i64 n65b)]) (fun _ => s5), .eff (.ptr p71 0) id, .eff (i64 n74) (fun _ => s6), .av FF, .eff (i64 n81) id, .av (i64 n82), .eff .undef (fun _ => s7), .eff (i64 n88) id] = some ((.tup [(i64 n88), (i64 0)]), s7, [], [loadA E0 st 38 (.ptr w 0) = some (.ptr p19 0) ∧ st = st, obC 7 [x] st (.tup [v24a, (i64 n24b)]) s1, binA E0 .neq 23 (i64 n24b) (i64 0) = some FF, loadA E0 s1 3 (.ptr w 2) = some (i64 n33) ∧ s1 = s1, binA E0 .gtr 3 (i64 n33) (i64 0) = some TT, loadA E0 s1 3 (.ptr w 3) = some (i64 n39) ∧ s1 = s1, binA E0 .eql 3 (i64 n39) (i64 8) = some TT, obC 18 [(.ptr w 0)] s1 (i64 n43) s2, binA E0 .neq 23 (i64 n43) (i64 0) = some FF, storeA E0 s2 3 (.ptr w 2) (i64 0) = some s3, loadA E0 s3 3 (.ptr w 2) = some (i64 n53) ∧ s3 = s3, binA E0 .eql 3 (i64 n53) (i64 0) = some TT, obC 51 [(.ptr w 0)] s3 (i64 n56) s4, binA E0 .neq 23 (i64 n56) (i64 0) = some FF, loadA E0 s4 3 (.ptr w 2) = some (i64 n64) ∧ s4 = s4, obC 5 [(i64 n64)] s4 (.tup [(str w65a), (i64 n65b)]) s5, loadA E0 s5 38 (.ptr w 0) = some (.ptr p71 0) ∧ s5 = s5, obC 32 [(.ptr p71 0), (str w65a), v24a] s5 (i64 n74) s6, binA E0 .neq 23 (i64 n74) (i64 0) = some FF, loadA E0 s6 3 (.ptr w 3) = some (i64 n81) ∧ s6 = s6, binA E0 .add 3 (i64 n81) (i64 1) = some (i64 n82), storeA E0 s6 3 (.ptr w 3) (i64 n82) = some s7, loadA E0 s7 3 (.ptr w 2) = some (i64 n88) ∧ s7 = s7]) := by kernel_rfl
theorem f16_FTTFTFF {st s1 s2 s3 s4 s5 s6 s7 : St} {w p19 p71 : Nat} {x v24a : AV} {n24b n33 n39 n43 n53 n56 n64 n65b n74 n81 n82 n88 : Int} {w65a : ByteArray} (h1 : loadA E0 st 38 (.ptr w 0) = some (.ptr p19 0)) (h2 : obC 7 [x] st (.tup [v24a, (i64 n24b)]) s1) (h3 : binA E0 .neq 23 (i64 n24b) (i64 0) = some FF) (h4 : loadA E0 s1 3 (.ptr w 2) = some (i64 n33)) (h5 : binA E0 .gtr 3 (i64 n33) (i64 0) = some TT) (h6 : loadA E0 s1 3 (.ptr w 3) = some (i64 n39)) (h7 : binA E0 .eql 3 (i64 n39) (i64 8) = some TT) (h8 : obC 18 [(.ptr w 0)] s1 (i64 n43) s2) (h9 : binA E0 .neq 23 (i64 n43) (i64 0) = some FF) (h10 : storeA E0 s2 3 (.ptr w 2) (i64 0) = some s3) (h11 : loadA E0 s3 3 (.ptr w 2) = some (i64 n53)) (h12 : binA E0 .eql 3 (i64 n53) (i64 0) = some TT) (h13 : obC 51 [(.ptr w 0)] s3 (i64 n56) s4) (h14 : binA E0 .neq 23 (i64 n56) (i64 0) = some FF) (h15 : loadA E0 s4 3 (.ptr w 2) = some (i64 n64)) (h16 : obC 5 [(i64 n64)] s4 (.tup [(str w65a), (i64 n65b)]) s5) (h17 : loadA E0 s5 38 (.ptr w 0) = some (.ptr p71 0)) (h18 : obC 32 [(.ptr p71 0), (str w65a), v24a] s5 (i64 n74) s6) (h19 : binA E0 .neq 23 (i64 n74) (i64 0) = some FF) (h20 : loadA E0 s6 3 (.ptr w 3) = some (i64 n81)) (h21 : binA E0 .add 3 (i64 n81) (i64 1) = some (i64 n82)) (h22 : storeA E0 s6 3 (.ptr w 3) (i64 n82) = some s7) (h23 : loadA E0 s7 3 (.ptr w 2) = some (i64 n88)) : obC 16 [(.ptr w 0), x] st (.tup [(i64 n88), (i64 0)]) s7 := ACalls.run hE noOv_ok (f16_FTTFTFF_e st s1 s2 s3 s4 s5 s6 s7 w p19 p71 x v24a n24b n33 n39 n43 n53 n56 n64 n65b n74 n81 n82 n88 w65a) (Ob.ok_cons.2 ⟨⟨h1, rfl⟩, (Ob.ok_cons.2 ⟨h2, (Ob.ok_cons.2 ⟨h3, (Ob.ok_cons.2 ⟨⟨h4, rfl⟩, (Ob.ok_cons.2 ⟨h5, (Ob.ok_cons.2 ⟨⟨h6, rfl⟩, (Ob.ok_cons.2 ⟨h7, (Ob.ok_cons.2 ⟨h8, (Ob.ok_cons.2 ⟨h9, (Ob.ok_cons.2 ⟨h10, (Ob.ok_cons.2 ⟨⟨h11, rfl⟩, (Ob.ok_cons.2 ⟨h12, (Ob.ok_cons.2 ⟨h13, (Ob.ok_cons.2 ⟨h14, (Ob.ok_cons.2 ⟨⟨h15, rfl⟩, (Ob.ok_cons.2 ⟨h16, (Ob.ok_cons.2 ⟨⟨h17, rfl⟩, (Ob.ok_cons.2 ⟨h18, (Ob.ok_cons.2 ⟨h19, (Ob.ok_cons.2 ⟨⟨h20, rfl⟩, (Ob.ok_cons.2 ⟨h21, (Ob.ok_cons.2 ⟨h22, (Ob.ok_cons.2 ⟨⟨h23, rfl⟩, Ob.ok_nil⟩)⟩)⟩)⟩)⟩)⟩)⟩)⟩)⟩)⟩)⟩)⟩)⟩)⟩)⟩)⟩)⟩)⟩)⟩)⟩)⟩)⟩)⟩)
theorem f16_FTTFFT_e (st s1 s2 s3 s4 s5 : St) (w p19 p71 : Nat) (x v24a : AV) (n24b n33 n39 n43 n53 n64 n65b n74 : Int) (w65a : ByteArray) : evCallS Tryz.prog E0 noOv (fun _ => [2019, 2033, 2039, 2053, 2064, 2071, 2081, 2088, 5000, 6005, 6007, 6018, 6032, 6051, 7028, 7034, 7040, 7045, 7054, 7058, 7076, 7082]) 100000 16 [(.ptr w 0), x] st [.eff (.ptr p19 0) id, .eff (.tup [v24a, (i64 n24b)]) (fun _ => s1), .av FF, .eff (i64 n33) id, .av TT, .eff (i64 n39) id, .av TT, .eff (i64 n43) (fun _ => s2), .av FF, .eff .undef (fun _ => s3), .eff (i64 n53) id, .av FF, .eff (i64 n64) id, .eff (.tup [(str w65a), (i64 n65b)]) (fun _ => s4), .eff (.ptr p71 0) id, .eff (i64 n74) (fun _ => s5), .av TT] = some ((.tup [(i64 0), (i64 n74)]), s5, [], [loadA E0 st 38 (.ptr w 0) = some (.ptr p19 0) ∧ st = st, obC 7 [x] st (.tup [v24a, (i64 n24b)]) s1, binA E0 .neq 23 (i64 n24b) (i64 0) = some FF, loadA E0 s1 3 (.ptr w 2) = some (i64 n33) ∧ s1 = s1, binA E0 .gtr 3 (i64 n33) (i64 0) = some TT, loadA E0 s1 3 (.ptr w 3) = some (i64 n39) ∧ s1 = s1, binA E0 .eql 3 (i64 n39) (i64 8) = some TT, obC 18 [(.ptr w 0)] s1 (i64 n43) s2, binA E0 .neq 23 (i64 n43) (i64 0) = some FF, storeA E0 s2 3 (.ptr w 2) (i64 0) = some s3, loadA E0 s3 3 (.ptr w 2) = some (i64 n53) ∧ s3 = s3, binA E0 .eql 3 (i64 n53) (i64 0) = some FF, loadA E0 s3 3 (.ptr w 2) = some (i64 n64) ∧ s3 = s3, obC 5 [(i64 n64)] s3 (.tup [(str w65a), (i64 n65b)]) s4, loadA E0 s4 38 (.ptr w 0) = some (.ptr p71 0) ∧ s4 = s4, obC 32 [(.ptr p71 0), (str w65a), v24a] s4 (i64 n74) s5, binA E0 .neq 23 (i64 n74) (i64 0) = some TT]) := by kernel_rfl
theorem f16_FTTFFT {st s1 s2 s3 s4 s5 : St} {w p19 p71 : Nat} {x v24a : AV} {n24b n33 n39 n43 n53 n64 n65b n74 : Int} {w65a : ByteArray} (h1 : loadA E0 st 38 (.ptr w 0) = some (.ptr p19 0)) (h2 : obC 7 [x] st (.tup [v24a, (i64 n24b)]) s1) (h3 : binA E0 .neq 23 (i64 n24b) (i64 0) = some FF) (h4 : loadA E0 s1 3 (.ptr w 2) = some (i64 n33)) (h5 : binA E0 .gtr 3 (i64 n33) (i64 0) = some TT) (h6 : loadA E0 s1 3 (.ptr w 3) = some (i64 n39)) (h7 : binA E0 .eql 3 (i64 n39) (i64 8) = some TT) (h8 : obC 18 [(.ptr w 0)] s1 (i64 n43) s2) (h9 : binA E0 .neq 23 (i64 n43) (i64 0) = some FF) (h10 : storeA E0 s2 3 (.ptr w 2) (i64 0) = some s3) (h11 : loadA E0 s3 3 (.ptr w 2) = some (i64 n53)) (h12 : binA E0 .eql 3 (i64 n53) (i64 0) = some FF) (h13 : loadA E0 s3 3 (.ptr w 2) = some (i64 n64)) (h14 : obC 5 [(i64 n64)] s3 (.tup [(str w65a), (i64 n65b)]) s4) (h15 : loadA E0 s4 38 (.ptr w 0) = some (.ptr p71 0)) (h16 : obC 32 [(.ptr p71 0), (str w65a), v24a] s4 (i64 n74) s5) (h17 : binA E0 .neq 23 (i64 n74) (i64 0) = some TT) : obC 16 [(.ptr w 0), x] st (.tup [(i64 0), (i64 n74)]) s5 := ACalls.run hE noOv_ok (f16_FTTFFT_e st s1 s2 s3 s4 s5 w p19 p71 x v24a n24b n33 n39 n43 n53 n64 n65b n74 w65a) (Ob.ok_cons.2 ⟨⟨h1, rfl⟩, (Ob.ok_cons.2 ⟨h2, (Ob.ok_cons.2 ⟨h3, (Ob.ok_cons.2 ⟨⟨h4, rfl⟩, (Ob.ok_cons.2 ⟨h5, (Ob.ok_cons.2 ⟨⟨h6, rfl⟩, (Ob.ok_cons.2 ⟨h7, (Ob.ok_cons.2 ⟨h8, (Ob.ok_cons.2 ⟨h9, (Ob.ok_cons.2 ⟨h10, (Ob.ok_cons.2 ⟨⟨h11, rfl⟩, (Ob.ok_cons.2 ⟨h12, (Ob.ok_cons.2 ⟨⟨h13, rfl⟩, (Ob.ok_cons.2 ⟨h14, (Ob.ok_cons.2 ⟨⟨h15, rfl⟩, (Ob.ok_cons.2 ⟨h16, (Ob.ok_cons.2 ⟨h17, Ob.ok_nil⟩)⟩)⟩)⟩)⟩)⟩)⟩)⟩)⟩)⟩)⟩)⟩)⟩)⟩)⟩)⟩)⟩)
theorem f16_FTTFFF_e (st s1 s2 s3 s4 s5 s6 : St) (w p19 p71 : Nat) (x v24a : AV) (n24b n33 n39 n43 n53 n64 n65b n74 n81 n82 n88 : Int) (w65a : ByteArray) : evCallS Tryz.prog E0 noOv (fun _ => [2019, 2033, 2039, 2053, 2064, 2071, 2081, 2088, 5000, 6005, 6007, 6018, 6032, 6051, 7028, 7034, 7040, 7045, 7054, 7058, 7076, 7082]) 100000 16 [(.ptr w 0), x] st [.eff (.ptr p19 0) id, .eff (.tup [v24a, (i64 n24b)]) (fun _ => s1), .av FF, .eff (i64 n33) id, .av TT, .eff (i64 n39) id, .av TT, .eff (i64 n43) (fun _ => s2), .av FF, .eff .undef (fun _ => s3), .eff (i64 n53) id, .av FF, .eff (i64 n64) id, .eff (.tup [(str w65a), (i64 n65b)]) (fun _ => s4), .eff (.ptr p71 0) id, .eff (i64 n74) (fun _ => s5), .av FF, .eff (i64 n81) id, .av (i64 n82), .eff .undef (fun _ => s6), .eff (i64 n88) id] = some ((.tup [(i64 n88), (i64 0)]), s6, [], [loadA E0 st 38 (.ptr w 0) = some (.ptr p19 0) ∧ st = st, obC 7 [x] st (.tup [v24a, (i64 n24b)]) s1, binA E0 .neq 23 (i64 n24b) (i64 0) = some FF, loadA E0 s1 3 (.ptr w 2) = some (i64 n33) ∧ s1 = s1, binA E0 .gtr 3 (i64 n33) (i64 0) = some TT, loadA E0 s1 3 (.ptr w 3) = some (i64 n39) ∧ s1 = s1, binA E0 .eql 3 (i64 n39) (i64 8) = some TT, obC 18 [(.ptr w 0)] s1 (i64 n43) s2, binA E0 .neq 23 (i64 n43) (i64 0) = some FF, storeA E0 s2 3 (.ptr w 2) (i64 0) = some s3, loadA E0 s3 3 (.ptr w 2) = some (i64 n53) ∧ s3 = s3, binA E0 .eql 3 (i64 n53) (i64 0) = some FF, loadA E0 s3 3 (.ptr w 2) = some (i64 n64) ∧ s3 = s3, obC 5 [(i64 n64)] s3 (.tup [(str w65a), (i64 n65b)]) s4, loadA E0 s4 38 (.ptr w 0) = some (.ptr p71 0) ∧ s4 = s4, obC 32 [(.ptr p71 0), (str w65a), v24a] s4 (i64 n74) s5, binA E0 .neq 23 (i64 n74) (i64 0) = some FF, loadA E0 s5 3 (.ptr w 3) = some (i64 n81) ∧ s5 = s5, binA E0 .add 3 (i64 n81) (i64 1) = some (i64 n82), storeA E0 s5 3 (.ptr w 3) (i64 n82) = some s6, loadA E0 s6 3 (.ptr w 2) = some (i64 n88) ∧ s6 = s6]) := by kernel_rfl
theorem f16_FTTFFF {st s1 s2 s3 s4 s5 s6 : St} {w p19 p71 : Nat} {x v24a : AV} {n24b n33 n39 n43 n53 n64 n65b n74 n81 n82 n88 : Int} {w65a : ByteArray} (h1 : loadA E0 st 38 (.ptr w 0) = some (.ptr p19 0)) (h2 : obC 7 [x] st (.tup [v24a, (i64 n24b)]) s1) (h3 : binA E0 .neq 23 (i64 n24b) (i64 0) = some FF) (h4 : loadA E0 s1 3 (.ptr w 2) = some (i64 n33)) (h5 : binA E0 .gtr 3 (i64 n33) (i64 0) = some TT) (h6 : loadA E0 s1 3 (.ptr w 3) = some (i64 n39)) (h7 : binA E0 .eql 3 (i64 n39) (i64 8) = some TT) (h8 : obC 18 [(.ptr w 0)] s1 (i64 n43) s2) (h9 : binA E0 .neq 23 (i64 n43) (i64 0) = some FF) (h10 : storeA E0 s2 3 (.ptr w 2) (i64 0) = some s3) (h11 : loadA E0 s3 3 (.ptr w 2) = some (i64 n53)) (h12 : binA E0 .eql 3 (i64 n53) (i64 0) = some FF) (h13 : loadA E0 s3 3 (.ptr w 2) = some (i64 n64)) (h14 : obC 5 [(i64 n64)] s3 (.tup [(str w65a), (i64 n65b)]) s4) (h15 : loadA E0 s4 38 (.ptr w 0) = some (.ptr p71 0)) (h16 : obC 32 [(.ptr p71 0), (str w65a), v24a] s4 (i64 n74) s5) (h17 : binA E0 .neq 23 (i64 n74) (i64 0) = some FF) (h18 : loadA E0 s5 3 (.ptr w 3) = some (i64 n81)) (h19 : binA E0 .add 3 (i64 n81) (i64 1) = some (i64 n82)) (h20 : storeA E0 s5 3 (.ptr w 3) (i64 n82) = some s6) (h21 : loadA E0 s6 3 (.ptr w 2) = some (i64 n88)) : obC 16 [(.ptr w 0), x] st (.tup [(i64 n88), (i64 0)]) s6 := ACalls.run hE noOv_ok (f16_FTTFFF_e st s1 s2 s3 s4 s5 s6 w p19 p71 x v24a n24b n33 n39 n43 n53 n64 n65b n74 n81 n82 n88 w65a) (Ob.ok_cons.2 ⟨⟨h1, rfl⟩, (Ob.ok_cons.2 ⟨h2, (Ob.ok_cons.2 ⟨h3, (Ob.ok_cons.2 ⟨⟨h4, rfl⟩, (Ob.ok_cons.2 ⟨h5, (Ob.ok_cons.2 ⟨⟨h6, rfl⟩, (Ob.ok_cons.2 ⟨h7, (Ob.ok_cons.2 ⟨h8, (Ob.ok_cons.2 ⟨h9, (Ob.ok_cons.2 ⟨h10, (Ob.ok_cons.2 ⟨⟨h11, rfl⟩, (Ob.ok_cons.2 ⟨h12, (Ob.ok_cons.2 ⟨⟨h13, rfl⟩, (Ob.ok_cons.2 ⟨h14, (Ob.ok_cons.2 ⟨⟨h15, rfl⟩, (Ob.ok_cons.2 ⟨h16, (Ob.ok_cons.2 ⟨h17, (Ob.ok_cons.2 ⟨⟨h18, rfl⟩, (Ob.ok_cons.2 ⟨h19, (Ob.ok_cons.2 ⟨h20, (Ob.ok_cons.2 ⟨⟨h21, rfl⟩, Ob.ok_nil⟩)⟩)⟩)⟩)⟩)⟩)⟩)⟩)⟩)⟩)⟩)⟩)⟩)⟩)⟩)⟩)⟩)⟩)⟩)⟩)⟩)
theorem f16_FTFTT_e (st s1 s2 : St) (w p19 : Nat) (x v24a : AV) (n24b n33 n39 n53 n56 : Int) : evCallS Tryz.prog E0 noOv (fun _ => [2019, 2033, 2039, 2053, 2064, 2071, 2081, 2088, 5000, 6005, 6007, 6018, 6032, 6051, 7028, 7034, 7040, 7045, 7054, 7058, 7076, 7082]) 100000 16 [(.ptr w 0), x] st [.eff (.ptr p19 0) id, .eff (.tup [v24a, (i64 n24b)]) (fun _ => s1), .av FF, .eff (i64 n33) id, .av TT, .eff (i64 n39) id, .av FF, .eff (i64 n53) id, .av TT, .eff (i64 n56) (fun _ => s2), .av TT] = some ((.tup [(i64 0), (i64 n56)]), s2, [], [loadA E0 st 38 (.ptr w 0) = some (.ptr p19 0) ∧ st = st, obC 7 [x] st (.tup [v24a, (i64 n24b)]) s1, binA E0 .neq 23 (i64 n24b) (i64 0) = some FF, loadA E0 s1 3 (.ptr w 2) = some (i64 n33) ∧ s1 = s1, binA E0 .gtr 3 (i64 n33) (i64 0) = some TT, loadA E0 s1 3 (.ptr w 3) = some (i64 n39) ∧ s1 = s1, binA E0 .eql 3 (i64 n39) (i64 8) = some FF, loadA E0 s1 3 (.ptr w 2) = some (i64 n53) ∧ s1 = s1, binA E0 .eql 3 (i64 n53) (i64 0) = some TT, obC 51 [(.ptr w 0)] s1 (i64 n56) s2, binA E0 .neq 23 (i64 n56) (i64 0) = some TT]) := by kernel_rfl
theorem f16_FTFTT {st s1 s2 : St} {w p19 : Nat} {x v24a : AV} {n24b n33 n39 n53 n56 : Int} (h1 : loadA E0 st 38 (.ptr w 0) = some (.ptr p19 0)) (h2 : obC 7 [x] st (.tup [v24a, (i64 n24b)]) s1) (h3 : binA E0 .neq 23 (i64 n24b) (i64 0) = some FF) (h4 : loadA E0 s1 3 (.ptr w 2) = some (i64 n33)) (h5 : binA E0 .gtr 3 (i64 n33) (i64 0) = some TT) (h6 : loadA E0 s1 3 (.ptr w 3) = some (i64 n39)) (h7 : binA E0 .eql 3 (i64 n39) (i64 8) = some FF) (h8 : loadA E0 s1 3 (.ptr w 2) = some (i64 n53)) (h9 : binA E0 .eql 3 (i64 n53) (i64 0) = some TT) (h10 : obC 51 [(.ptr w 0)] s1 (i64 n56) s2) (h11 : binA E0 .neq 23 (i64 n56) (i64 0) = some TT) : obC 16 [(.ptr w 0), x] st (.tup [(i64 0), (i64 n56)]) s2 := ACalls.run hE noOv_ok (f16_FTFTT_e st s1 s2 w p19 x v24a n24b n33 n39 n53 n56) (Ob.ok_cons.2 ⟨⟨h1, rfl⟩, (Ob.ok_cons.2 ⟨h2, (Ob.ok_cons.2 ⟨h3, (Ob.ok_cons.2 ⟨⟨h4, rfl⟩, (Ob.ok_cons.2 ⟨h5, (Ob.ok_cons.2 ⟨⟨h6, rfl⟩, (Ob.ok_cons.2 ⟨h7, (Ob.ok_cons.2 ⟨⟨h8, rfl⟩, (Ob.ok_cons.2 ⟨h9, (Ob.ok_cons.2 ⟨h10, (Ob.ok_cons.2 ⟨h11, Ob.ok_nil⟩)⟩)⟩)⟩)⟩)⟩)⟩)⟩)⟩)⟩)⟩)
theorem f16_FTFTFT_e (st s1 s2 s3 s4 : St) (w p19 p71 : Nat) (x v24a : AV) (n24b n33 n39 n53 n56 n64 n65b n74 : Int) (w65a : ByteArray) : evCallS Tryz.prog E0 noOv (fun _ => [2019, 2033, 2039, 2053, 2064, 2071, 2081, 2088, 5000, 6005, 6007, 6018, 6032, 6051, 7028, 7034, 7040, 7045, 7054, 7058, 7076, 7082]) 100000 16 [(.ptr w 0), x] st [.eff (.ptr p19 0) id, .eff (.tup [v24a, (i64 n24b)]) (fun _ => s1), .av FF, .eff (i64 n33) id, .av TT, .eff (i64 n39) id, .av FF, .eff (i64 n53) id, .av TT, .eff (i64 n56) (fun _ => s2), .av FF, .eff (i64 n64) id, .eff (.tup [(str w65a), (i64 n65b)]) (fun _ => s3), .eff (.ptr p71 0) id, .eff (i64 n74) (fun _ => s4), .av TT] = some ((.tup [(i64 0), (i64 n74)]), s4, [], [loadA E0 st 38 (.ptr w 0) = some (.ptr p19 0) ∧ st = st, obC 7 [x] st (.tup [v24a, (i64 n24b)]) s1, binA E0 .neq 23 (i64 n24b) (i64 0) = some FF, loadA E0 s1 3 (.ptr w 2) = some (i64 n33) ∧ s1 = s1, binA E0 .gtr 3 (i64 n33) (i64 0) = some TT, loadA E0 s1 3 (.ptr w 3) = some (i64 n39) ∧ s1 = s1, binA E0 .eql 3 (i64 n39) (i64 8) = some FF, loadA E0 s1 3 (.ptr w 2) = some (i64 n53) ∧ s1 = s1, binA E0 .eql 3 (i64 n53) (i64 0) = some TT, obC 51 [(.ptr w 0)] s1 (i64 n56) s2, binA E0 .neq 23 (i64 n56) (i64 0) = some FF, loadA E0 s2 3 (.ptr w 2) = some (i64 n64) ∧ s2 = s2, obC 5 [(i64 n64)] s2 (.tup [(str w65a), (i64 n65b)]) s3, loadA E0 s3 38 (.ptr w 0) = some (.ptr p71 0) ∧ s3 = s3, obC 32 [(.ptr p71 0), (str w65a), v24a] s3 (i64 n74) s4, binA E0 .neq 23 (i64 n74) (i64 0) = some TT]) := by kernel_rfl
theorem f16_FTFTFT {st s1 s2 s3 s4 : St} {w p19 p71 : Nat} {x v24a : AV} {n24b n33 n39 n53 n56 n64 n65b n74 : Int} {w65a : ByteArray} (h1 : loadA E0 st 38 (.ptr w 0) = some (.ptr p19 0)) (h2 : obC 7 [x] st (.tup [v24a, (i64 n24b)]) s1) (h3 : binA E0 .neq 23 (i64 n24b) (i64 0) = some FF) (h4 : loadA E0 s1 3 (.ptr w 2) = some (i64 n33)) (h5 : binA E0 .gtr 3 (i64 n33) (i64 0) = some TT) (h6 : loadA E0 s1 3 (.ptr w 3) = some (i64 n39)) (h7 : binA E0 .eql 3 (i64 n39) (i64 8) = some FF) (h8 : loadA E0 s1 3 (.ptr w 2) = some (i64 n53)) (h9 : binA E0 .eql 3 (i64 n53) (i64 0) = some TT) (h10 : obC 51 [(.ptr w 0)] s1 (i64 n56) s2) (h11 : binA E0 .neq 23 (i64 n56) (i64 0) = some FF) (h12 : loadA E0 s2 3 (.ptr w 2) = some (i64 n64)) (h13 : obC 5 [(i64 n64)] s2 (.tup [(str w65a), (i64 n65b)]) s3) (h14 : loadA E0 s3 38 (.ptr w 0) = some (.ptr p71 0)) (h15 : obC 32 [(.ptr p71 0), (str w65a), v24a] s3 (i64 n74) s4) (h16 : binA E0 .neq 23 (i64 n74) (i64 0) = some TT) : obC 16 [(.ptr w 0), x] st (.tup [(i64 0), (i64 n74)]) s4 := ACalls.run hE noOv_ok (f16_FTFTFT_e st s1 s2 s3 s4 w p19 p71 x v24a n24b n33 n39 n53 n56 n64 n65b n74 w65a) (Ob.ok_cons.2 ⟨⟨h1, rfl⟩, (Ob.ok_cons.2 ⟨h2, (Ob.ok_cons.2 ⟨h3, (Ob.ok_cons.2 ⟨⟨h4, rfl⟩, (Ob.ok_cons.2 ⟨h5, (Ob.ok_cons.2 ⟨⟨h6, rfl⟩, (Ob.ok_cons.2 ⟨h7, (Ob.ok_cons.2 ⟨⟨h8, rfl⟩, (Ob.ok_cons.2 ⟨h9, (Ob.ok_cons.2 ⟨h10, (Ob.ok_cons.2 ⟨h11, (Ob.ok_cons.2 ⟨⟨h12, rfl⟩, (Ob.ok_cons.2 ⟨h13, (Ob.ok_cons.2 ⟨⟨h14, rfl⟩, (Ob.ok_cons.2 ⟨h15, (Ob.ok_cons.2 ⟨h16, Ob.ok_nil⟩)⟩)⟩)⟩)⟩)⟩)⟩)⟩)⟩)⟩)⟩)⟩)⟩)⟩)⟩)⟩)
theorem f16_FTFTFF_e (st s1 s2 s3 s4 s5 : St) (w p19 p71 : Nat) (x v24a : AV) (n24b n33 n39 n53 n56 n64 n65b n74 n81 n82 n88 : Int) (w65a : ByteArray) : evCallS Tryz.prog E0 noOv (fun _ => [2019, 2033, 2039, 2053, 2064, 2071, 2081, 2088, 5000, 6005, 6007, 6018, 6032, 6051, 7028, 7034, 7040, 7045, 7054, 7058, 7076, 7082]) 100000 16 [(.ptr w 0), x] st [.eff (.ptr p19 0) id, .eff (.tup [v24a, (i64 n24b)]) (fun _ => s1), .av FF, .eff (i64 n33) id, .av TT, .eff (i64 n39) id, .av FF, .eff (i64 n53) id, .av TT, .eff (i64 n56) (fun _ => s2), .av FF, .eff (i64 n64) id, .eff (.tup [(str w65a), (i64 n65b)]) (fun _ => s3), .eff (.ptr p71 0) id, .eff (i64 n74) (fun _ => s4), .av FF, .eff (i64 n81) id, .av (i64 n82), .eff .undef (fun _ => s5), .eff (i64 n88) id] = some ((.tup [(i64 n88), (i64 0)]), s5, [], [loadA E0 st 38 (.ptr w 0) = some (.ptr p19 0) ∧ st = st, obC 7 [x] st (.tup [v24a, (i64 n24b)]) s1, binA E0 .neq 23 (i64 n24b) (i64 0) = some FF, loadA E0 s1 3 (.ptr w 2) = some (i64 n33) ∧ s1 = s1, binA E0 .gtr 3 (i64 n33) (i64 0) = some TT, loadA E0 s1 3 (.ptr w 3) = some (i64 n39) ∧ s1 = s1, binA E0 .eql 3 (i64 n39) (i64 8) = some FF, loadA E0 s1 3 (.ptr w 2) = some (i64 n53) ∧ s1 = s1, binA E0 .eql 3 (i64 n53) (i64 0) = some TT, obC 51 [(.ptr w 0)] s1 (i64 n56) s2, binA E0 .neq 23 (i64 n56) (i64 0) = some FF, loadA E0 s2 3 (.ptr w 2) = some (i64 n64) ∧ s2 = s2, obC 5 [(i64 n64)] s2 (.tup [(str w65a), (i64 n65b)]) s3, loadA E0 s3 38 (.ptr w 0) = some (.ptr p71 0) ∧ s3 = s3, obC 32 [(.ptr p71 0), (str w65a), v24a] s3 (i64 n74) s4, binA E0 .neq 23 (i64 n74) (i64 0) = some FF, loadA E0 s4 3 (.ptr w 3) = some (i64 n81) ∧ s4 = s4, binA E0 .add 3 (i64 n81) (i64 1) = some (i64 n82), storeA E0 s4 3 (.ptr w 3) (i64 n82) = some s5, loadA E0 s5 3 (.ptr w 2) = some (i64 n88) ∧ s5 = s5]) := by kernel_rfl
theorem f16_FTFTFF {st s1 s2 s3 s4 s5 : St} {w p19 p71 : Nat} {x v24a : AV} {n24b n33 n39 n53 n56 n64 n65b n74 n81 n82 n88 : Int} {w65a : ByteArray} (h1 : loadA E0 st 38 (.ptr w 0) = some (.ptr p19 0)) (h2 : obC 7 [x] st (.tup [v24a, (i64 n24b)]) s1) (h3 : binA E0 .neq 23 (i64 n24b) (i64 0) = some FF) (h4 : loadA E0 s1 3 (.ptr w 2) = some (i64 n33)) (h5 : binA E0 .gtr 3 (i64 n33) (i64 0) = some TT) (h6 : loadA E0 s1 3 (.ptr w 3) = some (i64 n39)) (h7 : binA E0 .eql 3 (i64 n39) (i64 8) = some FF) (h8 : loadA E0 s1 3 (.ptr w 2) = some (i64 n53)) (h9 : binA E0 .eql 3 (i64 n53) (i64 0) = some TT) (h10 : obC 51 [(.ptr w 0)] s1 (i64 n56) s2) (h11 : binA E0 .neq 23 (i64 n56) (i64 0) = some FF) (h12 : loadA E0 s2 3 (.ptr w 2) = some (i64 n64)) (h13 : obC 5 [(i64 n64)] s2 (.tup [(str w65a), (i64 n65b)]) s3) (h14 : loadA E0 s3 38 (.ptr w 0) = some (.ptr p71 0)) (h15 : obC 32 [(.ptr p71 0), (str w65a), v24a] s3 (i64 n74) s4) (h16 : binA E0 .neq 23 (i64 n74) (i64 0) = some FF) (h17 : loadA E0 s4 3 (.ptr w 3) = some (i64 n81)) (h18 : binA E0 .add 3 (i64 n81) (i64 1) = some (i64 n82)) (h19 : storeA E0 s4 3 (.ptr w 3) (i64 n82) = some s5) (h20 : loadA E0 s5 3 (.ptr w 2) = some (i64 n88)) : obC 16 [(.ptr w 0), x] st (.tup [(i64 n88), (i64 0)]) s5 := ACalls.run hE noOv_ok (f16_FTFTFF_e st s1 s2 s3 s4 s5 w p19 p71 x v24a n24b n33 n39 n53 n56 n64 n65b n74 n81 n82 n88 w65a) (Ob.ok_cons.2 ⟨⟨h1, rfl⟩, (Ob.ok_cons.2 ⟨h2, (Ob.ok_cons.2 ⟨h3, (Ob.ok_cons.2 ⟨⟨h4, rfl⟩, (Ob.ok_cons.2 ⟨h5, (Ob.ok_cons.2 ⟨⟨h6, rfl⟩, (Ob.ok_cons.2 ⟨h7, (Ob.ok_cons.2 ⟨⟨h8, rfl⟩, (Ob.ok_cons.2 ⟨h9, (Ob.ok_cons.2 ⟨h10, (Ob.ok_cons.2 ⟨h11, (Ob.ok_cons.2 ⟨⟨h12, rfl⟩, (Ob.ok_cons.2 ⟨h13, (Ob.ok_cons.2 ⟨⟨h14, rfl⟩, (Ob.ok_cons.2 ⟨h15, (Ob.ok_cons.2 ⟨h16, (Ob.ok_cons.2 ⟨⟨h17, rfl⟩, (Ob.ok_cons.2 ⟨h18, (Ob.ok_cons.2 ⟨h19, (Ob.ok_cons.2 ⟨⟨h20, rfl⟩, Ob.ok_nil⟩)⟩)⟩)⟩)⟩)⟩)⟩)⟩)⟩)⟩)⟩)⟩)⟩)⟩)⟩)⟩)⟩)⟩)⟩)⟩)
theorem f16_FTFFT_e (st s1 s2 s3 : St) (w p19 p71 : Nat) (x v24a : AV) (n24b n33 n39 n53 n64 n65b n74 : Int) (w65a : ByteArray) : evCallS Tryz.prog E0 noOv (fun _ => [2019, 2033, 2039, 2053, 2064, 2071, 2081, 2088, 5000, 6005, 6007, 6018, 6032, 6051, 7028, 7034, 7040, 7045, 7054, 7058, 7076, 7082]) 100000 16 [(.ptr w 0), x] st [.eff (.ptr p19 0) id, .eff (.tup [v24a, (i64 n24b)]) (fun _ => s1), .av FF, .eff (i64 n33) id, .av TT, .eff (i64 n39) id, .av FF, .eff (i64 n53) id, .av FF, .eff (i64 n64) id, .eff (.tup [(str w65a), (i64 n65b)]) (fun _ => s2), .eff (.ptr p71 0) id, .eff (i64 n74) (fun _ => s3), .av TT] = some ((.tup [(i64 0), (i64 n74)]), s3, [], [loadA E0 st 38 (.ptr w 0) = some (.ptr p19 0) ∧ st = st, obC 7 [x] st (.tup [v24a, (i64 n24b)]) s1, binA E0 .neq 23 (i64 n24b) (i64 0) = some FF, loadA E0 s1 3 (.ptr w 2) = some (i64 n33) ∧ s1 = s1, binA E0 .gtr 3 (i64 n33) (i64 0) = some TT, loadA E0 s1 3 (.ptr w 3) = some (i64 n39) ∧ s1 = s1, binA E0 .eql 3 (i64 n39) (i64 8) = some FF, loadA E0 s1 3 (.ptr w 2) = some (i64 n53) ∧ s1 = s1, binA E0 .eql 3 (i64 n53) (i64 0) = some FF, loadA E0 s1 3 (.ptr w 2) = some (i64 n64) ∧ s1 = s1, obC 5 [(i64 n64)] s1 (.tup [(str w65a), (i64 n65b)]) s2, loadA E0 s2 38 (.ptr w 0) = some (.ptr p71 0) ∧ s2 = s2, obC 32 [(.ptr p71 0), (str w65a), v24a] s2 (i64 n74) s3, binA E0 .neq 23 (i64 n74) (i64 0) = some TT]) := by kernel_rfl
theorem f16_FTFFT {st s1 s2 s3 : St} {w p19 p71 : Nat} {x v24a : AV} {n24b n33 n39 n53 n64 n65b n74 : Int} {w65a : ByteArray} (h1 : loadA E0 st 38 (.ptr w 0) = some (.ptr p19 0)) (h2 : obC 7 [x] st (.tup [v24a, (i64 n24b)]) s1) (h3 : binA E0 .neq 23 (i64 n24b) (i64 0) = some FF) (h4 : loadA E0 s1 3 (.ptr w 2) = some (i64 n33)) (h5 : binA E0 .gtr 3 (i64 n33) (i64 0) = some TT) (h6 : loadA E0 s1 3 (.ptr w 3) = some (i64 n39)) (h7 : binA E0 .eql 3 (i64 n39) (i64 8) = some FF) (h8 : loadA E0 s1 3 (.ptr w 2) = some (i64 n53)) (h9 : binA E0 .eql 3 (i64 n53) (i64 0) = some FF) (h10 : loadA E0 s1 3 (.ptr w 2) = some (i64 n64)) (h11 : obC 5 [(i64 n64)] s1 (.tup [(str w65a), (i64 n65b)]) s2) (h12 : loadA E0 s2 38 (.ptr w 0) = some (.ptr p71 0)) (h13 : obC 32 [(.ptr p71 0), (str w65a), v24a] s2 (i64 n74) s3) (h14 : binA E0 .neq 23 (i64 n74) (i64 0) = some TT) : obC 16 [(.ptr w 0), x] st (.tup [(i64 0), (i64 n74)]) s3 := ACalls.run hE noOv_ok (f16_FTFFT_e st s1 s2 s3 w p19 p71 x v24a n24b n33 n39 n53 n64 n65b n74 w65a) (Ob.ok_cons.2 ⟨⟨h1, rfl⟩, (Ob.ok_cons.2 ⟨h2, (Ob.ok_cons.2 ⟨h3, (Ob.ok_cons.2 ⟨⟨h4, rfl⟩, (Ob.ok_cons.2 ⟨h5, (Ob.ok_cons.2 ⟨⟨h6, rfl⟩, (Ob.ok_cons.2 ⟨h7, (Ob.ok_cons.2 ⟨⟨h8, rfl⟩, (Ob.ok_cons.2 ⟨h9, (Ob.ok_cons.2 ⟨⟨h10, rfl⟩, (Ob.ok_cons.2 ⟨h11, (Ob.ok_cons.2 ⟨⟨h12, rfl⟩, (Ob.ok_cons.2 ⟨h13, (Ob.ok_cons.2 ⟨h14, Ob.ok_nil⟩)⟩)⟩)⟩)⟩)⟩)⟩)⟩)⟩)⟩)⟩)⟩)⟩)⟩)
theorem f16_FTFFF_e (st s1 s2 s3 s4 : St) (w p19 p71 : Nat) (x v24a : AV) (n24b n33 n39 n53 n64 n65b n74 n81 n82 n88 : Int) (w65a : ByteArray) : evCallS Tryz.prog E0 noOv (fun _ => [2019, 2033, 2039, 2053, 2064, 2071, 2081, 2088, 5000, 6005, 6007, 6018, 6032, 6051, 7028, 7034, 7040, 7045, 7054, 7058, 7076, 7082]) 100000 16 [(.ptr w 0), x] st [.eff (.ptr p19 0) id, .eff (.tup [v24a, (i64 n24b)]) (fun _ => s1), .av FF, .eff (i64 n33) id, .av TT, .eff (i64 n39) id, .av FF, .eff (i64 n53) id, .av FF, .eff (i64 n64) id, .eff (.tup [(str w65a), (i64 n65b)]) (fun _ => s2), .eff (.ptr p71 0) id, .eff (i64 n74) (fun _ => s3), .av FF, .eff (i64 n81) id, .av (i64 n82), .eff .undef (fun _ => s4), .eff (i64 n88) id] = some ((.tup [(i64 n88), (i64 0)]), s4, [], [loadA E0 st 38 (.ptr w 0) = some (.ptr p19 0) ∧ st = st, obC 7 [x] st (.tup [v24a, (i64 n24b)]) s1, binA E0 .neq 23 (i64 n24b) (i64 0) = some FF, loadA E0 s1 3 (.ptr w 2) = some (i64 n33) ∧ s1 = s1, binA E0 .gtr 3 (i64 n33) (i64 0) = some TT, loadA E0 s1 3 (.ptr w 3) = some (i64 n39) ∧ s1 = s1, binA E0 .eql 3 (i64 n39) (i64 8) = some FF, loadA E0 s1 3 (.ptr w 2) = some (i64 n53) ∧ s1 = s1, binA E0 .eql 3 (i64 n53) (i64 0) = some FF, loadA E0 s1 3 (.ptr w 2) = some (i64 n64) ∧ s1 = s1, obC 5 [(i64 n64)] s1 (.tup [(str w65a), (i64 n65b)]) s2, loadA E0 s2 38 (.ptr w 0) = some (.ptr p71 0) ∧ s2 = s2, obC 32 [(.ptr p71 0), (str w65a), v24a] s2 (i64 n74) s3, binA E0 .neq 23 (i64 n74) (i64 0) = some FF, loadA E0 s3 3 (.ptr w 3) = some (i64 n81) ∧ s3 = s3, binA E0 .add 3 (i64 n81) (i64 1) = some (i64 n82), storeA E0 s3 3 (.ptr w 3) (i64 n82) = some s4, loadA E0 s4 3 (.ptr w 2) = some (i64 n88) ∧ s4 = s4]) := by kernel_rfl
theorem f16_FTFFF {st s1 s2 s3 s4 : St} {w p19 p71 : Nat} {x v24a : AV} {n24b n33 n39 n53 n64 n65b n74 n81 n82 n88 : Int} {w65a : ByteArray} (h1 : loadA E0 st 38 (.ptr w 0) = some (.ptr p19 0)) (h2 : obC 7 [x] st (.tup [v24a, (i64 n24b)]) s1) (h3 : binA E0 .neq 23 (i64 n24b) (i64 0) = some FF) (h4 : loadA E0 s1 3 (.ptr w 2) = some (i64 n33)) (h5 : binA E0 .gtr 3 (i64 n33) (i64 0) = some TT) (h6 : loadA E0 s1 3 (.ptr w 3) = some (i64 n39)) (h7 : binA E0 .eql 3 (i64 n39) (i64 8) = some FF) (h8 : loadA E0 s1 3 (.ptr w 2) = some (i64 n53)) (h9 : binA E0 .eql 3 (i64 n53) (i64 0) = some FF) (h10 : loadA E0 s1 3 (.ptr w 2) = some (i64 n64)) (h11 : obC 5 [(i64 n64)] s1 (.tup [(str w65a), (i64 n65b)]) s2) (h12 : loadA E0 s2 38 (.ptr w 0) = some (.ptr p71 0)) (h13 : obC 32 [(.ptr p71 0), (str w65a), v24a] s2 (i64 n74) s3) (h14 : binA E0 .neq 23 (i64 n74) (i64 0) = some FF) (h15 : loadA E0 s3 3 (.ptr w 3) = some (i64 n81)) (h16 : binA E0 .add 3 (i64 n81) (i64 1) = some (i64 n82)) (h17 : storeA E0 s3 3 (.ptr w 3) (i64 n82) = some s4) (h18 : loadA E0 s4 3 (.ptr w 2) = some (i64 n88)) : obC 16 [(.ptr w 0), x] st (.tup [(i64 n88), (i64 0)]) s4 := ACalls.run hE noOv_ok (f16_FTFFF_e st s1 s2 s3 s4 w p19 p71 x v24a n24b n33 n39 n53 n64 n65b n74 n81 n82 n88 w65a) (Ob.ok_cons.2 ⟨⟨h1, rfl⟩, (Ob.ok_cons.2 ⟨h2, (Ob.ok_cons.2 ⟨h3, (Ob.ok_cons.2 ⟨⟨h4, rfl⟩, (Ob.ok_cons.2 ⟨h5, (Ob.ok_cons.2 ⟨⟨h6, rfl⟩, (Ob.ok_cons.2 ⟨h7, (Ob.ok_cons.2 ⟨⟨h8, rfl⟩, (Ob.ok_cons.2 ⟨h9, (Ob.ok_cons.2 ⟨⟨h10, rfl⟩, (Ob.ok_cons.2 ⟨h11, (Ob.ok_cons.2 ⟨⟨h12, rfl⟩, (Ob.ok_cons.2 ⟨h13, (Ob.ok_cons.2 ⟨h14, (Ob.ok_cons.2 ⟨⟨h15, rfl⟩, (Ob.ok_cons.2 ⟨h16, (Ob.ok_cons.2 ⟨h17, (Ob.ok_cons.2 ⟨⟨h18, rfl⟩, Ob.ok_nil⟩)⟩)⟩)⟩)⟩)⟩)⟩)⟩)⟩)⟩)⟩)⟩)⟩)⟩)⟩)⟩)⟩)⟩)
theorem f16_FFTT_e (st s1 s2 : St) (w p19 : Nat) (x v24a : AV) (n24b n33 n53 n56 : Int) : evCallS Tryz.prog E0 noOv (fun _ => [2019, 2033, 2039, 2053, 2064, 2071, 2081, 2088, 5000, 6005, 6007, 6018, 6032, 6051, 7028, 7034, 7040, 7045, 7054, 7058, 7076, 7082]) 100000 16 [(.ptr w 0), x] st [.eff (.ptr p19 0) id, .eff (.tup [v24a, (i64 n24b)]) (fun _ => s1), .av FF, .eff (i64 n33) id, .av FF, .eff (i64 n53) id, .av TT, .eff (i64 n56) (fun _ => s2), .av TT] = some ((.tup [(i64 0), (i64 n56)]), s2, [], [loadA E0 st 38 (.ptr w 0) = some (.ptr p19 0) ∧ st = st, obC 7 [x] st (.tup [v24a, (i64 n24b)]) s1, binA E0 .neq 23 (i64 n24b) (i64 0) = some FF, loadA E0 s1 3 (.ptr w 2) = some (i64 n33) ∧ s1 = s1, binA E0 .gtr 3 (i64 n33) (i64 0) = some FF, loadA E0 s1 3 (.ptr w 2) = some (i64 n53) ∧ s1 = s1, binA E0 .eql 3 (i64 n53) (i64 0) = some TT, obC 51 [(.ptr w 0)] s1 (i64 n56) s2, binA E0 .neq 23 (i64 n56) (i64 0) = some TT]) := by kernel_rfl
theorem f16_FFTT {st s1 s2 : St} {w p19 : Nat} {x v24a : AV} {n24b n33 n53 n56 : Int} (h1 : loadA E0 st 38 (.ptr w 0) = some (.ptr p19 0)) (h2 : obC 7 [x] st (.tup [v24a, (i64 n24b)]) s1) (h3 : binA E0 .neq 23 (i64 n24b) (i64 0) = some FF) (h4 : loadA E0 s1 3 (.ptr w 2) = some (i64 n33)) (h5 : binA E0 .gtr 3 (i64 n33) (i64 0) = some FF) (h6 : loadA E0 s1 3 (.ptr w 2) = some (i64 n53)) (h7 : binA E0 .eql 3 (i64 n53) (i64 0) = some TT) (h8 : obC 51 [(.ptr w 0)] s1 (i64 n56) s2) (h9 : binA E0 .neq 23 (i64 n56) (i64 0) = some TT) : obC 16 [(.ptr w 0), x] st (.tup [(i64 0), (i64 n56)]) s2 := ACalls.run hE noOv_ok (f16_FFTT_e st s1 s2 w p19 x v24a n24b n33 n53 n56) (Ob.ok_cons.2 ⟨⟨h1, rfl⟩, (Ob.ok_cons.2 ⟨h2, (Ob.ok_cons.2 ⟨h3, (Ob.ok_cons.2 ⟨⟨h4, rfl⟩, (Ob.ok_cons.2 ⟨h5, (Ob.ok_cons.2 ⟨⟨h6, rfl⟩, (Ob.ok_cons.2 ⟨h7, (Ob.ok_cons.2 ⟨h8, (Ob.ok_cons.2 ⟨h9, Ob.ok_nil⟩)⟩)⟩)⟩)⟩)⟩)⟩)⟩)⟩)
theorem f16_FFTFT_e (st s1 s2 s3 s4 : St) (w p19 p71 : Nat) (x v24a : AV) (n24b n33 n53 n56 n64 n65b n74 : Int) (w65a : ByteArray) : evCallS Tryz.prog E0 noOv (fun _ => [2019, 2033, 2039, 2053, 2064, 2071, 2081, 2088, 5000, 6005, 6007, 6018, 6032, 6051, 7028, 7034, 7040, 7045, 7054, 7058, 7076, 7082]) 100000 16 [(.ptr w 0), x] st [.eff (.ptr p19 0) id, .eff (.tup [v24a, (i64 n24b)]) (fun _ => s1), .av FF, .eff (i64 n33) id, .av FF, .eff (i64 n53) id, .av TT, .eff (i64 n56) (fun _ => s2), .av FF, .eff (i64 n64) id, .eff (.tup [(str w65a), (i64 n65b)]) (fun _ => s3), .eff (.ptr p71 0) id, .eff (i64 n74) (fun _ => s4), .av TT] = some ((.tup [(i64 0), (i64 n74)]), s4, [], [loadA E0 st 38 (.ptr w 0) = some (.ptr p19 0) ∧ st = st, obC 7 [x] st (.tup [v24a, (i64 n24b)]) s1, binA E0 .neq 23 (i64 n24b) (i64 0) = some FF, loadA E0 s1 3 (.ptr w 2) = some (i64 n33) ∧ s1 = s1, binA E0 .gtr 3 (i64 n33) (i64 0) = some FF, loadA E0 s1 3 (.ptr w 2) = some (i64 n53) ∧ s1 = s1, binA E0 .eql 3 (i64 n53) (i64 0) = some TT, obC 51 [(.ptr w 0)] s1 (i64 n56) s2, binA E0 .neq 23 (i64 n56) (i64 0) = some FF, loadA E0 s2 3 (.ptr w 2) = some (i64 n64) ∧ s2 = s2, obC 5 [(i64 n64)] s2 (.tup [(str w65a), (i64 n65b)]) s3, loadA E0 s3 38 (.ptr w 0) = some (.ptr p71 0) ∧ s3 = s3, obC 32 [(.ptr p71 0), (str w65a), v24a] s3 (i64 n74) s4, binA E0 .neq 23 (i64 n74) (i64 0) = some TT]) := by kernel_rfl
theorem f16_FFTFT {st s1 s2 s3 s4 : St} {w p19 p71 : Nat} {x v24a : AV} {n24b n33 n53 n56 n64 n65b n74 : Int} {w65a : ByteArray} (h1 : loadA E0 st 38 (.ptr w 0) = some (.ptr p19 0)) (h2 : obC 7 [x] st (.tup [v24a, (i64 n24b)]) s1) (h3 : binA E0 .neq 23 (i64 n24b) (i64 0) = some FF) (h4 : loadA E0 s1 3 (.ptr w 2) = some (i64 n33)) (h5 : binA E0 .gtr 3 (i64 n33) (i64 0) = some FF) (h6 : loadA E0 s1 3 (.ptr w 2) = some (i64 n53)) (h7 : binA E0 .eql 3 (i64 n53) (i64 0) = some TT) (h8 : obC 51 [(.ptr w 0)] s1 (i64 n56) s2) (h9 : binA E0 .neq 23 (i64 n56) (i64 0) = some FF) (h10 : loadA E0 s2 3 (.ptr w 2) = some (i64 n64)) (h11 : obC 5 [(i64 n64)] s2 (.tup [(str w65a), (i64 n65b)]) s3) (h12 : loadA E0 s3 38 (.ptr w 0) = some (.ptr p71 0)) (h13 : obC 32 [(.ptr p71 0), (str w65a), v24a] s3 (i64 n74) s4) (h14 : binA E0 .neq 23 (i64 n74) (i64 0) = some TT) : obC 16 [(.ptr w 0), x] st (.tup [(i64 0), (i64 n74)]) s4 := ACalls.run hE noOv_ok (f16_FFTFT_e st s1 s2 s3 s4 w p19 p71 x v24a n24b n33 n53 n56 n64 n65b n74 w65a) (Ob.ok_cons.2 ⟨⟨h1, rfl⟩, (Ob.ok_cons.2 ⟨h2, (Ob.ok_cons.2 ⟨h3, (Ob.ok_cons.2 ⟨⟨h4, rfl⟩, (Ob.ok_cons.2 ⟨h5, (Ob.ok_cons.2 ⟨⟨h6, rfl⟩, (Ob.ok_cons.2 ⟨h7, (Ob.ok_cons.2 ⟨h8, (Ob.ok_cons.2 ⟨h9, (Ob.ok_cons.2 ⟨⟨h10, rfl⟩, (Ob.ok_cons.2 ⟨h11, (Ob.ok_cons.2 ⟨⟨h12, rfl⟩, (Ob.ok_cons.2 ⟨h13, (Ob.ok_cons.2 ⟨h14, Ob.ok_nil⟩)⟩)⟩)⟩)⟩)⟩)⟩)⟩)⟩)⟩)⟩)⟩)⟩)⟩)
theorem f16_FFTFF_e (st s1 s2 s3 s4 s5 : St) (w p19 p71 : Nat) (x v24a : AV) (n24b n33 n53 n56 n64 n65b n74 n81 n82 n88 : Int) (w65a : ByteArray) : evCallS Tryz.prog E0 noOv (fun _ => [2019, 2033, 2039, 2053, 2064, 2071, 2081, 2088, 5000, 6005, 6007, 6018, 6032, 6051, 7028, 7034, 7040, 7045, 7054, 7058, 7076, 7082]) 100000 16 [(.ptr w 0), x] st [.eff (.ptr p19 0) id, .eff (.tup [v24a, (i64 n24b)]) (fun _ => s1), .av FF, .eff (i64 n33) id, .av FF, .eff (i64 n53) id, .av TT, .eff (i64 n56) (fun _ => s2), .av FF, .eff (i64 n64) id, .eff (.tup [(str w65a), (i64 n65b)]) (fun _ => s3), .eff (.ptr p71 0) id, .eff (i64 n74) (fun _ => s4), .av FF, .eff (i64 n81) id, .av (i64 n82), .eff .undef (fun _ => s5), .eff (i64 n88) id] = some ((.tup [(i64 n88), (i64 0)]), s5, [], [loadA E0 st 38 (.ptr w 0) = some (.ptr p19 0) ∧ st = st, obC 7 [x] st (.tup [v24a, (i64 n24b)]) s1, binA E0 .neq 23 (i64 n24b) (i64 0) = some FF, loadA E0 s1 3 (.ptr w 2) = some (i64 n33) ∧ s1 = s1, binA E0 .gtr 3 (i64 n33) (i64 0) = some FF, loadA E0 s1 3 (.ptr w 2) = some (i64 n53) ∧ s1 = s1, binA E0 .eql 3 (i64 n53) (i64 0) = some TT, obC 51 [(.ptr w 0)] s1 (i64 n56) s2, binA E0 .neq 23 (i64 n56) (i64 0) = some FF, loadA E0 s2 3 (.ptr w 2) = some (i64 n64) ∧ s2 = s2, obC 5 [(i64 n64)] s2 (.tup [(str w65a), (i64 n65b)]) s3, loadA E0 s3 38 (.ptr w 0) = some (.ptr p71 0) ∧ s3 = s3, obC 32 [(.ptr p71 0), (str w65a), v24a] s3 (i64 n74) s4, binA E0 .neq 23 (i64 n74) (i64 0) = some FF, loadA E0 s4 3 (.ptr w 3) = some (i64 n81) ∧ s4 = s4, binA E0 .add 3 (i64 n81) (i64 1) = some (i64 n82), storeA E0 s4 3 (.ptr w 3) (i64 n82) = some s5, loadA E0 s5 3 (.ptr w 2) = some (i64 n88) ∧ s5 = s5]) := by kernel_rfl
theorem f16_FFTFF {st s1 s2 s3 s4 s5 : St} {w p19 p71 : Nat} {x v24a : AV} {n24b n33 n53 n56 n64 n65b n74 n81 n82 n88 : Int} {w65a : ByteArray} (h1 : loadA E0 st 38 (.ptr w 0) = some (.ptr p19 0)) (h2 : obC 7 [x] st (.tup [v24a, (i64 n24b)]) s1) (h3 : binA E0 .neq 23 (i64 n24b) (i64 0) = some FF) (h4 : loadA E0 s1 3 (.ptr w 2) = some (i64 n33)) (h5 : binA E0 .gtr 3 (i64 n33) (i64 0) = some FF) (h6 : loadA E0 s1 3 (.ptr w 2) = some (i64 n53)) (h7 : binA E0 .eql 3 (i64 n53) (i64 0) = some TT) (h8 : obC 51 [(.ptr w 0)] s1 (i64 n56) s2) (h9 : binA E0 .neq 23 (i64 n56) (i64 0) = some FF) (h10 : loadA E0 s2 3 (.ptr w 2) = some (i64 n64)) (h11 : obC 5 [(i64 n64)] s2 (.tup [(str w65a), (i64 n65b)]) s3) (h12 : loadA E0 s3 38 (.ptr w 0) = some (.ptr p71 0)) (h13 : obC 32 [(.ptr p71 0), (str w65a), v24a] s3 (i64 n74) s4) (h14 : binA E0 .neq 23 (i64 n74) (i64 0) = some FF) (h15 : loadA E0 s4 3 (.ptr w 3) = some (i64 n81)) (h16 : binA E0 .add 3 (i64 n81) (i64 1) = some (i64 n82)) (h17 : storeA E0 s4 3 (.ptr w 3) (i64 n82) = some s5) (h18 : loadA E0 s5 3 (.ptr w 2) = some (i64 n88)) : obC 16 [(.ptr w 0), x] st (.tup [(i64 n88), (i64 0)]) s5 := ACalls.run hE noOv_ok (f16_FFTFF_e st s1 s2 s3 s4 s5 w p19 p71 x v24a n24b n33 n53 n56 n64 n65b n74 n81 n82 n88 w65a) (Ob.ok_cons.2 ⟨⟨h1, rfl⟩, (Ob.ok_cons.2 ⟨h2, (Ob.ok_cons.2 ⟨h3, (Ob.ok_cons.2 ⟨⟨h4, rfl⟩, (Ob.ok_cons.2 ⟨h5, (Ob.ok_cons.2 ⟨⟨h6, rfl⟩, (Ob.ok_cons.2 ⟨h7, (Ob.ok_cons.2 ⟨h8, (Ob.ok_cons.2 ⟨h9, (Ob.ok_cons.2 ⟨⟨h10, rfl⟩, (Ob.ok_cons.2 ⟨h11, (Ob.ok_cons.2 ⟨⟨h12, rfl⟩, (Ob.ok_cons.2 ⟨h13, (Ob.ok_cons.2 ⟨h14, (Ob.ok_cons.2 ⟨⟨h15, rfl⟩, (Ob.ok_cons.2 ⟨h16, (Ob.ok_cons.2 ⟨h17, (Ob.ok_cons.2 ⟨⟨h18, rfl⟩, Ob.ok_nil⟩)⟩)⟩)⟩)⟩)⟩)⟩)⟩)⟩)⟩)⟩)⟩)⟩)⟩)⟩)⟩)⟩)⟩)
theorem f16_FFFT_e (st s1 s2 s3 : St) (w p19 p71 : Nat) (x v24a : AV) (n24b n33 n53 n64 n65b n74 : Int) (w65a : ByteArray) : evCallS Tryz.prog E0 noOv (fun _ => [2019, 2033, 2039, 2053, 2064, 2071, 2081, 2088, 5000, 6005, 6007, 6018, 6032, 6051, 7028, 7034, 7040, 7045, 7054, 7058, 7076, 7082]) 100000 16 [(.ptr w 0), x] st [.eff (.ptr p19 0) id, .eff (.tup [v24a, (i64 n24b)]) (fun _ => s1), .av FF, .eff (i64 n33) id, .av FF, .eff (i64 n53) id, .av FF, .eff (i64 n64) id, .eff (.tup [(str w65a), (i64 n65b)]) (fun _ => s2), .eff (.ptr p71 0) id, .eff (i64 n74) (fun _ => s3), .av TT] = some ((.tup [(i64 0), (i64 n74)]), s3, [], [loadA E0 st 38 (.ptr w 0) = some (.ptr p19 0) ∧ st = st, obC 7 [x] st (.tup [v24a, (i64 n24b)]) s1, binA E0 .neq 23 (i64 n24b) (i64 0) = some FF, loadA E0 s1 3 (.ptr w 2) = some (i64 n33) ∧ s1 = s1, binA E0 .gtr 3 (i64 n33) (i64 0) = some FF, loadA E0 s1 3 (.ptr w 2) = some (i64 n53) ∧ s1 = s1, binA E0 .eql 3 (i64 n53) (i64 0) = some FF, loadA E0 s1 3 (.ptr w 2) = some (i64 n64) ∧ s1 = s1, obC 5 [(i64 n64)] s1 (.tup [(str w65a), (i64 n65b)]) s2, loadA E0 s2 38 (.ptr w 0) = some (.ptr p71 0) ∧ s2 = s2, obC 32 [(.ptr p71 0), (str w65a), v24a] s2 (i64 n74) s3, binA E0 .neq 23 (i64 n74) (i64 0) = some TT]) := by kernel_rfl
theorem f16_FFFT {st s1 s2 s3 : St} {w p19 p71 : Nat} {x v24a : AV} {n24b n33 n53 n64 n65b n74 : Int} {w65a : ByteArray} (h1 : loadA E0 st 38 (.ptr w 0) = some (.ptr p19 0)) (h2 : obC 7 [x] st (.tup [v24a, (i64 n24b)]) s1) (h3 : binA E0 .neq 23 (i64 n24b) (i64 0) = some FF) (h4 : loadA E0 s1 3 (.ptr w 2) = some (i64 n33)) (h5 : binA E0 .gtr 3 (i64 n33) (i64 0) = some FF) (h6 : loadA E0 s1 3 (.ptr w 2) = some (i64 n53)) (h7 : binA E0 .eql 3 (i64 n53) (i64 0) = some FF) (h8 : loadA E0 s1 3 (.ptr w 2) = some (i64 n64)) (h9 : obC 5 [(i64 n64)] s1 (.tup [(str w65a), (i64 n65b)]) s2) (h10 : loadA E0 s2 38 (.ptr w 0) = some (.ptr p71 0)) (h11 : obC 32 [(.ptr p71 0), (str w65a), v24a] s2 (i64 n74) s3) (h12 : binA E0 .neq 23 (i64 n74) (i64 0) = some TT) : obC 16 [(.ptr w 0), x] st (.tup [(i64 0), (i64 n74)]) s3 := ACalls.run hE noOv_ok (f16_FFFT_e st s1 s2 s3 w p19 p71 x v24a n24b n33 n53 n64 n65b n74 w65a) (Ob.ok_cons.2 ⟨⟨h1, rfl⟩, (Ob.ok_cons.2 ⟨h2, (Ob.ok_cons.2 ⟨h3, (Ob.ok_cons.2 ⟨⟨h4, rfl⟩, (Ob.ok_cons.2 ⟨h5, (Ob.ok_cons.2 ⟨⟨h6, rfl⟩, (Ob.ok_cons.2 ⟨h7, (Ob.ok_cons.2 ⟨⟨h8, rfl⟩, (Ob.ok_cons.2 ⟨h9, (Ob.ok_cons.2 ⟨⟨h10, rfl⟩, (Ob.ok_cons.2 ⟨h11, (Ob.ok_cons.2 ⟨h12, Ob.ok_nil⟩)⟩)⟩)⟩)⟩)⟩)⟩)⟩)⟩)⟩)⟩)⟩)
theorem f16_FFFF_e (st s1 s2 s3 s4 : St) (w p19 p71 : Nat) (x v24a : AV) (n24b n33 n53 n64 n65b n74 n81 n82 n88 : Int) (w65a : ByteArray) : evCallS Tryz.prog E0 noOv (fun _ => [2019, 2033, 2039, 2053, 2064, 2071, 2081, 2088, 5000, 6005, 6007, 6018, 6032, 6051, 7028, 7034, 7040, 7045, 7054, 7058, 7076, 7082]) 100000 16 [(.ptr w 0), x] st [.eff (.ptr p19 0) id, .eff (.tup [v24a, (i64 n24b)]) (fun _ => s1), .av FF, .eff (i64 n33) id, .av FF, .eff (i64 n53) id, .av FF, .eff (i64 n64) id, .eff (.tup [(str w65a), (i64 n65b)]) (fun _ => s2), .eff (.ptr p71 0) id, .eff (i64 n74) (fun _ => s3), .av FF, .eff (i64 n81) id, .av (i64 n82), .eff .undef (fun _ => s4), .eff (i64 n88) id] = some ((.tup [(i64 n88), (i64 0)]), s4, [], [loadA E0 st 38 (.ptr w 0) = some (.ptr p19 0) ∧ st = st, obC 7 [x] st (.tup [v24a, (i64 n24b)]) s1, binA E0 .neq 23 (i64 n24b) (i64 0) = some FF, loadA E0 s1 3 (.ptr w 2) = some (i64 n33) ∧ s1 = s1, binA E0 .gtr 3 (i64 n33) (i64 0) = some FF, loadA E0 s1 3 (.ptr w 2) = some (i64 n53) ∧ s1 = s1, binA E0 .eql 3 (i64 n53) (i64 0) = some FF, loadA E0 s1 3 (.ptr w 2) = some (i64 n64) ∧ s1 = s1, obC 5 [(i64 n64)] s1 (.tup [(str w65a), (i64 n65b)]) s2, loadA E0 s2 38 (.ptr w 0) = some (.ptr p71 0) ∧ s2 = s2, obC 32 [(.ptr p71 0), (str w65a), v24a] s2 (i64 n74) s3, binA E0 .neq 23 (i64 n74) (i64 0) = some FF, loadA E0 s3 3 (.ptr w 3) = some (i64 n81) ∧ s3 = s3, binA E0 .add 3 (i64 n81) (i64 1) = some (i64 n82), storeA E0 s3 3 (.ptr w 3) (i64 n82) = some s4, loadA E0 s4 3 (.ptr w 2) = some (i64 n88) ∧ s4 = s4]) := by kernel_rfl
theorem f16_FFFF {st s1 s2 s3 s4 : St} {w p19 p71 : Nat} {x v24a : AV} {n24b n33 n53 n64 n65b n74 n81 n82 n88 : Int} {w65a : ByteArray} (h1 : loadA E0 st 38 (.ptr w 0) = some (.ptr p19 0)) (h2 : obC 7 [x] st (.tup [v24a, (i64 n24b)]) s1) (h3 : binA E0 .neq 23 (i64 n24b) (i64 0) = some FF) (h4 : loadA E0 s1 3 (.ptr w 2) = some (i64 n33)) (h5 : binA E0 .gtr 3 (i64 n33) (i64 0) = some FF) (h6 : loadA E0 s1 3 (.ptr w 2) = some (i64 n53)) (h7 : binA E0 .eql 3 (i64 n53) (i64 0) = some FF) (h8 : loadA E0 s1 3 (.ptr w 2) = some (i64 n64)) (h9 : obC 5 [(i64 n64)] s1 (.tup [(str w65a), (i64 n65b)]) s2) (h10 : loadA E0 s2 38 (.ptr w 0) = some (.ptr p71 0)) (h11 : obC 32 [(.ptr p71 0), (str w65a), v24a] s2 (i64 n74) s3) (h12 : binA E0 .neq 23 (i64 n74) (i64 0) = some FF) (h13 : loadA E0 s3 3 (.ptr w 3) = some (i64 n81)) (h14 : binA E0 .add 3 (i64 n81) (i64 1) = some (i64 n82)) (h15 : storeA E0 s3 3 (.ptr w 3) (i64 n82) = some s4) (h16 : loadA E0 s4 3 (.ptr w 2) = some (i64 n88)) : obC 16 [(.ptr w 0), x] st (.tup [(i64 n88), (i64 0)]) s4 := ACalls.run hE noOv_ok (f16_FFFF_e st s1 s2 s3 s4 w p19 p71 x v24a n24b n33 n53 n64 n65b n74 n81 n82 n88 w65a) (Ob.ok_cons.2 ⟨⟨h1, rfl⟩, (Ob.ok_cons.2 ⟨h2, (Ob.ok_cons.2 ⟨h3, (Ob.ok_cons.2 ⟨⟨h4, rfl⟩, (Ob.ok_cons.2 ⟨h5, (Ob.ok_cons.2 ⟨⟨h6, rfl⟩, (Ob.ok_cons.2 ⟨h7, (Ob.ok_cons.2 ⟨⟨h8, rfl⟩, (Ob.ok_cons.2 ⟨h9, (Ob.ok_cons.2 ⟨⟨h10, rfl⟩, (Ob.ok_cons.2 ⟨h11, (Ob.ok_cons.2 ⟨h12, (Ob.ok_cons.2 ⟨⟨h13, rfl⟩, (Ob.ok_cons.2 ⟨h14, (Ob.ok_cons.2 ⟨h15, (Ob.ok_cons.2 ⟨⟨h16, rfl⟩, Ob.ok_nil⟩)⟩)⟩)⟩)⟩)⟩)⟩)⟩)⟩)⟩)⟩)⟩)⟩)⟩)⟩)⟩)
theorem f13_T_e (st s1 s2 : St) (q n10b n15b : Int) (p10a p15a : Nat) : evCallS Tryz.prog E0 noOv (fun _ => [6047, 6048, 7019, 7022]) 100000 13 [(i64 q)] st [.eff (.tup [(.ptr p10a 0), (i64 n10b)]) (fun _ => s1), .eff (.tup [(.ptr p15a 0), (i64 n15b)]) (fun _ => s2), .av TT] = some ((.tup [.nilp, .nilp]), s2, [], [obC 47 [(i64 q)] st (.tup [(.ptr p10a 0), (i64 n10b)]) s1, obC 48 [(i64 q)] s1 (.tup [(.ptr p15a 0), (i64 n15b)]) s2, binA E0 .neq 23 (i64 n10b) (i64 0) = some TT]) := by kernel_rfl
theorem f13_T {st s1 s2 : St} {q n10b n15b : Int} {p10a p15a : Nat} (h1 : obC 47 [(i64 q)] st (.tup [(.ptr p10a 0), (i64 n10b)]) s1) (h2 : obC 48 [(i64 q)] s1 (.tup [(.ptr p15a 0), (i64 n15b)]) s2) (h3 : binA E0 .neq 23 (i64 n10b) (i64 0) = some TT) : obC 13 [(i64 q)] st (.tup [.nilp, .nilp]) s2 := ACalls.run hE noOv_ok (f13_T_e st s1 s2 q n10b n15b p10a p15a) (Ob.ok_cons.2 ⟨h1, (Ob.ok_cons.2 ⟨h2, (Ob.ok_cons.2 ⟨h3, Ob.ok_nil⟩)⟩)⟩)
theorem f13_FT_e (st s1 s2 : St) (q n10b n15b : Int) (p10a p15a : Nat) : evCallS Tryz.prog E0 noOv (fun _ => [6047, 6048, 7019, 7022]) 100000 13 [(i64 q)] st [.eff (.tup [(.ptr p10a 0), (i64 n10b)]) (fun _ => s1), .eff (.tup [(.ptr p15a 0), (i64 n15b)]) (fun _ => s2), .av FF, .av TT] = some ((.tup [.nilp, .nilp]), s2, [], [obC 47 [(i64 q)] st (.tup [(.ptr p10a 0), (i64 n10b)]) s1, obC 48 [(i64 q)] s1 (.tup [(.ptr p15a 0), (i64 n15b)]) s2, binA E0 .neq 23 (i64 n10b) (i64 0) = some FF, binA E0 .neq 3 (i64 n15b) (i64 0) = some TT]) := by kernel_rfl
theorem f13_FT {st s1 s2 : St} {q n10b n15b : Int} {p10a p15a : Nat} (h1 : obC 47 [(i64 q)] st (.tup [(.ptr p10a 0), (i64 n10b)]) s1) (h2 : obC 48 [(i64 q)] s1 (.tup [(.ptr p15a 0), (i64 n15b)]) s2) (h3 : binA E0 .neq 23 (i64 n10b) (i64 0) = some FF) (h4 : binA E0 .neq 3 (i64 n15b) (i64 0) = some TT) : obC 13 [(i64 q)] st (.tup [.nilp, .nilp]) s2 := ACalls.run hE noOv_ok (f13_FT_e st s1 s2 q n10b n15b p10a p15a) (Ob.ok_cons.2 ⟨h1, (Ob.ok_cons.2 ⟨h2, (Ob.ok_cons.2 ⟨h3, (Ob.ok_cons.2 ⟨h4, Ob.ok_nil⟩)⟩)⟩)⟩)
theorem f13_FF_e (st s1 s2 : St) (q n10b n15b : Int) (p10a p15a : Nat) : evCallS Tryz.prog E0 noOv (fun _ => [6047, 6048, 7019, 7022]) 100000 13 [(i64 q)] st [.eff (.tup [(.ptr p10a 0), (i64 n10b)]) (fun _ => s1), .eff (.tup [(.ptr p15a 0), (i64 n15b)]) (fun _ => s2), .av FF, .av FF] = some ((.tup [(.ptr p10a 0), (.ptr p15a 0)]), s2, [], [obC 47 [(i64 q)] st (.tup [(.ptr p10a 0), (i64 n10b)]) s1, obC 48 [(i64 q)] s1 (.tup [(.ptr p15a 0), (i64 n15b)]) s2, binA E0 .neq 23 (i64 n10b) (i64 0) = some FF, binA E0 .neq 3 (i64 n15b) (i64 0) = some FF]) := by kernel_rfl
theorem f13_FF {st s1 s2 : St} {q n10b n15b : Int} {p10a p15a : Nat} (h1 : obC 47 [(i64 q)] st (.tup [(.ptr p10a 0), (i64 n10b)]) s1) (h2 : obC 48 [(i64 q)] s1 (.tup [(.ptr p15a 0), (i64 n15b)]) s2) (h3 : binA E0 .neq 23 (i64 n10b) (i64 0) = some FF) (h4 : binA E0 .neq 3 (i64 n15b) (i64 0) = some FF) : obC 13 [(i64 q)] st (.tup [(.ptr p10a 0), (.ptr p15a 0)]) s2 := ACalls.run hE noOv_ok (f13_FF_e st s1 s2 q n10b n15b p10a p15a) (Ob.ok_cons.2 ⟨h1, (Ob.ok_cons.2 ⟨h2, (Ob.ok_cons.2 ⟨h3, (Ob.ok_cons.2 ⟨h4, Ob.ok_nil⟩)⟩)⟩)⟩)
theorem f11_T_e (st : St) (x y : AV) (w6 w8 : ByteArray) : evCallS Tryz.prog E0 noOv (fun _ => [2006, 2008, 7009]) 100000 11 [x, y] st [.eff (str w6) id, .eff (str w8) id, .av TT] = some (TT, st, [], [convO E0 st 22 9 x = some ((str w6), st), convO E0 st 22 9 y = some ((str w8), st), binA E0 .eql 9 (str w6) (str w8) = some TT]) := by kernel_rfl
theorem f11_T {st : St} {x y : AV} {w6 w8 : ByteArray} (h1 : convO E0 st 22 9 x = some ((str w6), st)) (h2 : convO E0 st 22 9 y = some ((str w8), st)) (h3 : binA E0 .eql 9 (str w6) (str w8) = some TT) : obC 11 [x, y] st TT st := ACalls.run hE noOv_ok (f11_T_e st x y w6 w8) (Ob.ok_cons.2 ⟨h1, (Ob.ok_cons.2 ⟨h2, (Ob.ok_cons.2 ⟨h3, Ob.ok_nil⟩)⟩)⟩)
theorem f11_F_e (st : St) (x y : AV) (w6 w8 : ByteArray) : evCallS Tryz.prog E0 noOv (fun _ => [2006, 2008, 7009]) 100000 11 [x, y] st [.eff (str w6) id, .eff (str w8) id, .av FF] = some (FF, st, [], [convO E0 st 22 9 x = some ((str w6), st), convO E0 st 22 9 y = some ((str w8), st), binA E0 .eql 9 (str w6) (str w8) = some FF]) := by kernel_rfl
theorem f11_F {st : St} {x y : AV} {w6 w8 : ByteArray} (h1 : convO E0 st 22 9 x = some ((str w6), st)) (h2 : convO E0 st 22 9 y = some ((str w8), st)) (h3 : binA E0 .eql 9 (str w6) (str w8) = some FF) : obC 11 [x, y] st FF st := ACalls.run hE noOv_ok (f11_F_e st x y w6 w8) (Ob.ok_cons.2 ⟨h1, (Ob.ok_cons.2 ⟨h2, (Ob.ok_cons.2 ⟨h3, Ob.ok_nil⟩)⟩)⟩)
noncomputable def f36P (i : Nat) : Code := match Tryz.f36.body with
  | some (.seq x0 (.seq x1 (.seq x2 (.seq (.seq x3 (.block 0 (.loop x4))) x5)))) => [x0, x1, x2, x3, x4, x5].getD i .skip
  | _ => .skip
theorem f36body : Tryz.f36.body = some (.seq (f36P 0) (.seq (f36P 1) (.seq (f36P 2) (.seq (.seq (f36P 3) (.block 0 (.loop (f36P 4)))) (f36P 5))))) := by kernel_rfl
def f36L0 (T : Tm) (a0 : AV) : Prop := T.n = 29 ∧ T.get 0 = a0
theorem f36_0_e (w : Nat) (st : St) : ((evS Tryz.prog E0 noOv noS 100000 [] (f36P 0) ⟨29, [(0, (.ptr w 0))], []⟩ st []).map fun q => (q.1, q.2.1.n, ([q.2.1.get 0] : List AV), q.2.2.1, q.2.2.2.2)) = some (.normal, 29, [(.ptr w 0)], st, []) := by kernel_rfl
theorem f36_0 {w : Nat} {st : St}  {T : Tm} (hT : f36L0 T (.ptr w 0)) : AW Tryz.prog (f36P 0) (fun ex T' st' => ex = .normal ∧ f36L0 T' (.ptr w 0) ∧ st' = st) T st := by
  obtain ⟨hn, g0⟩ := hT
  exact (gen_run (G := fun T => ([T.get 0] : List AV)) hE (f36_0_e w st) Ob.ok_nil hn (one g0)).mono fun ex T' st' ⟨q1, q2, q3, q4⟩ => by simp only [List.cons.injEq, and_true] at q3; exact ⟨q1, ⟨q2, q3⟩, q4⟩
theorem f36_1_e (w : Nat) (st : St) : ((evS Tryz.prog E0 noOv noS 100000 [] (f36P 1) ⟨29, [(0, (.ptr w 0))], []⟩ st []).map fun q => (q.1, q.2.1.n, ([q.2.1.get 0] : List AV), q.2.2.1, q.2.2.2.2)) = some (.normal, 29, [(.ptr w 0)], st, []) := by kernel_rfl
theorem f36_1 {w : Nat} {st : St}  {T : Tm} (hT : f36L0 T (.ptr w 0)) : AW Tryz.prog (f36P 1) (fun ex T' st' => ex = .normal ∧ f36L0 T' (.ptr w 0) ∧ st' = st) T st := by
  obtain ⟨hn, g0⟩ := hT
  exact (gen_run (G := fun T => ([T.get 0] : List AV)) hE (f36_1_e w st) Ob.ok_nil hn (one g0)).mono fun ex T' st' ⟨q1, q2, q3, q4⟩ => by simp only [List.cons.injEq, and_true] at q3; exact ⟨q1, ⟨q2, q3⟩, q4⟩
def f36L1 (T : Tm) (a0 a3 : AV) : Prop := T.n = 29 ∧ T.get 0 = a0 ∧ T.get 3 = a3
theorem f36_2_e (w : Nat) (st : St) : ((evS Tryz.prog E0 noOv noS 100000 [] (f36P 2) ⟨29, [(0, (.ptr w 0))], []⟩ st []).map fun q => (q.1, q.2.1.n, ([q.2.1.get 0, q.2.1.get 3] : List AV), q.2.2.1, q.2.2.2.2)) = some (.normal, 29, [(.ptr w 0), .nils], st, []) := by kernel_rfl
theorem f36_2 {w : Nat} {st : St}  {T : Tm} (hT : f36L0 T (.ptr w 0)) : AW Tryz.prog (f36P 2) (fun ex T' st' => ex = .normal ∧ f36L1 T' (.ptr w 0) .nils ∧ st' = st) T st := by
  obtain ⟨hn, g0⟩ := hT
  exact (gen_run (G := fun T => ([T.get 0, T.get 3] : List AV)) hE (f36_2_e w st) Ob.ok_nil hn (one g0)).mono fun ex T' st' ⟨q1, q2, q3, q4⟩ => by simp only [List.cons.injEq, and_true] at q3; exact ⟨q1, ⟨q2, q3⟩, q4⟩
def f36L2 (T : Tm) (a3 a13 a14 a15 : AV) : Prop := T.n = 29 ∧ T.get 3 = a3 ∧ T.get 13 = a13 ∧ T.get 14 = a14 ∧ T.get 15 = a15
theorem f36_3_e (w p12 : Nat) (v3 v13 : AV) (st s1 : St) (n14 : Int) : ((evS Tryz.prog E0 noOv noS 100000 [2012, 6056, 7014] (f36P 3) ⟨29, [(0, (.ptr w 0)), (3, v3)], []⟩ st [.eff (.ptr p12 0) id, .eff v13 (fun _ => s1), .av (i64 n14)]).map fun q => (q.1, q.2.1.n, ([q.2.1.get 3, q.2.1.get 13, q.2.1.get 14, q.2.1.get 15] : List AV), q.2.2.1, q.2.2.2.2)) = some (.normal, 29, [v3, v13, (i64 n14), (i64 0)], s1, [loadA E0 st 38 (.ptr w 0) = some (.ptr p12 0) ∧ st = st, obC 56 [(.ptr p12 0)] st v13 s1, lenA E0 101 v13 = some (i64 n14)]) := by kernel_rfl
theorem f36_3 {w p12 : Nat} {v3 v13 : AV} {st s1 : St} {n14 : Int} (h1 : loadA E0 st 38 (.ptr w 0) = some (.ptr p12 0)) (h2 : obC 56 [(.ptr p12 0)] st v13 s1) (h3 : lenA E0 101 v13 = some (i64 n14)) {T : Tm} (hT : f36L1 T (.ptr w 0) v3) : AW Tryz.prog (f36P 3) (fun ex T' st' => ex = .normal ∧ f36L2 T' v3 v13 (i64 n14) (i64 0) ∧ st' = s1) T st := by
  obtain ⟨hn, g0, g3⟩ := hT
  exact (gen_run (G := fun T => ([T.get 3, T.get 13, T.get 14, T.get 15] : List AV)) hE (f36_3_e w p12 v3 v13 st s1 n14) (Ob.ok_cons.2 ⟨⟨h1, rfl⟩, (Ob.ok_cons.2 ⟨h2, (Ob.ok_cons.2 ⟨h3, Ob.ok_nil⟩)⟩)⟩) hn (conz g0 (one g3))).mono fun ex T' st' ⟨q1, q2, q3, q4⟩ => by simp only [List.cons.injEq, and_true] at q3; exact ⟨q1, ⟨q2, q3⟩, q4⟩
theorem f36_4_TT_e (v3 v13 q17 v25 v26 : AV) (n14 n15 n20 n27 : Int) (st s1 s2 s3 : St) (w18 : ByteArray) : ((evS Tryz.prog E0 noOv noS 100000 [2018, 2025, 2026, 6071, 7016, 7017, 7022, 7027] (f36P 4) ⟨29, [(3, v3), (13, v13), (14, (i64 n14)), (15, (i64 n15))], []⟩ st [.av TT, .av q17, .eff (str w18) id, .eff (i64 n20) (fun _ => s1), .av TT, .eff v25 (fun _ => s2), .eff v26 (fun _ => s3), .av (i64 n27)]).map fun q => (q.1, q.2.1.n, ([q.2.1.get 3, q.2.1.get 13, q.2.1.get 14, q.2.1.get 15] : List AV), q.2.2.1, q.2.2.2.2)) = some (.normal, 29, [v26, v13, (i64 n14), (i64 n27)], s3, [binA E0 .lss 3 (i64 n15) (i64 n14) = some TT, indexAddrA E0 101 v13 (i64 n15) = some q17, loadA E0 st 9 q17 = some (str w18) ∧ st = st, obC 71 [(str w18)] st (i64 n20) s1, binA E0 .gtr 3 (i64 n20) (i64 0) = some TT, buildSliceA E0 s1 73 1 [(0, (i64 n20))] = some (v25, s2), appendA E0 s2 73 73 v3 v25 = some (v26, s3), binA E0 .add 3 (i64 n15) (i64 1) = some (i64 n27)]) := by kernel_rfl
theorem f36_4_TT {v3 v13 q17 v25 v26 : AV} {n14 n15 n20 n27 : Int} {st s1 s2 s3 : St} {w18 : ByteArray} (h1 : binA E0 .lss 3 (i64 n15) (i64 n14) = some TT) (h2 : indexAddrA E0 101 v13 (i64 n15) = some q17) (h3 : loadA E0 st 9 q17 = some (str w18)) (h4 : obC 71 [(str w18)] st (i64 n20) s1) (h5 : binA E0 .gtr 3 (i64 n20) (i64 0) = some TT) (h6 : buildSliceA E0 s1 73 1 [(0, (i64 n20))] = some (v25, s2)) (h7 : appendA E0 s2 73 73 v3 v25 = some (v26, s3)) (h8 : binA E0 .add 3 (i64 n15) (i64 1) = some (i64 n27)) {T : Tm} (hT : f36L2 T v3 v13 (i64 n14) (i64 n15)) : AW Tryz.prog (f36P 4) (fun ex T' st' => ex = .normal ∧ f36L2 T' v26 v13 (i64 n14) (i64 n27) ∧ st' = s3) T st := by
  obtain ⟨hn, g3, g13, g14, g15⟩ := hT
  exact (gen_run (G := fun T => ([T.get 3, T.get 13, T.get 14, T.get 15] : List AV)) hE (f36_4_TT_e v3 v13 q17 v25 v26 n14 n15 n20 n27 st s1 s2 s3 w18) (Ob.ok_cons.2 ⟨h1, (Ob.ok_cons.2 ⟨h2, (Ob.ok_cons.2 ⟨⟨h3, rfl⟩, (Ob.ok_cons.2 ⟨h4, (Ob.ok_cons.2 ⟨h5, (Ob.ok_cons.2 ⟨h6, (Ob.ok_cons.2 ⟨h7, (Ob.ok_cons.2 ⟨h8, Ob.ok_nil⟩)⟩)⟩)⟩)⟩)⟩)⟩)⟩) hn (conz g3 (conz g13 (conz g14 (one g15))))).mono fun ex T' st' ⟨q1, q2, q3, q4⟩ => by simp only [List.cons.injEq, and_true] at q3; exact ⟨q1, ⟨q2, q3⟩, q4⟩
theorem f36_4_TF_e (v3 v13 q17 : AV) (n14 n15 n20 n27 : Int) (st s1 : St) (w18 : ByteArray) : ((evS Tryz.prog E0 noOv noS 100000 [2018, 2025, 2026, 6071, 7016, 7017, 7022, 7027] (f36P 4) ⟨29, [(3, v3), (13, v13), (14, (i64 n14)), (15, (i64 n15))], []⟩ st [.av TT, .av q17, .eff (str w18) id, .eff (i64 n20) (fun _ => s1), .av FF, .av (i64 n27)]).map fun q => (q.1, q.2.1.n, ([q.2.1.get 3, q.2.1.get 13, q.2.1.get 14, q.2.1.get 15] : List AV), q.2.2.1, q.2.2.2.2)) = some (.normal, 29, [v3, v13, (i64 n14), (i64 n27)], s1, [binA E0 .lss 3 (i64 n15) (i64 n14) = some TT, indexAddrA E0 101 v13 (i64 n15) = some q17, loadA E0 st 9 q17 = some (str w18) ∧ st = st, obC 71 [(str w18)] st (i64 n20) s1, binA E0 .gtr 3 (i64 n20) (i64 0) = some FF, binA E0 .add 3 (i64 n15) (i64 1) = some (i64 n27)]) := by kernel_rfl
theorem f36_4_TF {v3 v13 q17 : AV} {n14 n15 n20 n27 : Int} {st s1 : St} {w18 : ByteArray} (h1 : binA E0 .lss 3 (i64 n15) (i64 n14) = some TT) (h2 : indexAddrA E0 101 v13 (i64 n15) = some q17) (h3 : loadA E0 st 9 q17 = some (str w18)) (h4 : obC 71 [(str w18)] st (i64 n20) s1) (h5 : binA E0 .gtr 3 (i64 n20) (i64 0) = some FF) (h6 : binA E0 .add 3 (i64 n15) (i64 1) = some (i64 n27)) {T : Tm} (hT : f36L2 T v3 v13 (i64 n14) (i64 n15)) : AW Tryz.prog (f36P 4) (fun ex T' st' => ex = .normal ∧ f36L2 T' v3 v13 (i64 n14) (i64 n27) ∧ st' = s1) T st := by
  obtain ⟨hn, g3, g13, g14, g15⟩ := hT
  exact (gen_run (G := fun T => ([T.get 3, T.get 13, T.get 14, T.get 15] : List AV)) hE (f36_4_TF_e v3 v13 q17 n14 n15 n20 n27 st s1 w18) (Ob.ok_cons.2 ⟨h1, (Ob.ok_cons.2 ⟨h2, (Ob.ok_cons.2 ⟨⟨h3, rfl⟩, (Ob.ok_cons.2 ⟨h4, (Ob.ok_cons.2 ⟨h5, (Ob.ok_cons.2 ⟨h6, Ob.ok_nil⟩)⟩)⟩)⟩)⟩)⟩) hn (conz g3 (conz g13 (conz g14 (one g15))))).mono fun ex T' st' ⟨q1, q2, q3, q4⟩ => by simp only [List.cons.injEq, and_true] at q3; exact ⟨q1, ⟨q2, q3⟩, q4⟩
def f36L3 (T : Tm) (a3 : AV) : Prop := T.n = 29 ∧ T.get 3 = a3
theorem f36_4_F_e (v3 v13 : AV) (n14 n15 : Int) (st : St) : ((evS Tryz.prog E0 noOv noS 100000 [2018, 2025, 2026, 6071, 7016, 7017, 7022, 7027] (f36P 4) ⟨29, [(3, v3), (13, v13), (14, (i64 n14)), (15, (i64 n15))], []⟩ st [.av FF]).map fun q => (q.1, q.2.1.n, ([q.2.1.get 3] : List AV), q.2.2.1, q.2.2.2.2)) = some ((.exit 0), 29, [v3], st, [binA E0 .lss 3 (i64 n15) (i64 n14) = some FF]) := by kernel_rfl
theorem f36_4_F {v3 v13 : AV} {n14 n15 : Int} {st : St} (h1 : binA E0 .lss 3 (i64 n15) (i64 n14) = some FF) {T : Tm} (hT : f36L2 T v3 v13 (i64 n14) (i64 n15)) : AW Tryz.prog (f36P 4) (fun ex T' st' => ex = (.exit 0) ∧ f36L3 T' v3 ∧ st' = st) T st := by
  obtain ⟨hn, g3, g13, g14, g15⟩ := hT
  exact (gen_run (G := fun T => ([T.get 3] : List AV)) hE (f36_4_F_e v3 v13 n14 n15 st) (Ob.ok_cons.2 ⟨h1, Ob.ok_nil⟩) hn (conz g3 (conz g13 (conz g14 (one g15))))).mono fun ex T' st' ⟨q1, q2, q3, q4⟩ => by simp only [List.cons.injEq, and_true] at q3; exact ⟨q1, ⟨q2, q3⟩, q4⟩
def f36L4 (T : Tm) (a2 : AV) : Prop := T.n = 29 ∧ T.get 2 = a2
theorem f36_5_e (v3 : AV) (st : St) : ((evS Tryz.prog E0 noOv noS 100000 [] (f36P 5) ⟨29, [(3, v3)], []⟩ st []).map fun q => (q.1, q.2.1.n, ([q.2.1.get 2] : List AV), q.2.2.1, q.2.2.2.2)) = some (.ret, 29, [v3], st, []) := by kernel_rfl
theorem f36_5 {v3 : AV} {st : St}  {T : Tm} (hT : f36L3 T v3) : AW Tryz.prog (f36P 5) (fun ex T' st' => ex = .ret ∧ f36L4 T' v3 ∧ st' = st) T st := by
  obtain ⟨hn, g3⟩ := hT
  exact (gen_run (G := fun T => ([T.get 2] : List AV)) hE (f36_5_e v3 st) Ob.ok_nil hn (one g3)).mono fun ex T' st' ⟨q1, q2, q3, q4⟩ => by simp only [List.cons.injEq, and_true] at q3; exact ⟨q1, ⟨q2, q3⟩, q4⟩
noncomputable def f20P (i : Nat) : Code := match Tryz.f20.body with
  | some (.seq x0 (.seq x1 (.seq (.seq x2 (.block 0 (.loop x3))) x4))) => [x0, x1, x2, x3, x4].getD i .skip
  | _ => .skip
theorem f20body : Tryz.f20.body = some (.seq (f20P 0) (.seq (f20P 1) (.seq (.seq (f20P 2) (.block 0 (.loop (f20P 3)))) (f20P 4)))) := by kernel_rfl
def f20L0 (T : Tm) (a0 a1 : AV) : Prop := T.n = 52 ∧ T.get 0 = a0 ∧ T.get 1 = a1
theorem f20_0_e (w : Nat) (n1 : Int) (st : St) : ((evS Tryz.prog E0 noOv noS 100000 [] (f20P 0) ⟨52, [(0, (.ptr w 0)), (1, (i64 n1))], []⟩ st []).map fun q => (q.1, q.2.1.n, ([q.2.1.get 0, q.2.1.get 1] : List AV), q.2.2.1, q.2.2.2.2)) = some (.normal, 52, [(.ptr w 0), (i64 n1)], st, []) := by kernel_rfl
theorem f20_0 {w : Nat} {n1 : Int} {st : St}  {T : Tm} (hT : f20L0 T (.ptr w 0) (i64 n1)) : AW Tryz.prog (f20P 0) (fun ex T' st' => ex = .normal ∧ f20L0 T' (.ptr w 0) (i64 n1) ∧ st' = st) T st := by
  obtain ⟨hn, g0, g1⟩ := hT
  exact (gen_run (G := fun T => ([T.get 0, T.get 1] : List AV)) hE (f20_0_e w n1 st) Ob.ok_nil hn (conz g0 (one g1))).mono fun ex T' st' ⟨q1, q2, q3, q4⟩ => by simp only [List.cons.injEq, and_true] at q3; exact ⟨q1, ⟨q2, q3⟩, q4⟩
theorem f20_1_e (w p16 : Nat) (n1 : Int) (st : St) : ((evS Tryz.prog E0 noOv noS 100000 [2016] (f20P 1) ⟨52, [(0, (.ptr w 0)), (1, (i64 n1))], []⟩ st [.eff (.ptr p16 0) id]).map fun q => (q.1, q.2.1.n, ([q.2.1.get 0, q.2.1.get 1] : List AV), q.2.2.1, q.2.2.2.2)) = some (.normal, 52, [(.ptr w 0), (i64 n1)], st, [loadA E0 st 38 (.ptr w 0) = some (.ptr p16 0) ∧ st = st]) := by kernel_rfl
theorem f20_1 {w p16 : Nat} {n1 : Int} {st : St} (h1 : loadA E0 st 38 (.ptr w 0) = some (.ptr p16 0)) {T : Tm} (hT : f20L0 T (.ptr w 0) (i64 n1)) : AW Tryz.prog (f20P 1) (fun ex T' st' => ex = .normal ∧ f20L0 T' (.ptr w 0) (i64 n1) ∧ st' = st) T st := by
  obtain ⟨hn, g0, g1⟩ := hT
  exact (gen_run (G := fun T => ([T.get 0, T.get 1] : List AV)) hE (f20_1_e w p16 n1 st) (Ob.ok_cons.2 ⟨⟨h1, rfl⟩, Ob.ok_nil⟩) hn (conz g0 (one g1))).mono fun ex T' st' ⟨q1, q2, q3, q4⟩ => by simp only [List.cons.injEq, and_true] at q3; exact ⟨q1, ⟨q2, q3⟩, q4⟩
def f20L1 (T : Tm) (a0 a1 a20 a21 a22 : AV) : Prop := T.n = 52 ∧ T.get 0 = a0 ∧ T.get 1 = a1 ∧ T.get 20 = a20 ∧ T.get 21 = a21 ∧ T.get 22 = a22
theorem f20_2_e (w : Nat) (n1 n21 : Int) (st s1 : St) (v20 : AV) : ((evS Tryz.prog E0 noOv noS 100000 [6036, 7021] (f20P 2) ⟨52, [(0, (.ptr w 0)), (1, (i64 n1))], []⟩ st [.eff v20 (fun _ => s1), .av (i64 n21)]).map fun q => (q.1, q.2.1.n, ([q.2.1.get 0, q.2.1.get 1, q.2.1.get 20, q.2.1.get 21, q.2.1.get 22] : List AV), q.2.2.1, q.2.2.2.2)) = some (.normal, 52, [(.ptr w 0), (i64 n1), v20, (i64 n21), (i64 0)], s1, [obC 36 [(.ptr w 0)] st v20 s1, lenA E0 73 v20 = some (i64 n21)]) := by kernel_rfl
theorem f20_2 {w : Nat} {n1 n21 : Int} {st s1 : St} {v20 : AV} (h1 : obC 36 [(.ptr w 0)] st v20 s1) (h2 : lenA E0 73 v20 = some (i64 n21)) {T : Tm} (hT : f20L0 T (.ptr w 0) (i64 n1)) : AW Tryz.prog (f20P 2) (fun ex T' st' => ex = .normal ∧ f20L1 T' (.ptr w 0) (i64 n1) v20 (i64 n21) (i64 0) ∧ st' = s1) T st := by
  obtain ⟨hn, g0, g1⟩ := hT
  exact (gen_run (G := fun T => ([T.get 0, T.get 1, T.get 20, T.get 21, T.get 22] : List AV)) hE (f20_2_e w n1 n21 st s1 v20) (Ob.ok_cons.2 ⟨h1, (Ob.ok_cons.2 ⟨h2, Ob.ok_nil⟩)⟩) hn (conz g0 (one g1))).mono fun ex T' st' ⟨q1, q2, q3, q4⟩ => by simp only [List.cons.injEq, and_true] at q3; exact ⟨q1, ⟨q2, q3⟩, q4⟩
theorem f20_3_TT_e (w : Nat) (n1 n21 n22 n25 n51 : Int) (v20 q24 : AV) (st : St) : ((evS Tryz.prog E0 noOv noS 100000 [2025, 2034, 2045, 6005, 6054, 7023, 7024, 7028, 7035, 7049, 7051] (f20P 3) ⟨52, [(0, (.ptr w 0)), (1, (i64 n1)), (20, v20), (21, (i64 n21)), (22, (i64 n22))], []⟩ st [.av TT, .av q24, .eff (i64 n25) id, .av TT, .av (i64 n51)]).map fun q => (q.1, q.2.1.n, ([q.2.1.get 0, q.2.1.get 1, q.2.1.get 20, q.2.1.get 21, q.2.1.get 22] : List AV), q.2.2.1, q.2.2.2.2)) = some (.normal, 52, [(.ptr w 0), (i64 n1), v20, (i64 n21), (i64 n51)], st, [binA E0 .lss 3 (i64 n22) (i64 n21) = some TT, indexAddrA E0 73 v20 (i64 n22) = some q24, loadA E0 st 3 q24 = some (i64 n25) ∧ st = st, binA E0 .geq 3 (i64 n25) (i64 n1) = some TT, binA E0 .add 3 (i64 n22) (i64 1) = some (i64 n51)]) := by kernel_rfl
theorem f20_3_TT {w : Nat} {n1 n21 n22 n25 n51 : Int} {v20 q24 : AV} {st : St} (h1 : binA E0 .lss 3 (i64 n22) (i64 n21) = some TT) (h2 : indexAddrA E0 73 v20 (i64 n22) = some q24) (h3 : loadA E0 st 3 q24 = some (i64 n25)) (h4 : binA E0 .geq 3 (i64 n25) (i64 n1) = some TT) (h5 : binA E0 .add 3 (i64 n22) (i64 1) = some (i64 n51)) {T : Tm} (hT : f20L1 T (.ptr w 0) (i64 n1) v20 (i64 n21) (i64 n22)) : AW Tryz.prog (f20P 3) (fun ex T' st' => ex = .normal ∧ f20L1 T' (.ptr w 0) (i64 n1) v20 (i64 n21) (i64 n51) ∧ st' = st) T st := by
  obtain ⟨hn, g0, g1, g20, g21, g22⟩ := hT
  exact (gen_run (G := fun T => ([T.get 0, T.get 1, T.get 20, T.get 21, T.get 22] : List AV)) hE (f20_3_TT_e w n1 n21 n22 n25 n51 v20 q24 st) (Ob.ok_cons.2 ⟨h1, (Ob.ok_cons.2 ⟨h2, (Ob.ok_cons.2 ⟨⟨h3, rfl⟩, (Ob.ok_cons.2 ⟨h4, (Ob.ok_cons.2 ⟨h5, Ob.ok_nil⟩)⟩)⟩)⟩)⟩) hn (conz g0 (conz g1 (conz g20 (conz g21 (one g22)))))).mono fun ex T' st' ⟨q1, q2, q3, q4⟩ => by simp only [List.cons.injEq, and_true] at q3; exact ⟨q1, ⟨q2, q3⟩, q4⟩
theorem f20_3_TFT_e (w : Nat) (n1 n21 n22 n25 n34 n51 : Int) (v20 q24 : AV) (st : St) : ((evS Tryz.prog E0 noOv noS 100000 [2025, 2034, 2045, 6005, 6054, 7023, 7024, 7028, 7035, 7049, 7051] (f20P 3) ⟨52, [(0, (.ptr w 0)), (1, (i64 n1)), (20, v20), (21, (i64 n21)), (22, (i64 n22))], []⟩ st [.av TT, .av q24, .eff (i64 n25) id, .av FF, .eff (i64 n34) id, .av TT, .av (i64 n51)]).map fun q => (q.1, q.2.1.n, ([q.2.1.get 0, q.2.1.get 1, q.2.1.get 20, q.2.1.get 21, q.2.1.get 22] : List AV), q.2.2.1, q.2.2.2.2)) = some (.normal, 52, [(.ptr w 0), (i64 n1), v20, (i64 n21), (i64 n51)], st, [binA E0 .lss 3 (i64 n22) (i64 n21) = some TT, indexAddrA E0 73 v20 (i64 n22) = some q24, loadA E0 st 3 q24 = some (i64 n25) ∧ st = st, binA E0 .geq 3 (i64 n25) (i64 n1) = some FF, loadA E0 st 3 (.ptr w 2) = some (i64 n34) ∧ st = st, binA E0 .eql 3 (i64 n25) (i64 n34) = some TT, binA E0 .add 3 (i64 n22) (i64 1) = some (i64 n51)]) := by kernel_rfl
theorem f20_3_TFT {w : Nat} {n1 n21 n22 n25 n34 n51 : Int} {v20 q24 : AV} {st : St} (h1 : binA E0 .lss 3 (i64 n22) (i64 n21) = some TT) (h2 : indexAddrA E0 73 v20 (i64 n22) = some q24) (h3 : loadA E0 st 3 q24 = some (i64 n25)) (h4 : binA E0 .geq 3 (i64 n25) (i64 n1) = some FF) (h5 : loadA E0 st 3 (.ptr w 2) = some (i64 n34)) (h6 : binA E0 .eql 3 (i64 n25) (i64 n34) = some TT) (h7 : binA E0 .add 3 (i64 n22) (i64 1) = some (i64 n51)) {T : Tm} (hT : f20L1 T (.ptr w 0) (i64 n1) v20 (i64 n21) (i64 n22)) : AW Tryz.prog (f20P 3) (fun ex T' st' => ex = .normal ∧ f20L1 T' (.ptr w 0) (i64 n1) v20 (i64 n21) (i64 n51) ∧ st' = st) T st := by
  obtain ⟨hn, g0, g1, g20, g21, g22⟩ := hT
  exact (gen_run (G := fun T => ([T.get 0, T.get 1, T.get 20, T.get 21, T.get 22] : List AV)) hE (f20_3_TFT_e w n1 n21 n22 n25 n34 n51 v20 q24 st) (Ob.ok_cons.2 ⟨h1, (Ob.ok_cons.2 ⟨h2, (Ob.ok_cons.2 ⟨⟨h3, rfl⟩, (Ob.ok_cons.2 ⟨h4, (Ob.ok_cons.2 ⟨⟨h5, rfl⟩, (Ob.ok_cons.2 ⟨h6, (Ob.ok_cons.2 ⟨h7, Ob.ok_nil⟩)⟩)⟩)⟩)⟩)⟩)⟩) hn (conz g0 (conz g1 (conz g20 (conz g21 (one g22)))))).mono fun ex T' st' ⟨q1, q2, q3, q4⟩ => by simp only [List.cons.injEq, and_true] at q3; exact ⟨q1, ⟨q2, q3⟩, q4⟩
def f20L2 (T : Tm) (a4 : AV) : Prop := T.n = 52 ∧ T.get 4 = a4
theorem f20_3_TFFT_e (w p45 : Nat) (n1 n21 n22 n25 n34 n39b n47 : Int) (v20 q24 : AV) (st s1 s2 : St) (w39a : ByteArray) : ((evS Tryz.prog E0 noOv noS 100000 [2025, 2034, 2045, 6005, 6054, 7023, 7024, 7028, 7035, 7049, 7051] (f20P 3) ⟨52, [(0, (.ptr w 0)), (1, (i64 n1)), (20, v20), (21, (i64 n21)), (22, (i64 n22))], []⟩ st [.av TT, .av q24, .eff (i64 n25) id, .av FF, .eff (i64 n34) id, .av FF, .eff (.tup [(str w39a), (i64 n39b)]) (fun _ => s1), .eff (.ptr p45 0) id, .eff (i64 n47) (fun _ => s2), .av TT]).map fun q => (q.1, q.2.1.n, ([q.2.1.get 4] : List AV), q.2.2.1, q.2.2.2.2)) = some (.ret, 52, [(i64 n47)], s2, [binA E0 .lss 3 (i64 n22) (i64 n21) = some TT, indexAddrA E0 73 v20 (i64 n22) = some q24, loadA E0 st 3 q24 = some (i64 n25) ∧ st = st, binA E0 .geq 3 (i64 n25) (i64 n1) = some FF, loadA E0 st 3 (.ptr w 2) = some (i64 n34) ∧ st = st, binA E0 .eql 3 (i64 n25) (i64 n34) = some FF, obC 5 [(i64 n25)] st (.tup [(str w39a), (i64 n39b)]) s1, loadA E0 s1 38 (.ptr w 0) = some (.ptr p45 0) ∧ s1 = s1, obC 54 [(.ptr p45 0), (str w39a)] s1 (i64 n47) s2, binA E0 .neq 23 (i64 n47) (i64 0) = some TT]) := by kernel_rfl
theorem f20_3_TFFT {w p45 : Nat} {n1 n21 n22 n25 n34 n39b n47 : Int} {v20 q24 : AV} {st s1 s2 : St} {w39a : ByteArray} (h1 : binA E0 .lss 3 (i64 n22) (i64 n21) = some TT) (h2 : indexAddrA E0 73 v20 (i64 n22) = some q24) (h3 : loadA E0 st 3 q24 = some (i64 n25)) (h4 : binA E0 .geq 3 (i64 n25) (i64 n1) = some FF) (h5 : loadA E0 st 3 (.ptr w 2) = some (i64 n34)) (h6 : binA E0 .eql 3 (i64 n25) (i64 n34) = some FF) (h7 : obC 5 [(i64 n25)] st (.tup [(str w39a), (i64 n39b)]) s1) (h8 : loadA E0 s1 38 (.ptr w 0) = some (.ptr p45 0)) (h9 : obC 54 [(.ptr p45 0), (str w39a)] s1 (i64 n47) s2) (h10 : binA E0 .neq 23 (i64 n47) (i64 0) = some TT) {T : Tm} (hT : f20L1 T (.ptr w 0) (i64 n1) v20 (i64 n21) (i64 n22)) : AW Tryz.prog (f20P 3) (fun ex T' st' => ex = .ret ∧ f20L2 T' (i64 n47) ∧ st' = s2) T st := by
  obtain ⟨hn, g0, g1, g20, g21, g22⟩ := hT
  exact (gen_run (G := fun T => ([T.get 4] : List AV)) hE (f20_3_TFFT_e w p45 n1 n21 n22 n25 n34 n39b n47 v20 q24 st s1 s2 w39a) (Ob.ok_cons.2 ⟨h1, (Ob.ok_cons.2 ⟨h2, (Ob.ok_cons.2 ⟨⟨h3, rfl⟩, (Ob.ok_cons.2 ⟨h4, (Ob.ok_cons.2 ⟨⟨h5, rfl⟩, (Ob.ok_cons.2 ⟨h6, (Ob.ok_cons.2 ⟨h7, (Ob.ok_cons.2 ⟨⟨h8, rfl⟩, (Ob.ok_cons.2 ⟨h9, (Ob.ok_cons.2 ⟨h10, Ob.ok_nil⟩)⟩)⟩)⟩)⟩)⟩)⟩)⟩)⟩)⟩) hn (conz g0 (conz g1 (conz g20 (conz g21 (one g22)))))).mono fun ex T' st' ⟨q1, q2, q3, q4⟩ => by simp only [List.cons.injEq, and_true] at q3; exact ⟨q1, ⟨q2, q3⟩, q4⟩
theorem f20_3_TFFF_e (w p45 : Nat) (n1 n21 n22 n25 n34 n39b n47 n51 : Int) (v20 q24 : AV) (st s1 s2 : St) (w39a : ByteArray) : ((evS Tryz.prog E0 noOv noS 100000 [2025, 2034, 2045, 6005, 6054, 7023, 7024, 7028, 7035, 7049, 7051] (f20P 3) ⟨52, [(0, (.ptr w 0)), (1, (i64 n1)), (20, v20), (21, (i64 n21)), (22, (i64 n22))], []⟩ st [.av TT, .av q24, .eff (i64 n25) id, .av FF, .eff (i64 n34) id, .av FF, .eff (.tup [(str w39a), (i64 n39b)]) (fun _ => s1), .eff (.ptr p45 0) id, .eff (i64 n47) (fun _ => s2), .av FF, .av (i64 n51)]).map fun q => (q.1, q.2.1.n, ([q.2.1.get 0, q.2.1.get 1, q.2.1.get 20, q.2.1.get 21, q.2.1.get 22] : List AV), q.2.2.1, q.2.2.2.2)) = some (.normal, 52, [(.ptr w 0), (i64 n1), v20, (i64 n21), (i64 n51)], s2, [binA E0 .lss 3 (i64 n22) (i64 n21) = some TT, indexAddrA E0 73 v20 (i64 n22) = some q24, loadA E0 st 3 q24 = some (i64 n25) ∧ st = st, binA E0 .geq 3 (i64 n25) (i64 n1) = some FF, loadA E0 st 3 (.ptr w 2) = some (i64 n34) ∧ st = st, binA E0 .eql 3 (i64 n25) (i64 n34) = some FF, obC 5 [(i64 n25)] st (.tup [(str w39a), (i64 n39b)]) s1, loadA E0 s1 38 (.ptr w 0) = some (.ptr p45 0) ∧ s1 = s1, obC 54 [(.ptr p45 0), (str w39a)] s1 (i64 n47) s2, binA E0 .neq 23 (i64 n47) (i64 0) = some FF, binA E0 .add 3 (i64 n22) (i64 1) = some (i64 n51)]) := by kernel_rfl
theorem f20_3_TFFF {w p45 : Nat} {n1 n21 n22 n25 n34 n39b n47 n51 : Int} {v20 q24 : AV} {st s1 s2 : St} {w39a : ByteArray} (h1 : binA E0 .lss 3 (i64 n22) (i64 n21) = some TT) (h2 : indexAddrA E0 73 v20 (i64 n22) = some q24) (h3 : loadA E0 st 3 q24 = some (i64 n25)) (h4 : binA E0 .geq 3 (i64 n25) (i64 n1) = some FF) (h5 : loadA E0 st 3 (.ptr w 2) = some (i64 n34)) (h6 : binA E0 .eql 3 (i64 n25) (i64 n34) = some FF) (h7 : obC 5 [(i64 n25)] st (.tup [(str w39a), (i64 n39b)]) s1) (h8 : loadA E0 s1 38 (.ptr w 0) = some (.ptr p45 0)) (h9 : obC 54 [(.ptr p45 0), (str w39a)] s1 (i64 n47) s2) (h10 : binA E0 .neq 23 (i64 n47) (i64 0) = some FF) (h11 : binA E0 .add 3 (i64 n22) (i64 1) = some (i64 n51)) {T : Tm} (hT : f20L1 T (.ptr w 0) (i64 n1) v20 (i64 n21) (i64 n22)) : AW Tryz.prog (f20P 3) (fun ex T' st' => ex = .normal ∧ f20L1 T' (.ptr w 0) (i64 n1) v20 (i64 n21) (i64 n51) ∧ st' = s2) T st := by
  obtain ⟨hn, g0, g1, g20, g21, g22⟩ := hT
  exact (gen_run (G := fun T => ([T.get 0, T.get 1, T.get 20, T.get 21, T.get 22] : List AV)) hE (f20_3_TFFF_e w p45 n1 n21 n22 n25 n34 n39b n47 n51 v20 q24 st s1 s2 w39a) (Ob.ok_cons.2 ⟨h1, (Ob.ok_cons.2 ⟨h2, (Ob.ok_cons.2 ⟨⟨h3, rfl⟩, (Ob.ok_cons.2 ⟨h4, (Ob.ok_cons.2 ⟨⟨h5, rfl⟩, (Ob.ok_cons.2 ⟨h6, (Ob.ok_cons.2 ⟨h7, (Ob.ok_cons.2 ⟨⟨h8, rfl⟩, (Ob.ok_cons.2 ⟨h9, (Ob.ok_cons.2 ⟨h10, (Ob.ok_cons.2 ⟨h11, Ob.ok_nil⟩)⟩)⟩)⟩)⟩)⟩)⟩)⟩)⟩)⟩)⟩) hn (conz g0 (conz g1 (conz g20 (conz g21 (one g22)))))).mono fun ex T' st' ⟨q1, q2, q3, q4⟩ => by simp only [List.cons.injEq, and_true] at q3; exact ⟨q1, ⟨q2, q3⟩, q4⟩
def f20L3 (T : Tm) : Prop := T.n = 52
theorem f20_3_F_e (w : Nat) (n1 n21 n22 : Int) (v20 : AV) (st : St) : ((evS Tryz.prog E0 noOv noS 100000 [2025, 2034, 2045, 6005, 6054, 7023, 7024, 7028, 7035, 7049, 7051] (f20P 3) ⟨52, [(0, (.ptr w 0)), (1, (i64 n1)), (20, v20), (21, (i64 n21)), (22, (i64 n22))], []⟩ st [.av FF]).map fun q => (q.1, q.2.1.n, ([] : List AV), q.2.2.1, q.2.2.2.2)) = some ((.exit 0), 52, [], st, [binA E0 .lss 3 (i64 n22) (i64 n21) = some FF]) := by kernel_rfl
theorem f20_3_F {w : Nat} {n1 n21 n22 : Int} {v20 : AV} {st : St} (h1 : binA E0 .lss 3 (i64 n22) (i64 n21) = some FF) {T : Tm} (hT : f20L1 T (.ptr w 0) (i64 n1) v20 (i64 n21) (i64 n22)) : AW Tryz.prog (f20P 3) (fun ex T' st' => ex = (.exit 0) ∧ f20L3 T'  ∧ st' = st) T st := by
  obtain ⟨hn, g0, g1, g20, g21, g22⟩ := hT
  exact (gen_run (G := fun T => ([] : List AV)) hE (f20_3_F_e w n1 n21 n22 v20 st) (Ob.ok_cons.2 ⟨h1, Ob.ok_nil⟩) hn (conz g0 (conz g1 (conz g20 (conz g21 (one g22)))))).mono fun ex T' st' ⟨q1, q2, q3, q4⟩ => by exact ⟨q1, q2, q4⟩
theorem f20_4_e (st : St) : ((evS Tryz.prog E0 noOv noS 100000 [] (f20P 4) ⟨52, [], []⟩ st []).map fun q => (q.1, q.2.1.n, ([q.2.1.get 4] : List AV), q.2.2.1, q.2.2.2.2)) = some (.ret, 52, [(i64 0)], st, []) := by kernel_rfl
theorem f20_4 {st : St}  {T : Tm} (hT : f20L3 T ) : AW Tryz.prog (f20P 4) (fun ex T' st' => ex = .ret ∧ f20L2 T' (i64 0) ∧ st' = st) T st := by
  have hn : T.n = 52 := hT
  exact (gen_run (G := fun T => ([T.get 4] : List AV)) hE (f20_4_e st) Ob.ok_nil hn (fun q hq => by cases hq)).mono fun ex T' st' ⟨q1, q2, q3, q4⟩ => by simp only [List.cons.injEq, and_true] at q3; exact ⟨q1, ⟨q2, q3⟩, q4⟩
noncomputable def f14P (i : Nat) : Code := match Tryz.f14.body with
  | some (.seq x0 (.seq x1 (.seq x2 (.seq x3 (.seq (.seq x4 (.block 1 (.loop (.seq x5 (.seq x6 (.seq (.block 2 (.seq x7 (.seq x8 (.seq x9 (.seq x10 (.seq (.seq x11 (.block 3 (.loop x12))) x13)))))) x14)))))) x15))))) => [x0, x1, x2, x3, x4, x5, x6, x7, x8, x9, x10, x11, x12, x13, x14, x15].getD i .skip
  | _ => .skip
theorem f14body : Tryz.f14.body = some (.seq (f14P 0) (.seq (f14P 1) (.seq (f14P 2) (.seq (f14P 3) (.seq (.seq (f14P 4) (.block 1 (.loop (.seq (f14P 5) (.seq (f14P 6) (.seq (.block 2 (.seq (f14P 7) (.seq (f14P 8) (.seq (f14P 9) (.seq (f14P 10) (.seq (.seq (f14P 11) (.block 3 (.loop (f14P 12)))) (f14P 13))))))) (f14P 14))))))) (f14P 15)))))) := by kernel_rfl
def f14L0 (T : Tm) (a0 : AV) : Prop := T.n = 67 ∧ T.get 0 = a0
theorem f14_0_e (d : Nat) (st : St) : ((evS Tryz.prog E0 noOv noS 100000 [] (f14P 0) ⟨67, [(0, (.ptr d 0))], []⟩ st []).map fun q => (q.1, q.2.1.n, ([q.2.1.get 0] : List AV), q.2.2.1, q.2.2.2.2)) = some (.normal, 67, [(.ptr d 0)], st, []) := by kernel_rfl
theorem f14_0 {d : Nat} {st : St}  {T : Tm} (hT : f14L0 T (.ptr d 0)) : AW Tryz.prog (f14P 0) (fun ex T' st' => ex = .normal ∧ f14L0 T' (.ptr d 0) ∧ st' = st) T st := by
  obtain ⟨hn, g0⟩ := hT
  exact (gen_run (G := fun T => ([T.get 0] : List AV)) hE (f14_0_e d st) Ob.ok_nil hn (one g0)).mono fun ex T' st' ⟨q1, q2, q3, q4⟩ => by simp only [List.cons.injEq, and_true] at q3; exact ⟨q1, ⟨q2, q3⟩, q4⟩
def f14L1 (T : Tm) (a2 a3 a4 : AV) : Prop := T.n = 67 ∧ T.get 2 = a2 ∧ T.get 3 = a3 ∧ T.get 4 = a4
theorem f14_1_T_e (d : Nat) (st s1 : St) : ((evS Tryz.prog E0 noOv noS 100000 [6049] (f14P 1) ⟨67, [(0, (.ptr d 0))], []⟩ st [.eff TT (fun _ => s1)]).map fun q => (q.1, q.2.1.n, ([q.2.1.get 2, q.2.1.get 3, q.2.1.get 4] : List AV), q.2.2.1, q.2.2.2.2)) = some (.ret, 67, [.nilp, .nils, (i64 8)], s1, [obC 49 [(.ptr d 0)] st TT s1]) := by kernel_rfl
theorem f14_1_T {d : Nat} {st s1 : St} (h1 : obC 49 [(.ptr d 0)] st TT s1) {T : Tm} (hT : f14L0 T (.ptr d 0)) : AW Tryz.prog (f14P 1) (fun ex T' st' => ex = .ret ∧ f14L1 T' .nilp .nils (i64 8) ∧ st' = s1) T st := by
  obtain ⟨hn, g0⟩ := hT
  exact (gen_run (G := fun T => ([T.get 2, T.get 3, T.get 4] : List AV)) hE (f14_1_T_e d st s1) (Ob.ok_cons.2 ⟨h1, Ob.ok_nil⟩) hn (one g0)).mono fun ex T' st' ⟨q1, q2, q3, q4⟩ => by simp only [List.cons.injEq, and_true] at q3; exact ⟨q1, ⟨q2, q3⟩, q4⟩
theorem f14_1_F_e (d : Nat) (st s1 : St) : ((evS Tryz.prog E0 noOv noS 100000 [6049] (f14P 1) ⟨67, [(0, (.ptr d 0))], []⟩ st [.eff FF (fun _ => s1)]).map fun q => (q.1, q.2.1.n, ([q.2.1.get 0] : List AV), q.2.2.1, q.2.2.2.2)) = some (.normal, 67, [(.ptr d 0)], s1, [obC 49 [(.ptr d 0)] st FF s1]) := by kernel_rfl
theorem f14_1_F {d : Nat} {st s1 : St} (h1 : obC 49 [(.ptr d 0)] st FF s1) {T : Tm} (hT : f14L0 T (.ptr d 0)) : AW Tryz.prog (f14P 1) (fun ex T' st' => ex = .normal ∧ f14L0 T' (.ptr d 0) ∧ st' = s1) T st := by
  obtain ⟨hn, g0⟩ := hT
  exact (gen_run (G := fun T => ([T.get 0] : List AV)) hE (f14_1_F_e d st s1) (Ob.ok_cons.2 ⟨h1, Ob.ok_nil⟩) hn (one g0)).mono fun ex T' st' ⟨q1, q2, q3, q4⟩ => by simp only [List.cons.injEq, and_true] at q3; exact ⟨q1, ⟨q2, q3⟩, q4⟩
def f14L2 (T : Tm) (a0 a5 : AV) : Prop := T.n = 67 ∧ T.get 0 = a0 ∧ T.get 5 = a5
theorem f14_2_e (d a23 : Nat) (st s1 : St) (v22 : AV) : ((evS Tryz.prog E0 noOv noS 100000 [2023, 7022] (f14P 2) ⟨67, [(0, (.ptr d 0))], []⟩ st [.av v22, .eff (.ptr a23 0) (fun _ => s1)]).map fun q => (q.1, q.2.1.n, ([q.2.1.get 0, q.2.1.get 5] : List AV), q.2.2.1, q.2.2.2.2)) = some (.normal, 67, [(.ptr d 0), (.ptr a23 0)], s1, [buildA E0 93 [(0, (.ptr d 0)), (1, (i64 1))] = some v22, boxA st 93 v22 = some ((.ptr a23 0), s1)]) := by kernel_rfl
theorem f14_2 {d a23 : Nat} {st s1 : St} {v22 : AV} (h1 : buildA E0 93 [(0, (.ptr d 0)), (1, (i64 1))] = some v22) (h2 : boxA st 93 v22 = some ((.ptr a23 0), s1)) {T : Tm} (hT : f14L0 T (.ptr d 0)) : AW Tryz.prog (f14P 2) (fun ex T' st' => ex = .normal ∧ f14L2 T' (.ptr d 0) (.ptr a23 0) ∧ st' = s1) T st := by
  obtain ⟨hn, g0⟩ := hT
  exact (gen_run (G := fun T => ([T.get 0, T.get 5] : List AV)) hE (f14_2_e d a23 st s1 v22) (Ob.ok_cons.2 ⟨h1, (Ob.ok_cons.2 ⟨h2, Ob.ok_nil⟩)⟩) hn (one g0)).mono fun ex T' st' ⟨q1, q2, q3, q4⟩ => by simp only [List.cons.injEq, and_true] at q3; exact ⟨q1, ⟨q2, q3⟩, q4⟩
def f14L3 (T : Tm) (a0 a5 a6 : AV) : Prop := T.n = 67 ∧ T.get 0 = a0 ∧ T.get 5 = a5 ∧ T.get 6 = a6
theorem f14_3_e (d w : Nat) (st : St) : ((evS Tryz.prog E0 noOv noS 100000 [] (f14P 3) ⟨67, [(0, (.ptr d 0)), (5, (.ptr w 0))], []⟩ st []).map fun q => (q.1, q.2.1.n, ([q.2.1.get 0, q.2.1.get 5, q.2.1.get 6] : List AV), q.2.2.1, q.2.2.2.2)) = some (.normal, 67, [(.ptr d 0), (.ptr w 0), .nils], st, []) := by kernel_rfl
theorem f14_3 {d w : Nat} {st : St}  {T : Tm} (hT : f14L2 T (.ptr d 0) (.ptr w 0)) : AW Tryz.prog (f14P 3) (fun ex T' st' => ex = .normal ∧ f14L3 T' (.ptr d 0) (.ptr w 0) .nils ∧ st' = st) T st := by
  obtain ⟨hn, g0, g5⟩ := hT
  exact (gen_run (G := fun T => ([T.get 0, T.get 5, T.get 6] : List AV)) hE (f14_3_e d w st) Ob.ok_nil hn (conz g0 (one g5))).mono fun ex T' st' ⟨q1, q2, q3, q4⟩ => by simp only [List.cons.injEq, and_true] at q3; exact ⟨q1, ⟨q2, q3⟩, q4⟩
def f14L4 (T : Tm) (a0 a5 a6 a25 a26 a27 : AV) : Prop := T.n = 67 ∧ T.get 0 = a0 ∧ T.get 5 = a5 ∧ T.get 6 = a6 ∧ T.get 25 = a25 ∧ T.get 26 = a26 ∧ T.get 27 = a27
theorem f14_4_e (d w : Nat) (v6 v25 : AV) (st s1 : St) (n26 : Int) : ((evS Tryz.prog E0 noOv noS 100000 [6036, 7026] (f14P 4) ⟨67, [(0, (.ptr d 0)), (5, (.ptr w 0)), (6, v6)], []⟩ st [.eff v25 (fun _ => s1), .av (i64 n26)]).map fun q => (q.1, q.2.1.n, ([q.2.1.get 0, q.2.1.get 5, q.2.1.get 6, q.2.1.get 25, q.2.1.get 26, q.2.1.get 27] : List AV), q.2.2.1, q.2.2.2.2)) = some (.normal, 67, [(.ptr d 0), (.ptr w 0), v6, v25, (i64 n26), (i64 0)], s1, [obC 36 [(.ptr w 0)] st v25 s1, lenA E0 73 v25 = some (i64 n26)]) := by kernel_rfl
theorem f14_4 {d w : Nat} {v6 v25 : AV} {st s1 : St} {n26 : Int} (h1 : obC 36 [(.ptr w 0)] st v25 s1) (h2 : lenA E0 73 v25 = some (i64 n26)) {T : Tm} (hT : f14L3 T (.ptr d 0) (.ptr w 0) v6) : AW Tryz.prog (f14P 4) (fun ex T' st' => ex = .normal ∧ f14L4 T' (.ptr d 0) (.ptr w 0) v6 v25 (i64 n26) (i64 0) ∧ st' = s1) T st := by
  obtain ⟨hn, g0, g5, g6⟩ := hT
  exact (gen_run (G := fun T => ([T.get 0, T.get 5, T.get 6, T.get 25, T.get 26, T.get 27] : List AV)) hE (f14_4_e d w v6 v25 st s1 n26) (Ob.ok_cons.2 ⟨h1, (Ob.ok_cons.2 ⟨h2, Ob.ok_nil⟩)⟩) hn (conz g0 (conz g5 (one g6)))).mono fun ex T' st' ⟨q1, q2, q3, q4⟩ => by simp only [List.cons.injEq, and_true] at q3; exact ⟨q1, ⟨q2, q3⟩, q4⟩
def f14L5 (T : Tm) (a0 a5 a6 a25 a26 a27 a28 : AV) : Prop := T.n = 67 ∧ T.get 0 = a0 ∧ T.get 5 = a5 ∧ T.get 6 = a6 ∧ T.get 25 = a25 ∧ T.get 26 = a26 ∧ T.get 27 = a27 ∧ T.get 28 = a28
theorem f14_5_T_e (d w : Nat) (v6 v25 : AV) (n26 n27 : Int) (st : St) : ((evS Tryz.prog E0 noOv noS 100000 [7028] (f14P 5) ⟨67, [(0, (.ptr d 0)), (5, (.ptr w 0)), (6, v6), (25, v25), (26, (i64 n26)), (27, (i64 n27))], []⟩ st [.av TT]).map fun q => (q.1, q.2.1.n, ([q.2.1.get 0, q.2.1.get 5, q.2.1.get 6, q.2.1.get 25, q.2.1.get 26, q.2.1.get 27, q.2.1.get 28] : List AV), q.2.2.1, q.2.2.2.2)) = some (.normal, 67, [(.ptr d 0), (.ptr w 0), v6, v25, (i64 n26), (i64 n27), TT], st, [binA E0 .lss 3 (i64 n27) (i64 n26) = some TT]) := by kernel_rfl
theorem f14_5_T {d w : Nat} {v6 v25 : AV} {n26 n27 : Int} {st : St} (h1 : binA E0 .lss 3 (i64 n27) (i64 n26) = some TT) {T : Tm} (hT : f14L4 T (.ptr d 0) (.ptr w 0) v6 v25 (i64 n26) (i64 n27)) : AW Tryz.prog (f14P 5) (fun ex T' st' => ex = .normal ∧ f14L5 T' (.ptr d 0) (.ptr w 0) v6 v25 (i64 n26) (i64 n27) TT ∧ st' = st) T st := by
  obtain ⟨hn, g0, g5, g6, g25, g26, g27⟩ := hT
  exact (gen_run (G := fun T => ([T.get 0, T.get 5, T.get 6, T.get 25, T.get 26, T.get 27, T.get 28] : List AV)) hE (f14_5_T_e d w v6 v25 n26 n27 st) (Ob.ok_cons.2 ⟨h1, Ob.ok_nil⟩) hn (conz g0 (conz g5 (conz g6 (conz g25 (conz g26 (one g27))))))).mono fun ex T' st' ⟨q1, q2, q3, q4⟩ => by simp only [List.cons.injEq, and_true] at q3; exact ⟨q1, ⟨q2, q3⟩, q4⟩
theorem f14_5_F_e (d w : Nat) (v6 v25 : AV) (n26 n27 : Int) (st : St) : ((evS Tryz.prog E0 noOv noS 100000 [7028] (f14P 5) ⟨67, [(0, (.ptr d 0)), (5, (.ptr w 0)), (6, v6), (25, v25), (26, (i64 n26)), (27, (i64 n27))], []⟩ st [.av FF]).map fun q => (q.1, q.2.1.n, ([q.2.1.get 0, q.2.1.get 5, q.2.1.get 6, q.2.1.get 25, q.2.1.get 26, q.2.1.get 27, q.2.1.get 28] : List AV), q.2.2.1, q.2.2.2.2)) = some (.normal, 67, [(.ptr d 0), (.ptr w 0), v6, v25, (i64 n26), (i64 n27), FF], st, [binA E0 .lss 3 (i64 n27) (i64 n26) = some FF]) := by kernel_rfl
theorem f14_5_F {d w : Nat} {v6 v25 : AV} {n26 n27 : Int} {st : St} (h1 : binA E0 .lss 3 (i64 n27) (i64 n26) = some FF) {T : Tm} (hT : f14L4 T (.ptr d 0) (.ptr w 0) v6 v25 (i64 n26) (i64 n27)) : AW Tryz.prog (f14P 5) (fun ex T' st' => ex = .normal ∧ f14L5 T' (.ptr d 0) (.ptr w 0) v6 v25 (i64 n26) (i64 n27) FF ∧ st' = st) T st := by
  obtain ⟨hn, g0, g5, g6, g25, g26, g27⟩ := hT
  exact (gen_run (G := fun T => ([T.get 0, T.get 5, T.get 6, T.get 25, T.get 26, T.get 27, T.get 28] : List AV)) hE (f14_5_F_e d w v6 v25 n26 n27 st) (Ob.ok_cons.2 ⟨h1, Ob.ok_nil⟩) hn (conz g0 (conz g5 (conz g6 (conz g25 (conz g26 (one g27))))))).mono fun ex T' st' ⟨q1, q2, q3, q4⟩ => by simp only [List.cons.injEq, and_true] at q3; exact ⟨q1, ⟨q2, q3⟩, q4⟩
theorem f14_6_T_e (d w : Nat) (v6 v25 : AV) (n26 n27 : Int) (st : St) : ((evS Tryz.prog E0 noOv noS 100000 [] (f14P 6) ⟨67, [(0, (.ptr d 0)), (5, (.ptr w 0)), (6, v6), (25, v25), (26, (i64 n26)), (27, (i64 n27)), (28, TT)], []⟩ st []).map fun q => (q.1, q.2.1.n, ([q.2.1.get 0, q.2.1.get 5, q.2.1.get 6, q.2.1.get 25, q.2.1.get 26, q.2.1.get 27] : List AV), q.2.2.1, q.2.2.2.2)) = some (.normal, 67, [(.ptr d 0), (.ptr w 0), v6, v25, (i64 n26), (i64 n27)], st, []) := by kernel_rfl
theorem f14_6_T {d w : Nat} {v6 v25 : AV} {n26 n27 : Int} {st : St}  {T : Tm} (hT : f14L5 T (.ptr d 0) (.ptr w 0) v6 v25 (i64 n26) (i64 n27) TT) : AW Tryz.prog (f14P 6) (fun ex T' st' => ex = .normal ∧ f14L4 T' (.ptr d 0) (.ptr w 0) v6 v25 (i64 n26) (i64 n27) ∧ st' = st) T st := by
  obtain ⟨hn, g0, g5, g6, g25, g26, g27, g28⟩ := hT
  exact (gen_run (G := fun T => ([T.get 0, T.get 5, T.get 6, T.get 25, T.get 26, T.get 27] : List AV)) hE (f14_6_T_e d w v6 v25 n26 n27 st) Ob.ok_nil hn (conz g0 (conz g5 (conz g6 (conz g25 (conz g26 (conz g27 (one g28)))))))).mono fun ex T' st' ⟨q1, q2, q3, q4⟩ => by simp only [List.cons.injEq, and_true] at q3; exact ⟨q1, ⟨q2, q3⟩, q4⟩
def f14L6 (T : Tm) (a5 a6 : AV) : Prop := T.n = 67 ∧ T.get 5 = a5 ∧ T.get 6 = a6
theorem f14_6_F_e (d w : Nat) (v6 v25 : AV) (n26 n27 : Int) (st : St) : ((evS Tryz.prog E0 noOv noS 100000 [] (f14P 6) ⟨67, [(0, (.ptr d 0)), (5, (.ptr w 0)), (6, v6), (25, v25), (26, (i64 n26)), (27, (i64 n27)), (28, FF)], []⟩ st []).map fun q => (q.1, q.2.1.n, ([q.2.1.get 5, q.2.1.get 6] : List AV), q.2.2.1, q.2.2.2.2)) = some ((.exit 1), 67, [(.ptr w 0), v6], st, []) := by kernel_rfl
theorem f14_6_F {d w : Nat} {v6 v25 : AV} {n26 n27 : Int} {st : St}  {T : Tm} (hT : f14L5 T (.ptr d 0) (.ptr w 0) v6 v25 (i64 n26) (i64 n27) FF) : AW Tryz.prog (f14P 6) (fun ex T' st' => ex = (.exit 1) ∧ f14L6 T' (.ptr w 0) v6 ∧ st' = st) T st := by
  obtain ⟨hn, g0, g5, g6, g25, g26, g27, g28⟩ := hT
  exact (gen_run (G := fun T => ([T.get 5, T.get 6] : List AV)) hE (f14_6_F_e d w v6 v25 n26 n27 st) Ob.ok_nil hn (conz g0 (conz g5 (conz g6 (conz g25 (conz g26 (conz g27 (one g28)))))))).mono fun ex T' st' ⟨q1, q2, q3, q4⟩ => by simp only [List.cons.injEq, and_true] at q3; exact ⟨q1, ⟨q2, q3⟩, q4⟩
def f14L7 (T : Tm) (a0 a5 a6 a8 a25 a26 a27 : AV) : Prop := T.n = 67 ∧ T.get 0 = a0 ∧ T.get 5 = a5 ∧ T.get 6 = a6 ∧ T.get 8 = a8 ∧ T.get 25 = a25 ∧ T.get 26 = a26 ∧ T.get 27 = a27
theorem f14_7_e (d w : Nat) (v6 v25 q29 : AV) (n26 n27 n30 : Int) (st : St) : ((evS Tryz.prog E0 noOv noS 100000 [2030, 7029] (f14P 7) ⟨67, [(0, (.ptr d 0)), (5, (.ptr w 0)), (6, v6), (25, v25), (26, (i64 n26)), (27, (i64 n27))], []⟩ st [.av q29, .eff (i64 n30) id]).map fun q => (q.1, q.2.1.n, ([q.2.1.get 0, q.2.1.get 5, q.2.1.get 6, q.2.1.get 8, q.2.1.get 25, q.2.1.get 26, q.2.1.get 27] : List AV), q.2.2.1, q.2.2.2.2)) = some (.normal, 67, [(.ptr d 0), (.ptr w 0), v6, (i64 n30), v25, (i64 n26), (i64 n27)], st, [indexAddrA E0 73 v25 (i64 n27) = some q29, loadA E0 st 3 q29 = some (i64 n30) ∧ st = st]) := by kernel_rfl
theorem f14_7 {d w : Nat} {v6 v25 q29 : AV} {n26 n27 n30 : Int} {st : St} (h1 : indexAddrA E0 73 v25 (i64 n27) = some q29) (h2 : loadA E0 st 3 q29 = some (i64 n30)) {T : Tm} (hT : f14L4 T (.ptr d 0) (.ptr w 0) v6 v25 (i64 n26) (i64 n27)) : AW Tryz.prog (f14P 7) (fun ex T' st' => ex = .normal ∧ f14L7 T' (.ptr d 0) (.ptr w 0) v6 (i64 n30) v25 (i64 n26) (i64 n27) ∧ st' = st) T st := by
  obtain ⟨hn, g0, g5, g6, g25, g26, g27⟩ := hT
  exact (gen_run (G := fun T => ([T.get 0, T.get 5, T.get 6, T.get 8, T.get 25, T.get 26, T.get 27] : List AV)) hE (f14_7_e d w v6 v25 q29 n26 n27 n30 st) (Ob.ok_cons.2 ⟨h1, (Ob.ok_cons.2 ⟨⟨h2, rfl⟩, Ob.ok_nil⟩)⟩) hn (conz g0 (conz g5 (conz g6 (conz g25 (conz g26 (one g27))))))).mono fun ex T' st' ⟨q1, q2, q3, q4⟩ => by simp only [List.cons.injEq, and_true] at q3; exact ⟨q1, ⟨q2, q3⟩, q4⟩
def f14L8 (T : Tm) (a0 a5 a6 a8 a9 a25 a26 a27 : AV) : Prop := T.n = 67 ∧ T.get 0 = a0 ∧ T.get 5 = a5 ∧ T.get 6 = a6 ∧ T.get 8 = a8 ∧ T.get 9 = a9 ∧ T.get 25 = a25 ∧ T.get 26 = a26 ∧ T.get 27 = a27
theorem f14_8_e (d w : Nat) (v6 v25 : AV) (n8 n26 n27 n33b : Int) (st s1 : St) (w33a : ByteArray) : ((evS Tryz.prog E0 noOv noS 100000 [6005] (f14P 8) ⟨67, [(0, (.ptr d 0)), (5, (.ptr w 0)), (6, v6), (8, (i64 n8)), (25, v25), (26, (i64 n26)), (27, (i64 n27))], []⟩ st [.eff (.tup [(str w33a), (i64 n33b)]) (fun _ => s1)]).map fun q => (q.1, q.2.1.n, ([q.2.1.get 0, q.2.1.get 5, q.2.1.get 6, q.2.1.get 8, q.2.1.get 9, q.2.1.get 25, q.2.1.get 26, q.2.1.get 27] : List AV), q.2.2.1, q.2.2.2.2)) = some (.normal, 67, [(.ptr d 0), (.ptr w 0), v6, (i64 n8), (str w33a), v25, (i64 n26), (i64 n27)], s1, [obC 5 [(i64 n8)] st (.tup [(str w33a), (i64 n33b)]) s1]) := by kernel_rfl
theorem f14_8 {d w : Nat} {v6 v25 : AV} {n8 n26 n27 n33b : Int} {st s1 : St} {w33a : ByteArray} (h1 : obC 5 [(i64 n8)] st (.tup [(str w33a), (i64 n33b)]) s1) {T : Tm} (hT : f14L7 T (.ptr d 0) (.ptr w 0) v6 (i64 n8) v25 (i64 n26) (i64 n27)) : AW Tryz.prog (f14P 8) (fun ex T' st' => ex = .normal ∧ f14L8 T' (.ptr d 0) (.ptr w 0) v6 (i64 n8) (str w33a) v25 (i64 n26) (i64 n27) ∧ st' = s1) T st := by
  obtain ⟨hn, g0, g5, g6, g8, g25, g26, g27⟩ := hT
  exact (gen_run (G := fun T => ([T.get 0, T.get 5, T.get 6, T.get 8, T.get 9, T.get 25, T.get 26, T.get 27] : List AV)) hE (f14_8_e d w v6 v25 n8 n26 n27 n33b st s1 w33a) (Ob.ok_cons.2 ⟨h1, Ob.ok_nil⟩) hn (conz g0 (conz g5 (conz g6 (conz g8 (conz g25 (conz g26 (one g27)))))))).mono fun ex T' st' ⟨q1, q2, q3, q4⟩ => by simp only [List.cons.injEq, and_true] at q3; exact ⟨q1, ⟨q2, q3⟩, q4⟩
def f14L9 (T : Tm) (a0 a5 a6 a8 a11 a12 a25 a26 a27 : AV) : Prop := T.n = 67 ∧ T.get 0 = a0 ∧ T.get 5 = a5 ∧ T.get 6 = a6 ∧ T.get 8 = a8 ∧ T.get 11 = a11 ∧ T.get 12 = a12 ∧ T.get 25 = a25 ∧ T.get 26 = a26 ∧ T.get 27 = a27
theorem f14_9_e (d w : Nat) (v6 v25 v39a : AV) (n8 n26 n27 n39b : Int) (w9 : ByteArray) (st s1 : St) : ((evS Tryz.prog E0 noOv noS 100000 [6029] (f14P 9) ⟨67, [(0, (.ptr d 0)), (5, (.ptr w 0)), (6, v6), (8, (i64 n8)), (9, (str w9)), (25, v25), (26, (i64 n26)), (27, (i64 n27))], []⟩ st [.eff (.tup [v39a, (i64 n39b)]) (fun _ => s1)]).map fun q => (q.1, q.2.1.n, ([q.2.1.get 0, q.2.1.get 5, q.2.1.get 6, q.2.1.get 8, q.2.1.get 11, q.2.1.get 12, q.2.1.get 25, q.2.1.get 26, q.2.1.get 27] : List AV), q.2.2.1, q.2.2.2.2)) = some (.normal, 67, [(.ptr d 0), (.ptr w 0), v6, (i64 n8), v39a, (i64 n39b), v25, (i64 n26), (i64 n27)], s1, [obC 29 [(.ptr d 0), (str w9)] st (.tup [v39a, (i64 n39b)]) s1]) := by kernel_rfl
theorem f14_9 {d w : Nat} {v6 v25 v39a : AV} {n8 n26 n27 n39b : Int} {w9 : ByteArray} {st s1 : St} (h1 : obC 29 [(.ptr d 0), (str w9)] st (.tup [v39a, (i64 n39b)]) s1) {T : Tm} (hT : f14L8 T (.ptr d 0) (.ptr w 0) v6 (i64 n8) (str w9) v25 (i64 n26) (i64 n27)) : AW Tryz.prog (f14P 9) (fun ex T' st' => ex = .normal ∧ f14L9 T' (.ptr d 0) (.ptr w 0) v6 (i64 n8) v39a (i64 n39b) v25 (i64 n26) (i64 n27) ∧ st' = s1) T st := by
  obtain ⟨hn, g0, g5, g6, g8, g9, g25, g26, g27⟩ := hT
  exact (gen_run (G := fun T => ([T.get 0, T.get 5, T.get 6, T.get 8, T.get 11, T.get 12, T.get 25, T.get 26, T.get 27] : List AV)) hE (f14_9_e d w v6 v25 v39a n8 n26 n27 n39b w9 st s1) (Ob.ok_cons.2 ⟨h1, Ob.ok_nil⟩) hn (conz g0 (conz g5 (conz g6 (conz g8 (conz g9 (conz g25 (conz g26 (one g27))))))))).mono fun ex T' st' ⟨q1, q2, q3, q4⟩ => by simp only [List.cons.injEq, and_true] at q3; exact ⟨q1, ⟨q2, q3⟩, q4⟩
theorem f14_10_T_e (d w : Nat) (v6 v11 v25 : AV) (n8 n12 n26 n27 : Int) (st : St) : ((evS Tryz.prog E0 noOv noS 100000 [7043] (f14P 10) ⟨67, [(0, (.ptr d 0)), (5, (.ptr w 0)), (6, v6), (8, (i64 n8)), (11, v11), (12, (i64 n12)), (25, v25), (26, (i64 n26)), (27, (i64 n27))], []⟩ st [.av TT]).map fun q => (q.1, q.2.1.n, ([q.2.1.get 2, q.2.1.get 3, q.2.1.get 4] : List AV), q.2.2.1, q.2.2.2.2)) = some (.ret, 67, [.nilp, .nils, (i64 n12)], st, [binA E0 .neq 23 (i64 n12) (i64 0) = some TT]) := by kernel_rfl
theorem f14_10_T {d w : Nat} {v6 v11 v25 : AV} {n8 n12 n26 n27 : Int} {st : St} (h1 : binA E0 .neq 23 (i64 n12) (i64 0) = some TT) {T : Tm} (hT : f14L9 T (.ptr d 0) (.ptr w 0) v6 (i64 n8) v11 (i64 n12) v25 (i64 n26) (i64 n27)) : AW Tryz.prog (f14P 10) (fun ex T' st' => ex = .ret ∧ f14L1 T' .nilp .nils (i64 n12) ∧ st' = st) T st := by
  obtain ⟨hn, g0, g5, g6, g8, g11, g12, g25, g26, g27⟩ := hT
  exact (gen_run (G := fun T => ([T.get 2, T.get 3, T.get 4] : List AV)) hE (f14_10_T_e d w v6 v11 v25 n8 n12 n26 n27 st) (Ob.ok_cons.2 ⟨h1, Ob.ok_nil⟩) hn (conz g0 (conz g5 (conz g6 (conz g8 (conz g11 (conz g12 (conz g25 (conz g26 (one g27)))))))))).mono fun ex T' st' ⟨q1, q2, q3, q4⟩ => by simp only [List.cons.injEq, and_true] at q3; exact ⟨q1, ⟨q2, q3⟩, q4⟩
def f14L10 (T : Tm) (a0 a5 a6 a8 a11 a25 a26 a27 : AV) : Prop := T.n = 67 ∧ T.get 0 = a0 ∧ T.get 5 = a5 ∧ T.get 6 = a6 ∧ T.get 8 = a8 ∧ T.get 11 = a11 ∧ T.get 25 = a25 ∧ T.get 26 = a26 ∧ T.get 27 = a27
theorem f14_10_F_e (d w : Nat) (v6 v11 v25 : AV) (n8 n12 n26 n27 : Int) (st : St) : ((evS Tryz.prog E0 noOv noS 100000 [7043] (f14P 10) ⟨67, [(0, (.ptr d 0)), (5, (.ptr w 0)), (6, v6), (8, (i64 n8)), (11, v11), (12, (i64 n12)), (25, v25), (26, (i64 n26)), (27, (i64 n27))], []⟩ st [.av FF]).map fun q => (q.1, q.2.1.n, ([q.2.1.get 0, q.2.1.get 5, q.2.1.get 6, q.2.1.get 8, q.2.1.get 11, q.2.1.get 25, q.2.1.get 26, q.2.1.get 27] : List AV), q.2.2.1, q.2.2.2.2)) = some (.normal, 67, [(.ptr d 0), (.ptr w 0), v6, (i64 n8), v11, v25, (i64 n26), (i64 n27)], st, [binA E0 .neq 23 (i64 n12) (i64 0) = some FF]) := by kernel_rfl
theorem f14_10_F {d w : Nat} {v6 v11 v25 : AV} {n8 n12 n26 n27 : Int} {st : St} (h1 : binA E0 .neq 23 (i64 n12) (i64 0) = some FF) {T : Tm} (hT : f14L9 T (.ptr d 0) (.ptr w 0) v6 (i64 n8) v11 (i64 n12) v25 (i64 n26) (i64 n27)) : AW Tryz.prog (f14P 10) (fun ex T' st' => ex = .normal ∧ f14L10 T' (.ptr d 0) (.ptr w 0) v6 (i64 n8) v11 v25 (i64 n26) (i64 n27) ∧ st' = st) T st := by
  obtain ⟨hn, g0, g5, g6, g8, g11, g12, g25, g26, g27⟩ := hT
  exact (gen_run (G := fun T => ([T.get 0, T.get 5, T.get 6, T.get 8, T.get 11, T.get 25, T.get 26, T.get 27] : List AV)) hE (f14_10_F_e d w v6 v11 v25 n8 n12 n26 n27 st) (Ob.ok_cons.2 ⟨h1, Ob.ok_nil⟩) hn (conz g0 (conz g5 (conz g6 (conz g8 (conz g11 (conz g12 (conz g25 (conz g26 (one g27)))))))))).mono fun ex T' st' ⟨q1, q2, q3, q4⟩ => by simp only [List.cons.injEq, and_true] at q3; exact ⟨q1, ⟨q2, q3⟩, q4⟩
def f14L11 (T : Tm) (a0 a5 a6 a8 a25 a26 a27 a46 a47 a48 : AV) : Prop := T.n = 67 ∧ T.get 0 = a0 ∧ T.get 5 = a5 ∧ T.get 6 = a6 ∧ T.get 8 = a8 ∧ T.get 25 = a25 ∧ T.get 26 = a26 ∧ T.get 27 = a27 ∧ T.get 46 = a46 ∧ T.get 47 = a47 ∧ T.get 48 = a48
theorem f14_11_e (d w : Nat) (v6 v11 v25 v46 : AV) (n8 n26 n27 n47 : Int) (st s1 : St) : ((evS Tryz.prog E0 noOv noS 100000 [6009, 7047] (f14P 11) ⟨67, [(0, (.ptr d 0)), (5, (.ptr w 0)), (6, v6), (8, (i64 n8)), (11, v11), (25, v25), (26, (i64 n26)), (27, (i64 n27))], []⟩ st [.eff v46 (fun _ => s1), .av (i64 n47)]).map fun q => (q.1, q.2.1.n, ([q.2.1.get 0, q.2.1.get 5, q.2.1.get 6, q.2.1.get 8, q.2.1.get 25, q.2.1.get 26, q.2.1.get 27, q.2.1.get 46, q.2.1.get 47, q.2.1.get 48] : List AV), q.2.2.1, q.2.2.2.2)) = some (.normal, 67, [(.ptr d 0), (.ptr w 0), v6, (i64 n8), v25, (i64 n26), (i64 n27), v46, (i64 n47), (i64 0)], s1, [obC 9 [v11] st v46 s1, lenA E0 32 v46 = some (i64 n47)]) := by kernel_rfl
theorem f14_11 {d w : Nat} {v6 v11 v25 v46 : AV} {n8 n26 n27 n47 : Int} {st s1 : St} (h1 : obC 9 [v11] st v46 s1) (h2 : lenA E0 32 v46 = some (i64 n47)) {T : Tm} (hT : f14L10 T (.ptr d 0) (.ptr w 0) v6 (i64 n8) v11 v25 (i64 n26) (i64 n27)) : AW Tryz.prog (f14P 11) (fun ex T' st' => ex = .normal ∧ f14L11 T' (.ptr d 0) (.ptr w 0) v6 (i64 n8) v25 (i64 n26) (i64 n27) v46 (i64 n47) (i64 0) ∧ st' = s1) T st := by
  obtain ⟨hn, g0, g5, g6, g8, g11, g25, g26, g27⟩ := hT
  exact (gen_run (G := fun T => ([T.get 0, T.get 5, T.get 6, T.get 8, T.get 25, T.get 26, T.get 27, T.get 46, T.get 47, T.get 48] : List AV)) hE (f14_11_e d w v6 v11 v25 v46 n8 n26 n27 n47 st s1) (Ob.ok_cons.2 ⟨h1, (Ob.ok_cons.2 ⟨h2, Ob.ok_nil⟩)⟩) hn (conz g0 (conz g5 (conz g6 (conz g8 (conz g11 (conz g25 (conz g26 (one g27))))))))).mono fun ex T' st' ⟨q1, q2, q3, q4⟩ => by simp only [List.cons.injEq, and_true] at q3; exact ⟨q1, ⟨q2, q3⟩, q4⟩
theorem f14_12_T_e (d w : Nat) (v6 v25 v46 q50 v51 v55 v56 v57 : AV) (n8 n26 n27 n47 n48 n58 : Int) (st s1 s2 : St) : ((evS Tryz.prog E0 noOv noS 100000 [2051, 2056, 2057, 7049, 7050, 7055, 7058] (f14P 12) ⟨67, [(0, (.ptr d 0)), (5, (.ptr w 0)), (6, v6), (8, (i64 n8)), (25, v25), (26, (i64 n26)), (27, (i64 n27)), (46, v46), (47, (i64 n47)), (48, (i64 n48))], []⟩ st [.av TT, .av q50, .eff v51 id, .av v55, .eff v56 (fun _ => s1), .eff v57 (fun _ => s2), .av (i64 n58)]).map fun q => (q.1, q.2.1.n, ([q.2.1.get 0, q.2.1.get 5, q.2.1.get 6, q.2.1.get 8, q.2.1.get 25, q.2.1.get 26, q.2.1.get 27, q.2.1.get 46, q.2.1.get 47, q.2.1.get 48] : List AV), q.2.2.1, q.2.2.2.2)) = some (.normal, 67, [(.ptr d 0), (.ptr w 0), v57, (i64 n8), v25, (i64 n26), (i64 n27), v46, (i64 n47), (i64 n58)], s2, [binA E0 .lss 3 (i64 n48) (i64 n47) = some TT, indexAddrA E0 32 v46 (i64 n48) = some q50, loadA E0 st 22 q50 = some v51 ∧ st = st, buildA E0 95 [(0, (i64 n8)), (1, v51)] = some v55, buildSliceA E0 st 43 1 [(0, v55)] = some (v56, s1), appendA E0 s1 43 43 v6 v56 = some (v57, s2), binA E0 .add 3 (i64 n48) (i64 1) = some (i64 n58)]) := by kernel_rfl
theorem f14_12_T {d w : Nat} {v6 v25 v46 q50 v51 v55 v56 v57 : AV} {n8 n26 n27 n47 n48 n58 : Int} {st s1 s2 : St} (h1 : binA E0 .lss 3 (i64 n48) (i64 n47) = some TT) (h2 : indexAddrA E0 32 v46 (i64 n48) = some q50) (h3 : loadA E0 st 22 q50 = some v51) (h4 : buildA E0 95 [(0, (i64 n8)), (1, v51)] = some v55) (h5 : buildSliceA E0 st 43 1 [(0, v55)] = some (v56, s1)) (h6 : appendA E0 s1 43 43 v6 v56 = some (v57, s2)) (h7 : binA E0 .add 3 (i64 n48) (i64 1) = some (i64 n58)) {T : Tm} (hT : f14L11 T (.ptr d 0) (.ptr w 0) v6 (i64 n8) v25 (i64 n26) (i64 n27) v46 (i64 n47) (i64 n48)) : AW Tryz.prog (f14P 12) (fun ex T' st' => ex = .normal ∧ f14L11 T' (.ptr d 0) (.ptr w 0) v57 (i64 n8) v25 (i64 n26) (i64 n27) v46 (i64 n47) (i64 n58) ∧ st' = s2) T st := by
  obtain ⟨hn, g0, g5, g6, g8, g25, g26, g27, g46, g47, g48⟩ := hT
  exact (gen_run (G := fun T => ([T.get 0, T.get 5, T.get 6, T.get 8, T.get 25, T.get 26, T.get 27, T.get 46, T.get 47, T.get 48] : List AV)) hE (f14_12_T_e d w v6 v25 v46 q50 v51 v55 v56 v57 n8 n26 n27 n47 n48 n58 st s1 s2) (Ob.ok_cons.2 ⟨h1, (Ob.ok_cons.2 ⟨h2, (Ob.ok_cons.2 ⟨⟨h3, rfl⟩, (Ob.ok_cons.2 ⟨h4, (Ob.ok_cons.2 ⟨h5, (Ob.ok_cons.2 ⟨h6, (Ob.ok_cons.2 ⟨h7, Ob.ok_nil⟩)⟩)⟩)⟩)⟩)⟩)⟩) hn (conz g0 (conz g5 (conz g6 (conz g8 (conz g25 (conz g26 (conz g27 (conz g46 (conz g47 (one g48))))))))))).mono fun ex T' st' ⟨q1, q2, q3, q4⟩ => by simp only [List.cons.injEq, and_true] at q3; exact ⟨q1, ⟨q2, q3⟩, q4⟩
theorem f14_12_F_e (d w : Nat) (v6 v25 v46 : AV) (n8 n26 n27 n47 n48 : Int) (st : St) : ((evS Tryz.prog E0 noOv noS 100000 [2051, 2056, 2057, 7049, 7050, 7055, 7058] (f14P 12) ⟨67, [(0, (.ptr d 0)), (5, (.ptr w 0)), (6, v6), (8, (i64 n8)), (25, v25), (26, (i64 n26)), (27, (i64 n27)), (46, v46), (47, (i64 n47)), (48, (i64 n48))], []⟩ st [.av FF]).map fun q => (q.1, q.2.1.n, ([q.2.1.get 0, q.2.1.get 5, q.2.1.get 6, q.2.1.get 8, q.2.1.get 25, q.2.1.get 26, q.2.1.get 27] : List AV), q.2.2.1, q.2.2.2.2)) = some ((.exit 3), 67, [(.ptr d 0), (.ptr w 0), v6, (i64 n8), v25, (i64 n26), (i64 n27)], st, [binA E0 .lss 3 (i64 n48) (i64 n47) = some FF]) := by kernel_rfl
theorem f14_12_F {d w : Nat} {v6 v25 v46 : AV} {n8 n26 n27 n47 n48 : Int} {st : St} (h1 : binA E0 .lss 3 (i64 n48) (i64 n47) = some FF) {T : Tm} (hT : f14L11 T (.ptr d 0) (.ptr w 0) v6 (i64 n8) v25 (i64 n26) (i64 n27) v46 (i64 n47) (i64 n48)) : AW Tryz.prog (f14P 12) (fun ex T' st' => ex = (.exit 3) ∧ f14L7 T' (.ptr d 0) (.ptr w 0) v6 (i64 n8) v25 (i64 n26) (i64 n27) ∧ st' = st) T st := by
  obtain ⟨hn, g0, g5, g6, g8, g25, g26, g27, g46, g47, g48⟩ := hT
  exact (gen_run (G := fun T => ([T.get 0, T.get 5, T.get 6, T.get 8, T.get 25, T.get 26, T.get 27] : List AV)) hE (f14_12_F_e d w v6 v25 v46 n8 n26 n27 n47 n48 st) (Ob.ok_cons.2 ⟨h1, Ob.ok_nil⟩) hn (conz g0 (conz g5 (conz g6 (conz g8 (conz g25 (conz g26 (conz g27 (conz g46 (conz g47 (one g48))))))))))).mono fun ex T' st' ⟨q1, q2, q3, q4⟩ => by simp only [List.cons.injEq, and_true] at q3; exact ⟨q1, ⟨q2, q3⟩, q4⟩
theorem f14_13_e (d w : Nat) (v6 v25 : AV) (n8 n26 n27 n61 : Int) (st s1 : St) : ((evS Tryz.prog E0 noOv noS 100000 [5000, 7061] (f14P 13) ⟨67, [(0, (.ptr d 0)), (5, (.ptr w 0)), (6, v6), (8, (i64 n8)), (25, v25), (26, (i64 n26)), (27, (i64 n27))], []⟩ st [.av (i64 n61), .eff .undef (fun _ => s1)]).map fun q => (q.1, q.2.1.n, ([q.2.1.get 0, q.2.1.get 5, q.2.1.get 6, q.2.1.get 25, q.2.1.get 26, q.2.1.get 27] : List AV), q.2.2.1, q.2.2.2.2)) = some (.normal, 67, [(.ptr d 0), (.ptr w 0), v6, v25, (i64 n26), (i64 n27)], s1, [binA E0 .add 3 (i64 n8) (i64 1) = some (i64 n61), storeA E0 st 3 (.ptr w 1) (i64 n61) = some s1]) := by kernel_rfl
theorem f14_13 {d w : Nat} {v6 v25 : AV} {n8 n26 n27 n61 : Int} {st s1 : St} (h1 : binA E0 .add 3 (i64 n8) (i64 1) = some (i64 n61)) (h2 : storeA E0 st 3 (.ptr w 1) (i64 n61) = some s1) {T : Tm} (hT : f14L7 T (.ptr d 0) (.ptr w 0) v6 (i64 n8) v25 (i64 n26) (i64 n27)) : AW Tryz.prog (f14P 13) (fun ex T' st' => ex = .normal ∧ f14L4 T' (.ptr d 0) (.ptr w 0) v6 v25 (i64 n26) (i64 n27) ∧ st' = s1) T st := by
  obtain ⟨hn, g0, g5, g6, g8, g25, g26, g27⟩ := hT
  exact (gen_run (G := fun T => ([T.get 0, T.get 5, T.get 6, T.get 25, T.get 26, T.get 27] : List AV)) hE (f14_13_e d w v6 v25 n8 n26 n27 n61 st s1) (Ob.ok_cons.2 ⟨h1, (Ob.ok_cons.2 ⟨h2, Ob.ok_nil⟩)⟩) hn (conz g0 (conz g5 (conz g6 (conz g8 (conz g25 (conz g26 (one g27)))))))).mono fun ex T' st' ⟨q1, q2, q3, q4⟩ => by simp only [List.cons.injEq, and_true] at q3; exact ⟨q1, ⟨q2, q3⟩, q4⟩
theorem f14_14_e (d w : Nat) (v6 v25 : AV) (n26 n27 n64 : Int) (st : St) : ((evS Tryz.prog E0 noOv noS 100000 [7064] (f14P 14) ⟨67, [(0, (.ptr d 0)), (5, (.ptr w 0)), (6, v6), (25, v25), (26, (i64 n26)), (27, (i64 n27))], []⟩ st [.av (i64 n64)]).map fun q => (q.1, q.2.1.n, ([q.2.1.get 0, q.2.1.get 5, q.2.1.get 6, q.2.1.get 25, q.2.1.get 26, q.2.1.get 27] : List AV), q.2.2.1, q.2.2.2.2)) = some (.normal, 67, [(.ptr d 0), (.ptr w 0), v6, v25, (i64 n26), (i64 n64)], st, [binA E0 .add 3 (i64 n27) (i64 1) = some (i64 n64)]) := by kernel_rfl
theorem f14_14 {d w : Nat} {v6 v25 : AV} {n26 n27 n64 : Int} {st : St} (h1 : binA E0 .add 3 (i64 n27) (i64 1) = some (i64 n64)) {T : Tm} (hT : f14L4 T (.ptr d 0) (.ptr w 0) v6 v25 (i64 n26) (i64 n27)) : AW Tryz.prog (f14P 14) (fun ex T' st' => ex = .normal ∧ f14L4 T' (.ptr d 0) (.ptr w 0) v6 v25 (i64 n26) (i64 n64) ∧ st' = st) T st := by
  obtain ⟨hn, g0, g5, g6, g25, g26, g27⟩ := hT
  exact (gen_run (G := fun T => ([T.get 0, T.get 5, T.get 6, T.get 25, T.get 26, T.get 27] : List AV)) hE (f14_14_e d w v6 v25 n26 n27 n64 st) (Ob.ok_cons.2 ⟨h1, Ob.ok_nil⟩) hn (conz g0 (conz g5 (conz g6 (conz g25 (conz g26 (one g27))))))).mono fun ex T' st' ⟨q1, q2, q3, q4⟩ => by simp only [List.cons.injEq, and_true] at q3; exact ⟨q1, ⟨q2, q3⟩, q4⟩
theorem f14_15_e (w : Nat) (v6 : AV) (st : St) : ((evS Tryz.prog E0 noOv noS 100000 [] (f14P 15) ⟨67, [(5, (.ptr w 0)), (6, v6)], []⟩ st []).map fun q => (q.1, q.2.1.n, ([q.2.1.get 2, q.2.1.get 3, q.2.1.get 4] : List AV), q.2.2.1, q.2.2.2.2)) = some (.ret, 67, [(.ptr w 0), v6, (i64 0)], st, []) := by kernel_rfl
theorem f14_15 {w : Nat} {v6 : AV} {st : St}  {T : Tm} (hT : f14L6 T (.ptr w 0) v6) : AW Tryz.prog (f14P 15) (fun ex T' st' => ex = .ret ∧ f14L1 T' (.ptr w 0) v6 (i64 0) ∧ st' = st) T st := by
  obtain ⟨hn, g5, g6⟩ := hT
  exact (gen_run (G := fun T => ([T.get 2, T.get 3, T.get 4] : List AV)) hE (f14_15_e w v6 st) Ob.ok_nil hn (conz g5 (one g6))).mono fun ex T' st' ⟨q1, q2, q3, q4⟩ => by simp only [List.cons.injEq, and_true] at q3; exact ⟨q1, ⟨q2, q3⟩, q4⟩
end
section
set_option maxRecDepth 4000
/-- the program's log over its disk -/
structure WA (st : St) (w d m : Nat) (s : PS) (nx op ct : Nat) : Prop where
  disk : PDs st d m s
  row : st.get w = some (.row [.ptr d 0, i64 nx, i64 op, i64 ct] 93)
  wf : st.wf
  lock : st.lock = []
theorem p23 {vs : List AV} {off : Nat} {a : AV} (h : vs[off]? = some a) : partA E0 38 vs off = some a := by
  have : (E0.ty 38).map (fun i => isAggD i.desc) = some false := by kernel_rfl
  obtain ⟨i, h1, h2⟩ := Option.map_eq_some_iff.1 this
  exact plainT h1 h2 h
theorem WA.wd {st : St} {w d m nx op ct : Nat} {s : PS} (h : WA st w d m s nx op ct) : w ≠ d := fun e => by
  have := h.disk.row; rw [← e, h.row] at this
  simp at this
theorem WA.wm {st : St} {w d m nx op ct : Nat} {s : PS} (h : WA st w d m s nx op ct) : w ≠ m := fun e => by
  obtain ⟨_, _, hm⟩ := h.disk.map
  rw [← e, h.row] at hm; cases hm
section
variable {st : St} {w d m nx op ct : Nat} {s : PS}
theorem WA.l0 (h : WA st w d m s nx op ct) : loadA E0 st 38 (.ptr w 0) = some (.ptr d 0) := load_row h.row (p23 rfl)
theorem WA.l1 (h : WA st w d m s nx op ct) : loadA E0 st 3 (.ptr w 1) = some (i64 nx) := load_row h.row (p3 rfl)
theorem WA.l2 (h : WA st w d m s nx op ct) : loadA E0 st 3 (.ptr w 2) = some (i64 op) := load_row h.row (p3 rfl)
theorem WA.l3 (h : WA st w d m s nx op ct) : loadA E0 st 3 (.ptr w 3) = some (i64 ct) := load_row h.row (p3 rfl)
theorem WA.rest {st' : St} (h : WA st w d m s nx op ct) (hr : Rest st st' []) : WA st' w d m s nx op ct :=
  ⟨PD.rest h.disk hr, hr.keep _ _ (by simp) h.row, hr.wf, hr.lock.trans h.lock⟩
theorem WA.disk' {st' : St} {s' : PS} (h : WA st w d m s nx op ct) (hp : PDs st' d m s') (hr : Rest st st' [d, m]) : WA st' w d m s' nx op ct :=
  ⟨hp, hr.keep _ _ (by simp [h.wd, h.wm]) h.row, hr.wf, hr.lock.trans h.lock⟩
theorem storeWl {st : St} {w : Nat} {vs : List AV} {ty : Nat} (hg : st.get w = some (.row vs ty)) (hl : st.lock = []) {k : Nat} (hk : k < vs.length) (x : Int) : storeA E0 st 3 (.ptr w k) (i64 x) = some (st.set w (.row (vs.set k (i64 x)) ty)) := by
  have hwg := St.wget_of hg (show w ∉ st.lock by rw [hl]; simp)
  have : vs.take k ++ i64 x :: vs.drop (k + 1) = vs.set k (i64 x) := by rw [List.set_eq_take_append_cons_drop, if_pos hk]
  simp [storeA, avCells, oneA, size3, hwg, this]
  omega
theorem WA.set {vs : List AV} {nx' op' ct' : Nat} (h : WA st w d m s nx op ct) (e : vs = [.ptr d 0, i64 nx', i64 op', i64 ct']) : WA (st.set w (.row vs 93)) w d m s nx' op' ct' ∧ Rest st (st.set w (.row vs 93)) [w] := by
  have hr : Rest st (st.set w (.row vs 93)) [w] := Rest.set h.wf (h.wf _ _ h.row) _ (by simp)
  obtain ⟨bs, c, hm⟩ := h.disk.map
  exact ⟨⟨⟨hr.keep _ _ (by simp [h.wd.symm]) h.disk.row, bs, c, hr.keep _ _ (by simp [h.wm.symm]) hm⟩, by rw [St.get_set, if_pos rfl, e], hr.wf, hr.lock.trans h.lock⟩, hr⟩
def wSync (s : PS) (op : Nat) : Int × PS := if op = 0 then (0, s) else pSync s (nm op)
theorem wsync_ok (h : WA st w d m s nx op ct) (hg : Good s) (ho : op ≤ 9) : ∃ st', obC 18 [.ptr w 0] st (i64 (wSync s op).1) st' ∧ WA st' w d m (wSync s op).2 nx op ct ∧ Rest st st' [d, m] := by
  unfold wSync
  by_cases h0 : op = 0
  · rw [if_pos h0]
    exact ⟨st, f18_T h.l0 h.l2 (eqlT (by omega)), h, Rest.refl h.wf _⟩
  · rw [if_neg h0]
    obtain ⟨s1, r1, k1⟩ := name_ok (k := op) (by omega) h.wf
    have h1 := h.rest k1
    obtain ⟨s2, r2, p2, k2⟩ := sync_ok h1.disk h1.wf h1.lock hg (nm op)
    exact ⟨s2, f18_F h.l0 h.l2 (eqlF (by omega)) h.l2 r1 h1.l0 r2, h1.disk' p2 k2, (k1.weak (by simp)).trans k2⟩
theorem begin_ok (h : WA st w d m s nx op ct) (hf : 0 ≤ s.fu ∧ s.fu ≤ 9223372036854775807) (hn : 1 ≤ nx ∧ nx ≤ 9) : ∃ st', obC 51 [.ptr w 0] st (i64 (pCreate s (nm nx)).1) st' ∧ (((pCreate s (nm nx)).1 = 0 ∧ WA st' w d m (pCreate s (nm nx)).2 (nx + 1) nx 0) ∨ ((pCreate s (nm nx)).1 ≠ 0 ∧ WA st' w d m (pCreate s (nm nx)).2 nx op ct)) ∧ Rest st st' [d, m, w] := by
  obtain ⟨s1, r1, k1⟩ := name_ok hn h.wf
  have h1 := h.rest k1
  obtain ⟨s2, r2, p2, k2⟩ := create_ok h1.disk h1.wf h1.lock hf (nm nx)
  have h2 := h1.disk' p2 k2
  have k12 : Rest st s2 [d, m, w] := (k1.weak (by simp)).trans (k2.weak (by simp))
  by_cases he : (pCreate s (nm nx)).1 = 0
  · rw [he] at r2
    obtain ⟨h3, k3⟩ := h2.set (vs := [.ptr d 0, i64 nx, i64 op, i64 ct].set 2 (i64 nx)) rfl
    obtain ⟨h4, k4⟩ := h3.set (vs := ([.ptr d 0, i64 nx, i64 nx, i64 ct] : List AV).set 3 (i64 (0 : Nat))) rfl
    obtain ⟨h5, k5⟩ := h4.set (vs := ([.ptr d 0, i64 nx, i64 nx, i64 (0 : Nat)] : List AV).set 1 (i64 (nx + 1 : Nat))) rfl
    refine ⟨_, ?_, .inl ⟨he, h5⟩, ((k12.trans (k3.weak (by simp))).trans (k4.weak (by simp))).trans (k5.weak (by simp))⟩
    rw [he]
    exact f51_FF h.l1 r1 (neqF rfl) h1.l0 r2 (neqF rfl) h2.l1 (storeWl h2.row h2.lock (by simp) _) (storeWl h3.row h3.lock (by simp) _) h4.l1 (add64 (by omega)) (storeWl h4.row h4.lock (by simp) _)
  · exact ⟨s2, f51_FT h.l1 r1 (neqF rfl) h1.l0 r2 (neqT he), .inr ⟨he, h2⟩, k12⟩
end
end
section
set_option maxRecDepth 4000
/-! ### what the disk's calls keep -/
structure Fine (s : PS) (U : Nat) : Prop where
  good : Good s
  used : usedL s.L ≤ U
  q : 0 ≤ s.q ∧ s.q ≤ 9223372036854775807
theorem burnN_range {fu : Int} (h : 0 ≤ fu ∧ fu ≤ 9223372036854775807) : 0 ≤ burnN fu ∧ burnN fu ≤ 9223372036854775807 := by
  unfold burnN; split <;> omega
theorem Fine.burnt {s : PS} {U : Nat} (h : Fine s U) : Fine (burnt s) U := ⟨⟨h.good.dv, burnN_range h.good.fu⟩, h.used, h.q⟩
theorem Fine.le {s : PS} {U V : Nat} (h : Fine s U) (hv : U ≤ V) : Fine s V := ⟨h.good, Nat.le_trans h.used hv, h.q⟩
theorem usedL_cons (f : PF) (L : List PF) : usedL (f :: L) = f.bytes.length + usedL L := by simp [usedL]
theorem usedL_append (L M : List PF) : usedL (L ++ M) = usedL L + usedL M := by simp [usedL]
theorem usedL_put : ∀ {L : List PF} {k : Nat} {f f' : PF}, L[k]? = some f → usedL (L.set k f') + f.bytes.length = usedL L + f'.bytes.length
  | [], k, f, f', h => by simp at h
  | g :: r, 0, f, f', h => by
    simp only [List.getElem?_cons_zero, Option.some.injEq] at h; subst h
    rw [List.set_cons_zero, usedL_cons, usedL_cons]; omega
  | g :: r, k + 1, f, f', h => by
    rw [List.getElem?_cons_succ] at h
    rw [List.set_cons_succ, usedL_cons, usedL_cons]
    have := usedL_put (f' := f') h
    omega
theorem mem_put {L : List PF} {k : Nat} {f' g : PF} (h : g ∈ L.set k f') : g = f' ∨ g ∈ L := by
  rcases List.mem_or_eq_of_mem_set h with h | h
  · exact .inr h
  · exact .inl h
theorem Fine.create {s : PS} {U : Nat} (h : Fine s U) (n : ByteArray) : Fine (pCreate s n).2 U := by
  unfold pCreate
  split
  · exact h
  split
  · exact h
  split
  · exact h.burnt
  · refine ⟨⟨fun f hf => ?_, burnN_range h.good.fu⟩, ?_, h.q⟩
    · show DV f ∧ _
      have hf : f ∈ putL s.L ⟨n, .nils, [], 0⟩ := hf
      have hz : DV (⟨n, .nils, [], 0⟩ : PF) ∧ (0 : Nat) ≤ ([] : List Int).length := ⟨.inl ⟨rfl, rfl⟩, Nat.le_refl _⟩
      unfold putL at hf
      split at hf
      · rcases mem_put hf with rfl | hf
        · exact hz
        · exact h.good.dv f hf
      · rcases List.mem_append.1 hf with hf | hf
        · exact h.good.dv f hf
        · rw [List.mem_singleton.1 hf]; exact hz
    · show usedL (putL s.L ⟨n, .nils, [], 0⟩) ≤ U
      have := h.used
      unfold putL
      split
      · rename_i k hk
        obtain ⟨f, h1, _⟩ := find_some hk
        have := usedL_put (f' := ⟨n, .nils, [], 0⟩) h1
        simp only [List.length_nil] at this
        omega
      · rw [usedL_append]; simp [usedL] at *; omega
theorem Fine.sync {s : PS} {U : Nat} (h : Fine s U) (n : ByteArray) : Fine (pSync s n).2 U := by
  unfold pSync
  split
  · exact h
  split
  · exact h.burnt
  split
  · rename_i k hk
    split
    · rename_i f hf
      refine ⟨⟨fun g hg => ?_, burnN_range h.good.fu⟩, ?_, h.q⟩
      · have hg : g ∈ s.L.set k { f with last := f.bytes.length } := hg
        rcases mem_put hg with rfl | hg
        · exact ⟨(h.good.dv f (List.mem_of_getElem? hf)).1, Nat.le_refl _⟩
        · exact h.good.dv g hg
      · show usedL (s.L.set k { f with last := f.bytes.length }) ≤ U
        have := usedL_put (f' := { f with last := f.bytes.length }) hf
        have := h.used
        simp only at *
        omega
    · exact h.burnt
  · exact h.burnt
theorem Fine.app {s s' : PS} {U : Nat} (h : Fine s U) {n : ByteArray} {c : List Int} (ha : AppS s n c s') : Fine s' (U + c.length) := by
  unfold AppS at ha
  split at ha
  · subst ha; exact h.le (by omega)
  split at ha
  · subst ha; exact h.le (by omega)
  split at ha
  · subst ha; exact h.burnt.le (by omega)
  · obtain ⟨k, f, dv, h1, h2, h3, h4, rfl⟩ := ha
    refine ⟨⟨fun g hg => ?_, burnN_range h.good.fu⟩, ?_, h.q⟩
    · have hg : g ∈ s.L.set k ⟨n, dv, f.bytes ++ c, f.last⟩ := hg
      rcases mem_put hg with rfl | hg
      · refine ⟨h4, ?_⟩
        have := (h.good.dv f (List.mem_of_getElem? h2)).2
        show f.last ≤ (f.bytes ++ c).length
        rw [List.length_append]; omega
      · exact h.good.dv g hg
    · show usedL (s.L.set k ⟨n, dv, f.bytes ++ c, f.last⟩) ≤ _
      have := usedL_put (f' := ⟨n, dv, f.bytes ++ c, f.last⟩) h2
      have := h.used
      simp only [List.length_append] at *
      omega
theorem Fine.wsync {s : PS} {U : Nat} (h : Fine s U) (op : Nat) : Fine (wSync s op).2 U := by
  unfold wSync; split
  · exact h
  · exact h.sync _
end
section
set_option maxRecDepth 4000
theorem crcMoreI_ok (c : Int) (len : Nat) (full : Bool) (st : St) (cells : List AV) (xs : List Int) (hlen : len = xs.length) (hl0 : len < 1000000000)
    (hxs : ∀ i, i < len → cells[i]? = some (.val (.int .u8 (xs.getD i 0)))) :
    ACalls Tryz.prog 83 [.val (.int .u32 c), .imm 1 len full cells] (fun r st' => (r, st') = (.val (.int .u32 (crcMore c xs)), st)) st := by
  have hE := envOf_ok (P := Tryz.prog) rfl
  refine ACalls.body (E := E0) hE Tryz.func83 rfl ?_
  have step : ∀ {id : Nat} {ops : Array Oper} {y : Code} {Q : Exit → Tm → St → Prop} {T : Tm} {st : St}, AOps Tryz.prog E0 ops (thenA (AW Tryz.prog y Q) Q) ops.toList T st → AW Tryz.prog (.seq (.region id ops false) y) Q T st := fun h => .seq (.region hE h)
  have f81 : Tryz.f83.ntmps = 33 := rfl
  have hla : lenA E0 22 (.imm 1 len full cells) = some (.val (.int .i64 (len : Nat))) := by
    unfold lenA; rw [ty28]
  refine step ?_
  simp [AOps, wantedA, evOp, pureA, Tm.eval, cv, cv0, thenA, enterT, zipT, Tm.fits]
  refine step ?_
  simp [AOps, wantedA, evOp, pureA, Tm.eval, thenA, Tm.fits, Tm.put, Tm.get, E.look, u_xor]
  refine .seq (step ?_)
  simp [AOps, wantedA, evOp, pureA, Tm.eval, cv, cv0, thenA, Tm.fits, Tm.put, Tm.get, E.look, hla]
  refine .block (.loop (fun n T' st' => st' = st ∧ T'.n = 33 ∧ T'.get 10 = .imm 1 len full cells ∧ T'.get 11 = .val (.int .i64 (len : Nat)) ∧
      ∃ k : Nat, k ≤ len ∧ n = len - k ∧ T'.get 12 = .val (.int .i64 (k : Nat)) ∧ T'.get 5 = .val (.int .u32 ((xs.take k).foldl crcByte (valI (Op.intBits .xor .u32 IntKind.u32.max c))))) len ?_ ?_)
  · exact ⟨rfl, rfl, rfl, rfl, 0, Nat.zero_le _, rfl, rfl, rfl⟩
  · rintro n T' st' ⟨rfl, hTn, hT10, hT11, k, hk, rfl, hT12, hT5⟩
    refine step ?_
    simp [AOps, wantedA, evOp, pureA, Tm.eval, hT12, hT11, b_lss, Tm.fits, hTn, thenA]
    by_cases hlt : k < len
    · refine .seq (.cond (b := true) (by simp [Tm.eval, hlt]) ?_)
      simp only [if_true]
      refine .skip ?_
      simp only [thenA]
      have hx := hxs k hlt
      refine .seq (.block (step ?_))
      have hload : loadA E0 st' 5 (.iptr (cells.drop k)) = some (.val (.int .u8 (xs.getD k 0))) := by
        simp only [loadA, partA, ty5, isAggD, Bool.false_eq_true, if_false, List.getElem?_drop]
        exact hx
      simp [-List.getD_eq_getElem?_getD, AOps, wantedA, evOp, pureA, Tm.eval, hT12, hT10, Tm.fits, hTn, thenA, indexAddrA, ty28, tySize, ty5, hlt, hload]
      refine step ?_
      simp [-List.getD_eq_getElem?_getD, AOps, wantedA, evOp, pureA, Tm.eval, hT5, Tm.fits, hTn, thenA, ty5, ty88, b_xor]
      refine step ?_
      simp [-List.getD_eq_getElem?_getD, AOps, wantedA, evOp, pureA, Tm.eval, cv, cv0, Tm.fits, hTn, thenA]
      generalize hnk : (List.foldl crcByte (valI (Op.intBits BinOp.xor IntKind.u32 IntKind.u32.max c)) (List.take k xs)) = nk
      refine .block (.loop (fun m T2 st2 => st2 = st' ∧ T2.n = 33 ∧ T2.get 10 = .imm 1 len full cells ∧ T2.get 11 = .val (.int .i64 (len : Nat)) ∧ T2.get 12 = .val (.int .i64 (k : Nat)) ∧
        ∃ (v : Int) (j : Nat), j ≤ 8 ∧ m = 8 - j ∧ T2.get 20 = .val (.int .i64 (j : Nat)) ∧ T2.get 5 = .val (.int .u32 v) ∧ iter8 crcBit (8 - j) v = crcByte nk (xs.getD k 0)) 8 ?_ ?_)
      · exact ⟨rfl, hTn, hT10, hT11, hT12, _, 0, by omega, rfl, rfl, rfl, rfl⟩
      · rintro m T2 st2 ⟨rfl, hn2, h10, h11, h12, v, j, hj, rfl, h20, h5, hit⟩
        refine step ?_
        simp [-List.getD_eq_getElem?_getD, AOps, wantedA, evOp, pureA, Tm.eval, cv, cv0, h20, b_lss, Tm.fits, hn2, thenA]
        by_cases hj8 : j < 8
        · refine .seq (.cond (b := true) (by simp [Tm.eval]; omega) ?_)
          simp only [if_true]
          refine .skip ?_
          simp only [thenA]
          refine .seq (.block (.region hE ?_))
          simp [-List.getD_eq_getElem?_getD, AOps, wantedA, evOp, pureA, Tm.eval, cv, cv0, h5, b_xor, b_and, b_shr, u_neg, Tm.fits, hn2, thenA, blockA]
          refine .region hE ?_
          have hadd : binA E0 .add 3 (.val (.int .i64 (j : Nat))) (.val (.int .i64 1)) = some (.val (.int .i64 ((j + 1 : Nat) : Int))) := b_add j 1 (by omega)
          simp [-List.getD_eq_getElem?_getD, -Int.natCast_add, AOps, wantedA, evOp, pureA, Tm.eval, cv, cv0, h20, hadd, Tm.fits, hn2, thenA]
          refine ⟨8 - (j + 1), by omega, h10, h11, h12, _, j + 1, by omega, rfl, by simp, rfl, ?_⟩
          rw [← hit, show 8 - j = (8 - (j + 1)) + 1 by omega]
          rfl
        · refine .seq (.cond (b := false) (by simp [Tm.eval]; omega) ?_)
          simp only [Bool.false_eq_true, if_false]
          refine .exit ?_
          obtain rfl : j = 8 := by omega
          simp only [Nat.sub_self, iter8] at hit
          simp only [thenA, blockA, if_true]
          refine .region hE ?_
          have hadd : binA E0 .add 3 (.val (.int .i64 (k : Nat))) (.val (.int .i64 1)) = some (.val (.int .i64 ((k + 1 : Nat) : Int))) := b_add k 1 (by omega)
          simp [-List.getD_eq_getElem?_getD, -Int.natCast_add, AOps, wantedA, evOp, pureA, Tm.eval, cv, cv0, h12, hadd, Tm.fits, hn2, thenA]
          refine ⟨len - (k + 1), by omega, h10, h11, k + 1, by omega, rfl, by simp, ?_⟩
          rw [h5, hit, List.take_add_one, List.foldl_append, hnk]
          rw [List.getD_eq_getElem?_getD]
          have : k < xs.length := by omega
          rw [List.getElem?_eq_getElem this]
          rfl
    · refine .seq (.cond (b := false) (by simp [Tm.eval, hlt]) ?_)
      simp only [Bool.false_eq_true, if_false]
      refine .exit ?_
      simp only [thenA, blockA, if_true]
      obtain rfl : k = len := by omega
      refine step ?_
      simp [AOps, wantedA, evOp, pureA, Tm.eval, Tm.fits, thenA, hTn, hT5, u_xor]
      refine .ret ?_
      refine ⟨[_], rfl, ?_⟩
      simp only [oneOrTup]
      have : xs.take k = xs := by rw [hlen]; exact List.take_length
      rw [this]
      exact ⟨rfl, trivial⟩

end
section
set_option maxRecDepth 100000
abbrev u32 (n : Int) : AV := .val (.int .u32 n)
abbrev u64 (n : Int) : AV := .val (.int .u64 n)
def ltU (a b : Int) : Bool := boolI (binOp .lss 79 (.int .u64 a) (.int .u64 b))
def gtU (a b : Int) : Bool := boolI (binOp .gtr 79 (.int .u64 a) (.int .u64 b))
def neU (a b : Int) : Bool := boolI (binOp .neq 79 (.int .u64 a) (.int .u64 b))
def shlU (a b : Int) : Int := valI (binOp .shl 79 (.int .u64 a) (.int .u64 b))
def orU (a b : Int) : Int := valI (binOp .or 79 (.int .u64 a) (.int .u64 b))
def shrU (a b : Int) : Int := valI (binOp .shr 79 (.int .u64 a) (.int .u64 b))
def foldN (l : List Int) : Int := l.foldl (fun n b => orU (shlU n 8) (IntKind.u64.wrap b)) 0
def sitesT : Nat → List Nat
  | 7 => [1006, 1010, 2031, 6040, 6041]
  | 40 => [1014, 2036]
  | 45 => [6046, 2037, 41]
  | 46 => [2015, 2020, 2021, 2026, 2028, 5000]
  | 82 => [2007]
  | 86 => [2012, 2023, 1015, 1018]
  | _ => []
noncomputable def takeEv (r : Nat) (n : Int) (st : St) (x : List Or) := (evCallS Tryz.prog E0 noOv sitesT 100000 46 [.ptr r 0, i64 n] st x).map fun q => (q.1, q.2.1, q.2.2.2)
theorem takeRun (r idb off len : Nat) (full : Bool) (n m : Int) (st : St) (a7 : AV) (f1 f2 f3 : St → St) (lf : AV) : takeEv r n st [.eff TT id, FF, .eff (.sl idb 1 off len full) id, FF, .eff a7 f1, .eff (.sl idb 1 off len full) id, .eff (i64 m) f2, .eff (.sl idb 1 off len full) id, .eff lf id, .eff (.tup []) f3]
   = some (.tup [a7, i64 0], f3 (f2 (f1 st)), [obL st 4 (.ptr r 1) TT, bo (ltN n 0) = FF, obL st 22 (.ptr r 0) (.sl idb 1 off len full), bo (gtN n len) = FF, makeSliceA E0 st 22 (i64 n) (i64 n) = some (a7, f1 st), obL (f1 st) 22 (.ptr r 0) (.sl idb 1 off len full),
     copyA E0 (f1 st) 22 22 a7 (.sl idb 1 off len full) = some (i64 m, f2 (f1 st)), obL (f2 (f1 st)) 22 (.ptr r 0) (.sl idb 1 off len full), sliceA E0 (f2 (f1 st)) 22 (.sl idb 1 off len full) (some (i64 n)) none none = some lf ∧ f2 (f1 st) = f2 (f1 st), storeA E0 (f2 (f1 st)) 22 (.ptr r 0) lf = some (f3 (f2 (f1 st)))]) := by kernel_rfl
theorem takeShort (r idb off len : Nat) (full : Bool) (n : Int) (st : St) : takeEv r n st [.eff TT id, FF, .eff (.sl idb 1 off len full) id, TT] = some (.tup [.nils, i64 4], st, [obL st 4 (.ptr r 1) TT, bo (ltN n 0) = FF, obL st 22 (.ptr r 0) (.sl idb 1 off len full), bo (gtN n len) = TT]) := by kernel_rfl
theorem takeShortI (r : Nat) (full : Bool) (n : Int) (st : St) : takeEv r n st [.eff TT id, FF, .eff (.imm 1 0 full []) id, TT] = some (.tup [.nils, i64 4], st, [obL st 4 (.ptr r 1) TT, bo (ltN n 0) = FF, obL st 22 (.ptr r 0) (.imm 1 0 full []), bo (gtN n 0) = TT]) := by kernel_rfl
theorem takeShortN (r : Nat) (n : Int) (st : St) : takeEv r n st [.eff TT id, FF, .eff .nils id, TT] = some (.tup [.nils, i64 4], st, [obL st 4 (.ptr r 1) TT, bo (ltN n 0) = FF, obL st 22 (.ptr r 0) .nils, bo (gtN n 0) = TT]) := by kernel_rfl
noncomputable def numEv (r : Nat) (st : St) (x : List Or) := (evCallS Tryz.prog E0 noOv sitesT 100000 45 [.ptr r 0, i64 4] st x).map fun q => (q.1, q.2.1, q.2.2.2)
/-- ready(0) in it -/
def obR_w (st : St) (r : Nat) (left : AV) (len : Int) : Ob := [obL st 4 (.ptr r 1) TT, bo (ltN 0 0) = FF, obL st 22 (.ptr r 0) left, bo (gtN 0 len) = FF]
theorem numRun (r idb off len new : Nat) (full : Bool) (st : St) (f : St → St) (b0 b1 b2 b3 s : Int) : numEv r st [.eff TT id, FF, .eff (.sl idb 1 off len full) id, FF, .eff (.tup [.sl new 1 0 4 true, i64 0]) f, .eff (u8 b0) id, .eff (u8 b1) id, .eff (u8 b2) id, .eff (u8 b3) id, u64 s]
   = some (.tup [u64 s, i64 0], f st, obR_w st r (.sl idb 1 off len full) len ++ [obC 46 [.ptr r 0, i64 4] st (.tup [.sl new 1 0 4 true, i64 0]) (f st), obL (f st) 5 (.ptr new 0) (u8 b0), obL (f st) 5 (.ptr new 1) (u8 b1), obL (f st) 5 (.ptr new 2) (u8 b2), obL (f st) 5 (.ptr new 3) (u8 b3), u64 (foldN [b0, b1, b2, b3]) = u64 s]) := by kernel_rfl
theorem numShort (r idb off len : Nat) (full : Bool) (st : St) : numEv r st [.eff TT id, FF, .eff (.sl idb 1 off len full) id, FF, .eff (.tup [.nils, i64 4]) id]
   = some (.tup [u64 0, i64 4], st, obR_w st r (.sl idb 1 off len full) len ++ [obC 46 [.ptr r 0, i64 4] st (.tup [.nils, i64 4]) st]) := by kernel_rfl
theorem numShortI (r : Nat) (full : Bool) (st : St) : numEv r st [.eff TT id, FF, .eff (.imm 1 0 full []) id, FF, .eff (.tup [.nils, i64 4]) id]
   = some (.tup [u64 0, i64 4], st, obR_w st r (.imm 1 0 full []) 0 ++ [obC 46 [.ptr r 0, i64 4] st (.tup [.nils, i64 4]) st]) := by kernel_rfl
theorem numShortN (r : Nat) (st : St) : numEv r st [.eff TT id, FF, .eff .nils id, FF, .eff (.tup [.nils, i64 4]) id]
   = some (.tup [u64 0, i64 4], st, obR_w st r .nils 0 ++ [obC 46 [.ptr r 0, i64 4] st (.tup [.nils, i64 4]) st]) := by kernel_rfl
end
section
set_option maxRecDepth 4000
/-! ### operations on bytes, at any store -/
theorem el24 : elemA E0 22 = some (5, ⟨.int .u8, 1, 1, some (.int .u8 0)⟩, [u8 0]) := by kernel_rfl
theorem str24 : isStrTy E0 22 = false := by kernel_rfl
theorem size5 : tySize E0 5 = some 1 := by kernel_rfl
theorem make_ok (st : St) (n : Nat) (h : n ≤ 140737488355328) : makeSliceA E0 st 22 (i64 n) (i64 n) = some (.sl st.next 1 0 n true, st.push (.row (zerosA [u8 0] n) 5)) := by
  simp only [makeSliceA, el24]
  rw [if_pos ⟨by omega, by omega, by omega, by omega⟩]
  simp
theorem part24 {vs : List AV} {off : Nat} {a : AV} (h : vs[off]? = some a) : partA E0 22 vs off = some a := by
  simp only [partA, ty28, isAggD, Bool.false_eq_true, if_false, h]
theorem part4 {vs : List AV} {off : Nat} {a : AV} (h : vs[off]? = some a) : partA E0 4 vs off = some a := by
  simp only [partA, ty4, isAggD, Bool.false_eq_true, if_false, h]
theorem part5 {vs : List AV} {off : Nat} {a : AV} (h : vs[off]? = some a) : partA E0 5 vs off = some a := by
  simp only [partA, ty5, isAggD, Bool.false_eq_true, if_false, h]
theorem zeros_len (n : Nat) : (zerosA [u8 0] n).length = n := by simp [zerosA]
theorem cells_sl {st : St} {id off len : Nat} {full : Bool} {A : List AV} {ty : Nat} (hg : st.get id = some (.row A ty)) (h : off + len ≤ A.length) : sliceCells st (.sl id 1 off len full) = some (len, (A.drop off).take len) := by
  simp only [sliceCells, hg, Nat.mul_one]
  rw [if_pos h]
theorem src_of {st : St} {x : AV} : srcA E0 st 22 x = sliceCells st x := by simp only [srcA, ty28]
theorem copy_ok {st : St} {i idb off len n : Nat} {f2 full : Bool} {A Z : List AV} {ty : Nat} (hi : st.get i = some (.row Z 5)) (hz : Z.length = n) (hl : i ∉ st.lock) (hb : st.get idb = some (.row A ty)) (ho : off + len ≤ A.length) (hn : n ≤ len) :
    copyA E0 st 22 22 (.sl i 1 0 n f2) (.sl idb 1 off len full) = some (i64 n, st.set i (.row ((A.drop off).take n) 5)) := by
  simp only [copyA, el24, src_of, cells_sl hb ho, str24, St.wget_of hi hl]
  have hlen : ((A.drop off).take len).length = len := by simp; omega
  rw [if_pos ⟨by rw [hlen]; omega, fun h => by cases h⟩, if_pos ⟨trivial, by omega⟩]
  have h1 : min len n = n := by omega
  have h2 : List.take n (List.take len (List.drop off A)) = List.take n (List.drop off A) := by rw [List.take_take, Nat.min_eq_left hn]
  have h3 : (List.take n (List.drop off A)).length = n := by simp; omega
  simp only [h1, Nat.mul_one, h2, List.take_zero, List.nil_append, h3, Nat.zero_add]
  have h4 : List.drop n Z = [] := List.drop_eq_nil_of_le (by omega)
  rw [h4, List.append_nil]
theorem slice_ok (st : St) (id off len n : Nat) (full : Bool) (hn : n ≤ len) : sliceA E0 st 22 (.sl id 1 off len full) (some (i64 n)) none none = some (if n = len then .imm 1 0 false [] else .sl id 1 (off + n) (len - n) full) := by
  have e1 : natLe (i64 n) len = some n := by
    show (if 0 ≤ (n : Int) ∧ (n : Int) ≤ len then some (n : Int).toNat else none) = some n
    rw [if_pos ⟨by omega, by omega⟩]; rfl
  have hb : boundsA len len (some (i64 n)) none none = some (n, len, len) := by
    delta boundsA
    simp only [e1]
  simp only [sliceA, ty28, size5, hb, if_true, Nat.mul_one, fullOf]
  by_cases h : n = len
  · rw [if_pos h.symm, if_pos h]
  · rw [if_neg fun e => h e.symm, if_neg h]; simp
theorem store_ok {st : St} {r : Nat} {v w b : AV} {ty : Nat} (hg : st.get r = some (.row [v, b] ty)) (hl : r ∉ st.lock) (hw : avCells w = some [w]) : storeA E0 st 22 (.ptr r 0) w = some (st.set r (.row [w, b] ty)) := by
  simp only [storeA, hw, St.wget_of hg hl, size28]
  simp
end
section
set_option maxRecDepth 4000
theorem run_of {o : Option (AV × St × List Or × Ob)} {a : AV} {st' : St} {ob : Ob} (h : (o.map fun q => (q.1, q.2.1, q.2.2.2)) = some (a, st', ob)) : ∃ x, o = some (a, st', x, ob) := by
  obtain ⟨⟨a1, s1, x1, o1⟩, h1, h2⟩ := Option.map_eq_some_iff.1 h
  simp only [Prod.mk.injEq] at h2
  obtain ⟨rfl, rfl, rfl⟩ := h2
  exact ⟨x1, h1⟩
theorem take_run {r : Nat} {n : Int} {st st' : St} {x : List Or} {a : AV} {ob : Ob} (h : takeEv r n st x = some (a, st', ob)) (hob : ob.ok) : obC 46 [.ptr r 0, i64 n] st a st' := by
  obtain ⟨x1, h1⟩ := run_of h
  exact ACalls.run hE (ov := noOv) noOv_ok h1 hob
theorem num_run {r : Nat} {st st' : St} {x : List Or} {a : AV} {ob : Ob} (h : numEv r st x = some (a, st', ob)) (hob : ob.ok) : obC 45 [.ptr r 0, i64 4] st a st' := by
  obtain ⟨x1, h1⟩ := run_of h
  exact ACalls.run hE (ov := noOv) noOv_ok h1 hob
/-- a reader's bytes: what is left -/
def LeftR (st : St) (v : AV) (bs : List AV) : Prop :=
  (bs = [] ∧ (v = .nils ∨ ∃ f, v = .imm 1 0 f [])) ∨ (bs ≠ [] ∧ ∃ id off full, ∃ B : List Int, v = .sl id 1 off bs.length full ∧ st.get id = some (.row (B.map u8) 5) ∧ (B.map u8).drop off = bs)
def takeSt (st : St) (r : Nat) (ty : Nat) (bs : List AV) (n : Nat) (lf : AV) : St := ((st.push (.row (zerosA [u8 0] n) 5)).set st.next (.row (bs.take n) 5)).set r (.row [lf, TT] ty)
theorem take_ok {st : St} {r ty : Nat} {left : AV} {bs : List AV} {n : Nat} (hw : st.wf) (hl : st.lock = []) (hr : st.get r = some (.row [left, TT] ty)) (hL : LeftR st left bs) (h0 : 0 < n) (hn : n ≤ bs.length) (hb : n ≤ 1000000) (hty : ty ≠ 5) :
    ∃ lf, obC 46 [.ptr r 0, i64 n] st (.tup [.sl st.next 1 0 n true, i64 0]) (takeSt st r ty bs n lf) ∧ LeftR (takeSt st r ty bs n lf) lf (bs.drop n) ∧ ∀ i sz o l f, lf = .sl i sz o l f → i < st.next := by
  rcases hL with ⟨rfl, _⟩ | ⟨hne, id, off, full, B, rfl, hg, hd⟩
  · simp at hn; omega
  have hav : ∀ a : AV, (a = .imm 1 0 false [] ∨ ∃ i o l f, a = .sl i 1 o l f) → avCells a = some [a] := by
    rintro a (rfl | ⟨i, o, l, f, rfl⟩) <;> rfl
  generalize hA : B.map u8 = A at hg hd
  have hlen : off + bs.length ≤ A.length := by
    have := congrArg List.length hd
    simp at this
    have : 0 < bs.length := List.length_pos_iff.2 hne
    omega
  have hid := hw _ _ hg
  have hrl := hw _ _ hr
  have hrid : r ≠ id := fun e => by
    rw [e, hg] at hr
    simp only [Option.some.injEq, AObj.row.injEq] at hr
    exact hty hr.2.symm
  refine ⟨if n = bs.length then .imm 1 0 false [] else .sl id 1 (off + n) (bs.length - n) full, ?_, ?_, ?_⟩
  · refine take_run (takeRun r id off bs.length full n n st (.sl st.next 1 0 n true) (fun s => s.push (.row (zerosA [u8 0] n) 5)) (fun s => s.set st.next (.row (bs.take n) 5)) (fun s => s.set r (.row [if n = bs.length then .imm 1 0 false [] else .sl id 1 (off + n) (bs.length - n) full, TT] ty)) (if n = bs.length then .imm 1 0 false [] else .sl id 1 (off + n) (bs.length - n) full)) ?_
    have g1 : (st.push (.row (zerosA [u8 0] n) 5)).get r = some (.row [.sl id 1 off bs.length full, TT] ty) := by rw [St.get_push, if_neg (by omega)]; exact hr
    have g2 : (st.push (.row (zerosA [u8 0] n) 5)).get id = some (.row A 5) := by rw [St.get_push, if_neg (by omega)]; exact hg
    have g3 : (st.push (.row (zerosA [u8 0] n) 5)).get st.next = some (.row (zerosA [u8 0] n) 5) := by rw [St.get_push, if_pos rfl]
    have g4 : ((st.push (.row (zerosA [u8 0] n) 5)).set st.next (.row (bs.take n) 5)).get r = some (.row [.sl id 1 off bs.length full, TT] ty) := by rw [St.get_set, if_neg (by omega)]; exact g1
    simp only [Ob.ok_cons, Ob.ok_nil, and_true]
    refine ⟨⟨load_row hr (part4 rfl), rfl⟩, lt_F (by omega), ⟨load_row hr (part24 rfl), rfl⟩, gt_F (by omega), make_ok st n (by omega), ⟨load_row g1 (part24 rfl), rfl⟩, ?_, ⟨load_row g4 (part24 rfl), rfl⟩, slice_ok _ id off bs.length n full hn, ?_⟩
    · have := copy_ok (f2 := true) (full := full) g3 (zeros_len n) (by rw [St.lock_push, hl]; simp) g2 hlen hn
      rw [hd] at this
      exact this
    · exact store_ok g4 (by simp [hl]) (by split <;> rfl)
  · by_cases he : n = bs.length
    · rw [if_pos he]
      exact .inl ⟨by rw [he]; exact List.drop_length, .inr ⟨false, rfl⟩⟩
    · rw [if_neg he]
      refine .inr ⟨fun e => ?_, id, off + n, full, B, by rw [List.length_drop], ?_, by rw [hA, ← hd, List.drop_drop]⟩
      · have := congrArg List.length e
        simp at this; omega
      · unfold takeSt
        rw [St.get_set, if_neg (fun e => hrid e.symm), St.get_set, if_neg (by omega), St.get_push, if_neg (by omega)]
        rw [hA]; exact hg
  · intro i sz o l f e
    split at e
    · cases e
    · cases e; exact hid
theorem take_short {st : St} {r ty : Nat} {left : AV} {bs : List AV} {n : Nat} (hr : st.get r = some (.row [left, TT] ty)) (hL : LeftR st left bs) (hn : bs.length < n) :
    obC 46 [.ptr r 0, i64 n] st (.tup [.nils, i64 4]) st := by
  rcases hL with ⟨rfl, rfl | ⟨f, rfl⟩⟩ | ⟨hne, id, off, full, A, rfl, hg, hd⟩
  · refine take_run (takeShortN r n st) ?_
    simp only [Ob.ok_cons, Ob.ok_nil, and_true]
    exact ⟨⟨load_row hr (part4 rfl), rfl⟩, lt_F (by omega), ⟨load_row hr (part24 rfl), rfl⟩, gt_T (by simp at hn; omega)⟩
  · refine take_run (takeShortI r f n st) ?_
    simp only [Ob.ok_cons, Ob.ok_nil, and_true]
    exact ⟨⟨load_row hr (part4 rfl), rfl⟩, lt_F (by omega), ⟨load_row hr (part24 rfl), rfl⟩, gt_T (by simp at hn; omega)⟩
  · refine take_run (takeShort r id off bs.length full n st) ?_
    simp only [Ob.ok_cons, Ob.ok_nil, and_true]
    exact ⟨⟨load_row hr (part4 rfl), rfl⟩, lt_F (by omega), ⟨load_row hr (part24 rfl), rfl⟩, gt_T (by omega)⟩
theorem takeSt_get {st : St} {r ty : Nat} {bs : List AV} {n : Nat} {lf : AV} (i : Nat) : (takeSt st r ty bs n lf).get i = if i = r then some (.row [lf, TT] ty) else if i = st.next then some (.row (bs.take n) 5) else st.get i := by
  unfold takeSt
  rw [St.get_set, St.get_set, St.get_push]
  by_cases h : i = r
  · rw [if_pos h, if_pos h]
  · rw [if_neg h, if_neg h]
    by_cases h2 : i = st.next
    · rw [if_pos h2, if_pos h2]
    · rw [if_neg h2, if_neg h2, if_neg h2]
def num4 (bs : List Int) : Int := foldN (bs.take 4)
theorem num_ok {st : St} {r ty : Nat} {left : AV} {bs : List Int} (hw : st.wf) (hl : st.lock = []) (hr : st.get r = some (.row [left, TT] ty)) (hL : LeftR st left (bs.map u8)) (hn : 4 ≤ bs.length) (hty : ty ≠ 5) :
    ∃ lf, obC 45 [.ptr r 0, i64 4] st (.tup [u64 (num4 bs), i64 0]) (takeSt st r ty (bs.map u8) 4 lf) ∧ LeftR (takeSt st r ty (bs.map u8) 4 lf) lf ((bs.drop 4).map u8) ∧ ∀ i sz o l f, lf = .sl i sz o l f → i < st.next := by
  obtain ⟨lf, k1, k2, k3⟩ := take_ok (n := 4) hw hl hr hL (by omega) (by simpa using hn) (by omega) hty
  rw [← List.map_drop] at k2
  refine ⟨lf, ?_, k2, k3⟩
  rcases hL with ⟨h, _⟩ | ⟨hne, id, off, full, A, rfl, hg, hd⟩
  · simp at h; rw [h] at hn; simp at hn
  match bs, hn with
  | b0 :: b1 :: b2 :: b3 :: rest, _ =>
  have hrn := hw _ _ hr
  have g : (takeSt st r ty ((b0 :: b1 :: b2 :: b3 :: rest).map u8) 4 lf).get st.next = some (.row [u8 b0, u8 b1, u8 b2, u8 b3] 5) := by
    rw [takeSt_get, if_neg (by omega), if_pos rfl]; simp
  refine num_run (numRun r id off ((b0 :: b1 :: b2 :: b3 :: rest).map u8).length st.next full st (fun s => takeSt s r ty ((b0 :: b1 :: b2 :: b3 :: rest).map u8) 4 lf) b0 b1 b2 b3 (num4 (b0 :: b1 :: b2 :: b3 :: rest))) ?_
  simp only [obR_w, List.cons_append, List.nil_append, Ob.ok_cons, Ob.ok_nil, and_true]
  exact ⟨⟨load_row hr (part4 rfl), rfl⟩, lt_F (by omega), ⟨load_row hr (part24 rfl), rfl⟩, gt_F (by omega), k1, ⟨load_row g (part5 rfl), rfl⟩, ⟨load_row g (part5 rfl), rfl⟩, ⟨load_row g (part5 rfl), rfl⟩, ⟨load_row g (part5 rfl), rfl⟩, rfl⟩
theorem num_short {st : St} {r ty : Nat} {left : AV} {bs : List AV} (hr : st.get r = some (.row [left, TT] ty)) (hL : LeftR st left bs) (hn : bs.length < 4) :
    obC 45 [.ptr r 0, i64 4] st (.tup [u64 0, i64 4]) st := by
  have k := take_short (n := 4) hr hL hn
  rcases hL with ⟨rfl, rfl | ⟨f, rfl⟩⟩ | ⟨hne, id, off, full, A, rfl, hg, hd⟩
  · refine num_run (numShortN r st) ?_
    simp only [obR_w, List.cons_append, List.nil_append, Ob.ok_cons, Ob.ok_nil, and_true]
    exact ⟨⟨load_row hr (part4 rfl), rfl⟩, lt_F (by omega), ⟨load_row hr (part24 rfl), rfl⟩, gt_F (by omega), k⟩
  · refine num_run (numShortI r f st) ?_
    simp only [obR_w, List.cons_append, List.nil_append, Ob.ok_cons, Ob.ok_nil, and_true]
    exact ⟨⟨load_row hr (part4 rfl), rfl⟩, lt_F (by omega), ⟨load_row hr (part24 rfl), rfl⟩, gt_F (by omega), k⟩
  · refine num_run (numShort r id off bs.length full st) ?_
    simp only [obR_w, List.cons_append, List.nil_append, Ob.ok_cons, Ob.ok_nil, and_true]
    exact ⟨⟨load_row hr (part4 rfl), rfl⟩, lt_F (by omega), ⟨load_row hr (part24 rfl), rfl⟩, gt_F (by omega), k⟩
end
section
set_option maxRecDepth 100000
noncomputable def splC : Nat → Code := fun i => match Tryz.f9.body with
  | some (.seq r0 (.scope (.seq r1 (.seq r2 (.seq lab (.seq (.block 0 (.loop c)) (.seq r10 _))))))) => [r0, r1, r2, lab, c, r10].getD i .skip
  | _ => .skip
theorem body5 : Tryz.f9.body = some (.seq (splC 0) (.scope (.seq (splC 1) (.seq (splC 2) (.seq (splC 3) (.seq (.block 0 (.loop (splC 4))) (.seq (splC 5) .ret))))))) := by kernel_rfl
def ssS : List Nat := [6044, 6045, 6046, 6041, 20, 24, 36, 47, 2052]
noncomputable def splEv (i : Nat) (l : List (Nat × AV)) (st : St) (x : List Or) := (evS Tryz.prog E0 noOv sitesT 100000 ssS (splC i) ⟨54, l, []⟩ st x).map fun q => (q.1, q.2.1.n, [q.2.1.get 2, q.2.1.get 3, q.2.1.get 4], q.2.2.1, q.2.2.2.2)
def e4 (n : Int) : AV := .tup [u64 n, i64 0]
def eS : AV := .tup [u64 0, i64 4]
section
variable (l l' : AV) (r : Nat) (st : St) (n s m c : Int) (new : Nat) (f1 f2 f3 f4 : St → St)
theorem spA : splEv 4 [(3, l), (4, .ptr r 0)] st [.eff eS id] = some (.exit 0, 54, [.undef, l, .ptr r 0], st, [obC 45 [.ptr r 0, i64 4] st eS st]) := by kernel_rfl
theorem spB : splEv 4 [(3, l), (4, .ptr r 0)] st [.eff (e4 n) f1, TT] = some (.exit 0, 54, [.undef, l, .ptr r 0], f1 st, [obC 45 [.ptr r 0, i64 4] st (e4 n) (f1 st), bo (ltU n 1) = TT]) := by kernel_rfl
theorem spB2 : splEv 4 [(3, l), (4, .ptr r 0)] st [.eff (e4 n) f1, FF, TT] = some (.exit 0, 54, [.undef, l, .ptr r 0], f1 st, [obC 45 [.ptr r 0, i64 4] st (e4 n) (f1 st), bo (ltU n 1) = FF, bo (gtU n 4096) = TT]) := by kernel_rfl
theorem spC : splEv 4 [(3, l), (4, .ptr r 0)] st [.eff (e4 n) f1, FF, FF, .eff eS id] = some (.exit 0, 54, [.undef, l, .ptr r 0], f1 st, [obC 45 [.ptr r 0, i64 4] st (e4 n) (f1 st), bo (ltU n 1) = FF, bo (gtU n 4096) = FF, obC 45 [.ptr r 0, i64 4] (f1 st) eS (f1 st)]) := by kernel_rfl
theorem spD : splEv 4 [(3, l), (4, .ptr r 0)] st [.eff (e4 n) f1, FF, FF, .eff (e4 s) f2, i64 m, .eff (.tup [.nils, i64 4]) id] = some (.exit 0, 54, [.undef, l, .ptr r 0], f2 (f1 st), [obC 45 [.ptr r 0, i64 4] st (e4 n) (f1 st), bo (ltU n 1) = FF, bo (gtU n 4096) = FF, obC 45 [.ptr r 0, i64 4] (f1 st) (e4 s) (f2 (f1 st)), i64 (IntKind.i64.wrap n) = i64 m, obC 46 [.ptr r 0, i64 m] (f2 (f1 st)) (.tup [.nils, i64 4]) (f2 (f1 st))]) := by kernel_rfl
def dS (new : Nat) (k : Nat) : AV := .sl new 1 0 k true
theorem spE (k : Nat) : splEv 4 [(3, l), (4, .ptr r 0)] st [.eff (e4 n) f1, FF, FF, .eff (e4 s) f2, i64 m, .eff (.tup [dS new k, i64 0]) f3, .eff (u32 c) id, TT] = some (.exit 0, 54, [.undef, l, .ptr r 0], f3 (f2 (f1 st)), [obC 45 [.ptr r 0, i64 4] st (e4 n) (f1 st), bo (ltU n 1) = FF, bo (gtU n 4096) = FF, obC 45 [.ptr r 0, i64 4] (f1 st) (e4 s) (f2 (f1 st)), i64 (IntKind.i64.wrap n) = i64 m, obC 46 [.ptr r 0, i64 m] (f2 (f1 st)) (.tup [dS new k, i64 0]) (f3 (f2 (f1 st))), obC 41 [dS new k] (f3 (f2 (f1 st))) (u32 c) (f3 (f2 (f1 st))), bo (neU (IntKind.u64.wrap c) s) = TT]) := by kernel_rfl
theorem spF (k : Nat) : splEv 4 [(3, l), (4, .ptr r 0)] st [.eff (e4 n) f1, FF, FF, .eff (e4 s) f2, i64 m, .eff (.tup [dS new k, i64 0]) f3, .eff (u32 c) id, FF, .eff l' f4] = some (.normal, 54, [.undef, l', .ptr r 0], f4 ((f3 (f2 (f1 st))).push (.row [dS new k] 22)), [obC 45 [.ptr r 0, i64 4] st (e4 n) (f1 st), bo (ltU n 1) = FF, bo (gtU n 4096) = FF, obC 45 [.ptr r 0, i64 4] (f1 st) (e4 s) (f2 (f1 st)), i64 (IntKind.i64.wrap n) = i64 m, obC 46 [.ptr r 0, i64 m] (f2 (f1 st)) (.tup [dS new k, i64 0]) (f3 (f2 (f1 st))), obC 41 [dS new k] (f3 (f2 (f1 st))) (u32 c) (f3 (f2 (f1 st))), bo (neU (IntKind.u64.wrap c) s) = FF, appendA E0 ((f3 (f2 (f1 st))).push (.row [dS new k] 22)) 32 32 l (.sl (f3 (f2 (f1 st))).next 1 0 1 true) = some (l', f4 ((f3 (f2 (f1 st))).push (.row [dS new k] 22)))]) := by kernel_rfl
theorem sp0 : splEv 0 [] st [] = some (.normal, 54, [.nils, .undef, .undef], st, []) := by kernel_rfl
theorem sp1 : splEv 1 [] st [] = some (.normal, 54, [.undef, .nils, .undef], st, []) := by kernel_rfl
theorem sp2 (b : AV) : splEv 2 [(0, b), (3, .nils)] st [.eff (.ptr r 0) f1] = some (.normal, 54, [.undef, .nils, .ptr r 0], f1 st, [obC 44 [b] st (.ptr r 0) (f1 st)]) := by kernel_rfl
theorem sp3 : splEv 3 [(3, .nils), (4, .ptr r 0)] st [] = some (.normal, 54, [.undef, .nils, .ptr r 0], st, []) := by kernel_rfl
theorem sp5 : splEv 5 [(3, l)] st [] = some (.normal, 54, [l, l, .undef], st, []) := by kernel_rfl
noncomputable def sumEv (x : AV) (st : St) (o : List Or) := (evCallS Tryz.prog E0 noOv (fun | 41 => [6083] | _ => []) 100000 41 [x] st o).map fun q => (q.1, q.2.1, q.2.2.2)
theorem sumRun (x : AV) : sumEv x st [.eff (u32 c) id] = some (u32 c, st, [obC 83 [u32 0, x] st (u32 c) st]) := by kernel_rfl
noncomputable def newEv (x : AV) (st : St) (o : List Or) := (evCallS Tryz.prog E0 noOv sitesT 100000 44 [x] st o).map fun q => (q.1, q.2.1, q.2.2.2)
theorem newRun (i off len j nb : Nat) (full : Bool) : newEv (.sl i 1 off len full) st [.eff (.sl j 1 0 nb false) f1] = some (.ptr (f1 (st.push (.row [] 5))).next 0, (f1 (st.push (.row [] 5))).push (.row [.sl j 1 0 nb false, TT] 137), [appendA E0 (st.push (.row [] 5)) 22 22 (.sl st.next 1 0 0 true) (.sl i 1 off len full) = some (.sl j 1 0 nb false, f1 (st.push (.row [] 5)))]) := by kernel_rfl
theorem newRunN : newEv .nils st [] = some (.ptr st.next 0, st.push (.row [.nils, TT] 137), []) := by kernel_rfl
end
end
section
set_option maxRecDepth 4000
theorem ty22 : E0.ty 32 = some ⟨.slice 22, 1, 24, some (.slice none 0 0)⟩ := by kernel_rfl
theorem el22 : elemA E0 32 = some (22, ⟨.slice 5, 1, 24, some (.slice none 0 0)⟩, [.nils]) := by kernel_rfl
theorem str22 : isStrTy E0 32 = false := by kernel_rfl
theorem src22 {st : St} {x : AV} : srcA E0 st 32 x = sliceCells st x := by simp only [srcA, ty22]
/-- append of bytes behind a slice that has no room -/
theorem app_full_w {st : St} {id off len n : Nat} {vs c : List AV} {x : AV} (hg : st.get id = some (.row vs 5)) (ho : off + len ≤ vs.length) (hx : sliceCells st x = some (n, c)) (hc : c.length = n) (h0 : n ≠ 0) (hb : len + n ≤ 1000000) :
    appendA E0 st 22 22 (.sl id 1 off len true) x = some (.sl st.next 1 0 (len + n) false, st.push (.row ((vs.drop off).take len ++ c) 5)) := by
  simp only [appendA, el24, src_of, hx, str24, hg, Nat.mul_one]
  rw [if_pos ⟨hc, fun h => by cases h⟩, if_neg (fun h => h rfl), if_neg h0, if_pos ⟨by omega, by omega⟩, if_pos ⟨trivial, ho⟩, if_pos trivial]
/-- append of bytes behind a whole row -/
theorem app_row_w {st : St} {id len n : Nat} {vs c : List AV} {x : AV} (hg : st.get id = some (.row vs 5)) (hl : st.lock = []) (ho : len = vs.length) (hx : sliceCells st x = some (n, c)) (hc : c.length = n) (h0 : n ≠ 0) (hb : len + n ≤ 1000000) :
    appendA E0 st 22 22 (.sl id 1 0 len false) x = some (.sl st.next 1 0 (len + n) false, (st.del id).push (.row (vs ++ c) 5)) := by
  simp only [appendA, el24, src_of, hx, str24, hg, Nat.mul_one]
  rw [if_pos ⟨hc, fun h => by cases h⟩, if_neg (fun h => h rfl), if_neg h0, if_pos ⟨by omega, by omega⟩, if_pos ⟨trivial, by omega⟩, if_neg (by simp), if_pos ⟨by omega, by rw [hl]; simp⟩, List.drop_zero]
theorem app_nil_w {st : St} {n : Nat} {c : List AV} {x : AV} (hx : sliceCells st x = some (n, c)) (hc : c.length = n) (h0 : n ≠ 0) (hb : n ≤ 1000000) :
    appendA E0 st 22 22 .nils x = some (.sl st.next 1 0 n false, st.push (.row c 5)) := by
  simp only [appendA, el24, src_of, hx, str24, Nat.mul_one]
  rw [if_pos ⟨hc, fun h => by cases h⟩, if_neg h0, if_pos ⟨by omega, by omega⟩]
/-- the same for lists of slices -/
theorem lapp_nil {st : St} {n : Nat} {c : List AV} {x : AV} (hx : sliceCells st x = some (n, c)) (hc : c.length = n) (h0 : n ≠ 0) (hb : n ≤ 1000000) :
    appendA E0 st 32 32 .nils x = some (.sl st.next 1 0 n false, st.push (.row c 22)) := by
  simp only [appendA, el22, src22, hx, str22, Nat.mul_one]
  rw [if_pos ⟨hc, fun h => by cases h⟩, if_neg h0, if_pos ⟨by omega, by omega⟩]
theorem lapp_row {st : St} {id len n : Nat} {vs c : List AV} {x : AV} (hg : st.get id = some (.row vs 22)) (hl : st.lock = []) (ho : len = vs.length) (hx : sliceCells st x = some (n, c)) (hc : c.length = n) (h0 : n ≠ 0) (hb : len + n ≤ 1000000) :
    appendA E0 st 32 32 (.sl id 1 0 len false) x = some (.sl st.next 1 0 (len + n) false, (st.del id).push (.row (vs ++ c) 22)) := by
  simp only [appendA, el22, src22, hx, str22, hg, Nat.mul_one]
  rw [if_pos ⟨hc, fun h => by cases h⟩, if_neg (fun h => h rfl), if_neg h0, if_pos ⟨by omega, by omega⟩, if_pos ⟨trivial, by omega⟩, if_neg (by simp), if_pos ⟨by omega, by rw [hl]; simp⟩, List.drop_zero]
end
section
set_option maxRecDepth 4000
def crcU (d : List Int) : Int := IntKind.u64.wrap (crcMore 0 d)
/-- the first record of a segment's bytes, and what is left -/
def parse1 (bs : List Int) : Option (List Int × List Int) :=
  if bs.length < 4 then none else
  if num4 bs < 1 then none else
  if 4096 < num4 bs then none else
  if (bs.drop 4).length < 4 then none else
  if (bs.drop 8).length < (num4 bs).toNat then none else
  if crcU ((bs.drop 8).take (num4 bs).toNat) ≠ num4 (bs.drop 4) then none else
  some ((bs.drop 8).take (num4 bs).toNat, (bs.drop 8).drop (num4 bs).toNat)
def splitN : Nat → List Int → List (List Int)
  | 0, _ => []
  | k + 1, bs => match parse1 bs with
    | none => []
    | some p => p.1 :: splitN k p.2
theorem parse1_len {bs : List Int} {p : List Int × List Int} (h : parse1 bs = some p) : p.2.length + 8 < bs.length ∧ p.1.length + p.2.length + 8 = bs.length := by
  unfold parse1 at h
  split at h
  · cases h
  split at h
  · cases h
  split at h
  · cases h
  split at h
  · cases h
  split at h
  · cases h
  split at h
  · cases h
  cases h
  simp only [List.length_drop, List.length_take] at *
  omega
theorem splitN_more : ∀ (k j : Nat) (bs : List Int), bs.length ≤ k → bs.length ≤ j → splitN k bs = splitN j bs
  | 0, 0, _, _, _ => rfl
  | 0, j + 1, bs, h, _ => by
    have : bs = [] := List.eq_nil_of_length_eq_zero (by omega)
    subst this
    simp [splitN, parse1]
  | k + 1, 0, bs, _, h => by
    have : bs = [] := List.eq_nil_of_length_eq_zero (by omega)
    subst this
    simp [splitN, parse1]
  | k + 1, j + 1, bs, h1, h2 => by
    simp only [splitN]
    cases hp : parse1 bs with
    | none => rfl
    | some p =>
      have := parse1_len hp
      show p.1 :: splitN k p.2 = p.1 :: splitN j p.2
      rw [splitN_more k j p.2 (by omega) (by omega)]
def recA (d : List Int) : AV := .imm 1 d.length true (d.map u8)
/-- an object without places in it -/
def Plain (o : AObj) : Prop := ∀ id vs, frzO id vs o = o
def Keep (st st' : St) : Prop := ∀ i o, st.get i = some o → Plain o → st'.get i = some o
theorem Keep.refl (st : St) : Keep st st := fun _ _ h _ => h
theorem Keep.trans {a b c : St} (h : Keep a b) (k : Keep b c) : Keep a c := fun i o ho hp => k i o (h i o ho hp) hp
/-- a list of records -/
def LR (st : St) (l : AV) (R : List (List Int)) : Prop := (R = [] ∧ l = .nils) ∨ (R ≠ [] ∧ ∃ id, l = .sl id 1 0 R.length false ∧ st.get id = some (.row (R.map recA) 22))
theorem frz_rec (id : Nat) (vs : List AV) (d : List Int) : frz id vs (recA d) = recA d := by
  simp only [recA, frz, frz_u8]
theorem frz_recs (id : Nat) (vs : List AV) (R : List (List Int)) : frzL id vs (R.map recA) = R.map recA := by
  rw [frzL_eq, List.map_map]
  apply List.map_congr_left
  intro d _
  exact frz_rec id vs d
theorem plain_u8 (d : List Int) (ty : Nat) : Plain (.row (d.map u8) ty) := fun id vs => by simp only [frzO, frz_u8]
theorem ltU_eq (a b : Int) : ltU a b = decide (a < b) := rfl
theorem gtU_eq (a b : Int) : gtU a b = decide (a > b) := rfl
theorem neU_eq (a b : Int) : neU a b = (a != b) := rfl
theorem sum_ok {st : St} {id n : Nat} {f : Bool} {d : List Int} (hg : st.get id = some (.row (d.map u8) 5)) (hn : n = d.length) (hb : n < 1000000000) : obC 41 [.sl id 1 0 n f] st (u32 (crcMore 0 d)) st := by
  obtain ⟨x1, h1⟩ := run_of (sumRun st (crcMore 0 d) (.sl id 1 0 n f))
  refine ACalls.run hE (ov := noOv) noOv_ok h1 ?_
  simp only [Ob.ok_cons, Ob.ok_nil, and_true]
  refine (crcMore_ok 0 id 1 0 n f st (d.map u8) 5 d rfl hg hn hb fun i hi => ?_).mono fun a s e => ?_
  · rw [Nat.zero_add, List.getElem?_map, List.getD_eq_getElem?_getD, List.getElem?_eq_getElem (by omega)]; rfl
  · cases e; exact ⟨rfl, rfl⟩
theorem sum_imm (st : St) {n : Nat} {f : Bool} {d : List Int} (hn : n = d.length) (hb : n < 1000000000) : obC 41 [.imm 1 n f (d.map u8)] st (u32 (crcMore 0 d)) st := by
  obtain ⟨x1, h1⟩ := run_of (sumRun st (crcMore 0 d) (.imm 1 n f (d.map u8)))
  refine ACalls.run hE (ov := noOv) noOv_ok h1 ?_
  simp only [Ob.ok_cons, Ob.ok_nil, and_true]
  refine (crcMoreI_ok 0 n f st (d.map u8) d hn hb fun i hi => ?_).mono fun a s e => ?_
  · rw [List.getElem?_map, List.getD_eq_getElem?_getD, List.getElem?_eq_getElem (by omega)]; rfl
  · cases e; exact ⟨rfl, rfl⟩
/-- what a run of a piece gives -/
theorem spl_run {i : Nat} {l : List (Nat × AV)} {st st1 : St} {x : List Or} {e : Exit} {n : Nat} {a2 a3 a4 : AV} {ob : Ob} (h : splEv i l st x = some (e, n, [a2, a3, a4], st1, ob)) (hob : ob.ok) {T : Tm} (hn : T.n = 54) (hT : ∀ p ∈ l, T.get p.1 = p.2) :
    AW Tryz.prog (splC i) (fun e' T' st' => e' = e ∧ T'.n = n ∧ T'.get 2 = a2 ∧ T'.get 3 = a3 ∧ T'.get 4 = a4 ∧ st' = st1) T st := by
  obtain ⟨⟨e1, T1, s1, x1, o1⟩, h1, h2⟩ := Option.map_eq_some_iff.1 h
  simp only [Prod.mk.injEq, List.cons.injEq] at h2
  obtain ⟨rfl, h3, ⟨h4, h5, h6, _⟩, rfl, rfl⟩ := h2
  refine (AW.run hE (ov := noOv) noOv_ok h1 hob hn hT).mono fun e' T' st' hp => ?_
  obtain ⟨rfl, rfl, rfl⟩ := hp
  exact ⟨rfl, h3, h4, h5, h6, rfl⟩
structure SplI (A : List Int) (st0 : St) (r : Nat) (R : List (List Int)) (bs : List Int) (T : Tm) (st : St) : Prop where
  n : T.n = 54
  r4 : T.get 4 = .ptr r 0
  rd : ∃ left, st.get r = some (.row [left, TT] 137) ∧ LeftR st left (bs.map u8)
  ls : LR st (T.get 3) R
  lock : st.lock = []
  keep : Keep st0 st
  next : st0.next ≤ st.next
  law : R ++ splitN bs.length bs = splitN A.length A
  len : R.length + bs.length ≤ A.length
  lid : ∀ i sz o k f, T.get 3 = .sl i sz o k f → st0.next ≤ i
theorem keep_take {st0 st : St} (hk : Keep st0 st) (hn : st0.next ≤ st.next) (hw0 : st0.wf) {r ty n : Nat} {bs : List AV} {lf : AV} (hr : st0.next ≤ r) : Keep st0 (takeSt st r ty bs n lf) := fun i o ho hp => by
  have := hw0 _ _ ho
  rw [takeSt_get, if_neg (by omega), if_neg (by omega)]
  exact hk i o ho hp
end
section
set_option maxRecDepth 4000
structure DoneI (A : List Int) (st0 : St) (T : Tm) (st : St) : Prop where
  n : T.n = 54
  ls : LR st (T.get 3) (splitN A.length A)
  lock : st.lock = []
  keep : Keep st0 st
  next : st0.next ≤ st.next
theorem lt_FU {a b : Int} (h : b ≤ a) : bo (ltU a b) = FF := ob_F (by rw [ltU_eq]; simp; omega)
theorem lt_TU {a b : Int} (h : a < b) : bo (ltU a b) = TT := ob_T (by rw [ltU_eq]; simp; omega)
theorem gt_FU {a b : Int} (h : a ≤ b) : bo (gtU a b) = FF := ob_F (by rw [gtU_eq]; simp; omega)
theorem gt_TU {a b : Int} (h : b < a) : bo (gtU a b) = TT := ob_T (by rw [gtU_eq]; simp; omega)
theorem split_none {bs : List Int} (h : parse1 bs = none) : splitN bs.length bs = [] := by
  cases hb : bs.length with
  | zero => rfl
  | succ k => simp only [splitN, h]
theorem split_some {bs : List Int} {p : List Int × List Int} (h : parse1 bs = some p) : splitN bs.length bs = p.1 :: splitN p.2.length p.2 := by
  have hl := parse1_len h
  cases hb : bs.length with
  | zero => omega
  | succ k =>
    simp only [splitN, h]
    rw [splitN_more k p.2.length p.2 (by omega) (Nat.le_refl _)]
theorem SplI.done {A : List Int} {st0 : St} {r : Nat} {R : List (List Int)} {bs : List Int} {T : Tm} {st : St} (h : SplI A st0 r R bs T st) (hp : parse1 bs = none) {T' : Tm} {st' : St} (hn : T'.n = 54) (h3 : T'.get 3 = T.get 3)
    (hls : ∀ l, LR st l R → LR st' l R) (hl : st'.lock = []) (hk : Keep st0 st') (hx : st0.next ≤ st'.next) : DoneI A st0 T' st' :=
  ⟨hn, by
    have := h.law
    rw [split_none hp, List.append_nil] at this
    rw [← this, h3]; exact hls _ h.ls, hl, hk, hx⟩
theorem LR_take {st : St} {l : AV} {R : List (List Int)} (h : LR st l R) {left : AV} {r : Nat} (hr : st.get r = some (.row [left, TT] 137)) (hw : st.wf) (bs : List AV) (n : Nat) (lf : AV) : LR (takeSt st r 137 bs n lf) l R := by
  rcases h with ⟨rfl, rfl⟩ | ⟨hne, id, rfl, hg⟩
  · exact .inl ⟨rfl, rfl⟩
  · refine .inr ⟨hne, id, rfl, ?_⟩
    have := hw _ _ hg
    rw [takeSt_get, if_neg (fun e => ?_), if_neg (by omega)]
    · exact hg
    · rw [e, hr] at hg
      simp only [Option.some.injEq, AObj.row.injEq] at hg
      exact absurd hg.2 (by decide)
theorem takeSt_wf {st : St} (hw : st.wf) {r ty n : Nat} {bs : List AV} {lf : AV} (hr : r < st.next) : (takeSt st r ty bs n lf).wf := fun i o ho => by
  rw [takeSt_get] at ho
  show i < st.next + 1
  split at ho
  · omega
  · split at ho
    · omega
    · have := hw _ _ ho; omega
theorem takeSt_lock {st : St} {r ty n : Nat} {bs : List AV} {lf : AV} : (takeSt st r ty bs n lf).lock = st.lock := rfl
theorem takeSt_next {st : St} {r ty n : Nat} {bs : List AV} {lf : AV} : (takeSt st r ty bs n lf).next = st.next + 1 := rfl
theorem takeSt_r {st : St} {r ty n : Nat} {bs : List AV} {lf : AV} : (takeSt st r ty bs n lf).get r = some (.row [lf, TT] ty) := by rw [takeSt_get, if_pos rfl]
/-- a record more -/
theorem app_rec {st3 : St} {l : AV} {R : List (List Int)} (hls : LR st3 l R) (hw : st3.wf) (hl : st3.lock = []) (hb : R.length + 1 ≤ 1000000) (x : AV) :
    ∃ st5, appendA E0 (st3.push (.row [x] 22)) 32 32 l (.sl st3.next 1 0 1 true) = some (.sl (st3.next + 1) 1 0 (R.length + 1) false, st5) ∧ st5.get (st3.next + 1) = some (.row (R.map recA ++ [x]) 22) ∧ st5.lock = [] ∧ st5.next = st3.next + 2 ∧
      ∀ i o, st3.get i = some o → l ≠ .sl i 1 0 R.length false → st5.get i = some o := by
  have hx : sliceCells (st3.push (.row [x] 22)) (.sl st3.next 1 0 1 true) = some (1, [x]) := by
    rw [cells_sl (by rw [St.get_push, if_pos rfl]) (by simp)]
    rfl
  rcases hls with ⟨rfl, rfl⟩ | ⟨hne, id, rfl, hg⟩
  · refine ⟨_, lapp_nil hx rfl (by omega) (by omega), ?_, by simpa using hl, rfl, fun i o ho _ => ?_⟩
    · rw [St.get_push, if_pos (by simp)]; rfl
    · have := hw _ _ ho
      rw [St.get_push, if_neg (by rw [St.next_push]; omega), St.get_push, if_neg (by omega)]; exact ho
  · have hid := hw _ _ hg
    have hg' : (st3.push (.row [x] 22)).get id = some (.row (R.map recA) 22) := by rw [St.get_push, if_neg (by omega)]; exact hg
    refine ⟨_, lapp_row hg' (by simpa using hl) (by simp) hx rfl (by omega) hb, ?_, by simpa using hl, rfl, fun i o ho hne' => ?_⟩
    · rw [St.get_push, if_pos (by simp)]
    · have := hw _ _ ho
      rw [St.get_push, if_neg (by rw [St.next_del, St.next_push]; omega), St.get_del, if_neg (fun e => hne' (by rw [e])), St.get_push, if_neg (by omega)]; exact ho
theorem spl_turn {A : List Int} {st0 : St} {r : Nat} {R : List (List Int)} {bs : List Int} {T : Tm} {st : St} (hI : SplI A st0 r R bs T st) (hA : A.length ≤ 1000000) (hw0 : st0.wf) (hr0 : st0.next ≤ r) :
    AW Tryz.prog (splC 4) (fun e T' st' => (e = .exit 0 ∧ DoneI A st0 T' st') ∨ (e = .normal ∧ ∃ R' bs', bs'.length < bs.length ∧ SplI A st0 r R' bs' T' st')) T st := by
  refine AW.wf fun hw => ?_
  obtain ⟨left, hrd, hL⟩ := hI.rd
  have hrn := hw _ _ hrd
  have hT : ∀ p ∈ [(3, T.get 3), (4, AV.ptr r 0)], T.get p.1 = p.2 := fun p hp => by
    rcases List.mem_cons.1 hp with rfl | hp
    · rfl
    · obtain rfl := List.mem_singleton.1 hp; exact hI.r4
  by_cases h4 : bs.length < 4
  · have hp : parse1 bs = none := by unfold parse1; rw [if_pos h4]
    refine (spl_run (spA (T.get 3) r st) ?_ hI.n hT).mono fun e T' st' ⟨he, hn, _, k3, _, hs⟩ => ?_
    · simp only [Ob.ok_cons, Ob.ok_nil, and_true]
      exact num_short hrd hL (by simpa using h4)
    · subst hs
      exact .inl ⟨he, hI.done hp hn k3 (fun _ h => h) hI.lock hI.keep hI.next⟩
  obtain ⟨lf1, c1, L1, i1⟩ := num_ok hw hI.lock hrd hL (by omega) (by decide)
  have w1 := takeSt_wf (ty := 137) (n := 4) (bs := bs.map u8) (lf := lf1) hw hrn
  have r1 := takeSt_r (st := st) (r := r) (ty := 137) (n := 4) (bs := bs.map u8) (lf := lf1)
  have ls1 := fun l (h : LR st l R) => LR_take h hrd hw (bs.map u8) 4 lf1
  have k1 : Keep st0 (takeSt st r 137 (bs.map u8) 4 lf1) := keep_take hI.keep hI.next hw0 hr0
  have x1 : st0.next ≤ (takeSt st r 137 (bs.map u8) 4 lf1).next := by rw [takeSt_next]; have := hI.next; omega
  have lk1 : (takeSt st r 137 (bs.map u8) 4 lf1).lock = [] := by rw [takeSt_lock]; exact hI.lock
  have rn1 : r < (takeSt st r 137 (bs.map u8) 4 lf1).next := by rw [takeSt_next]; omega
  have hnx1 : (takeSt st r 137 (bs.map u8) 4 lf1).next = st.next + 1 := takeSt_next
  generalize hs1 : takeSt st r 137 (bs.map u8) 4 lf1 = st1 at *
  by_cases hn1 : num4 bs < 1
  · have hp : parse1 bs = none := by unfold parse1; rw [if_neg h4, if_pos hn1]
    refine (spl_run (spB (T.get 3) r st (num4 bs) (fun _ => st1)) ?_ hI.n hT).mono fun e T' st' ⟨he, hn, _, k3, _, hs⟩ => ?_
    · simp only [Ob.ok_cons, Ob.ok_nil, and_true]
      exact ⟨c1, lt_TU (by omega)⟩
    · subst hs
      exact .inl ⟨he, hI.done hp hn k3 ls1 lk1 k1 x1⟩
  by_cases hn2 : 4096 < num4 bs
  · have hp : parse1 bs = none := by unfold parse1; rw [if_neg h4, if_neg hn1, if_pos hn2]
    refine (spl_run (spB2 (T.get 3) r st (num4 bs) (fun _ => st1)) ?_ hI.n hT).mono fun e T' st' ⟨he, hn, _, k3, _, hs⟩ => ?_
    · simp only [Ob.ok_cons, Ob.ok_nil, and_true]
      exact ⟨c1, lt_FU (by omega), gt_TU (by omega)⟩
    · subst hs
      exact .inl ⟨he, hI.done hp hn k3 ls1 lk1 k1 x1⟩
  by_cases h8 : (bs.drop 4).length < 4
  · have hp : parse1 bs = none := by unfold parse1; rw [if_neg h4, if_neg hn1, if_neg hn2, if_pos h8]
    refine (spl_run (spC (T.get 3) r st (num4 bs) (fun _ => st1)) ?_ hI.n hT).mono fun e T' st' ⟨he, hn, _, k3, _, hs⟩ => ?_
    · simp only [Ob.ok_cons, Ob.ok_nil, and_true]
      exact ⟨c1, lt_FU (by omega), gt_FU (by omega), num_short r1 L1 (by simpa using h8)⟩
    · subst hs
      exact .inl ⟨he, hI.done hp hn k3 ls1 lk1 k1 x1⟩
  have hd8 : (bs.drop 4).drop 4 = bs.drop 8 := by rw [List.drop_drop]
  obtain ⟨lf2, c2, L2, i2⟩ := num_ok w1 lk1 r1 L1 (by omega) (by decide)
  rw [hd8] at L2
  have w2 := takeSt_wf (ty := 137) (n := 4) (bs := (bs.drop 4).map u8) (lf := lf2) w1 rn1
  have r2 := takeSt_r (st := st1) (r := r) (ty := 137) (n := 4) (bs := (bs.drop 4).map u8) (lf := lf2)
  have ls2 := fun l (h : LR st1 l R) => LR_take h r1 w1 ((bs.drop 4).map u8) 4 lf2
  have k2 : Keep st0 (takeSt st1 r 137 ((bs.drop 4).map u8) 4 lf2) := keep_take k1 x1 hw0 hr0
  have x2 : st0.next ≤ (takeSt st1 r 137 ((bs.drop 4).map u8) 4 lf2).next := by rw [takeSt_next]; omega
  have lk2 : (takeSt st1 r 137 ((bs.drop 4).map u8) 4 lf2).lock = [] := by rw [takeSt_lock]; exact lk1
  have rn2 : r < (takeSt st1 r 137 ((bs.drop 4).map u8) 4 lf2).next := by rw [takeSt_next]; omega
  generalize hs2 : takeSt st1 r 137 ((bs.drop 4).map u8) 4 lf2 = st2 at *
  obtain ⟨n, hn⟩ : ∃ n : Nat, num4 bs = (n : Int) := ⟨(num4 bs).toNat, by omega⟩
  have hnt : (num4 bs).toNat = n := by rw [hn]; rfl
  have hwr : i64 (IntKind.i64.wrap (num4 bs)) = i64 (n : Int) := by rw [hn, IntWalk.i64_in _ (by omega)]
  by_cases hsh : (bs.drop 8).length < n
  · have hp : parse1 bs = none := by unfold parse1; rw [if_neg h4, if_neg hn1, if_neg hn2, if_neg h8, if_pos (by rw [hnt]; exact hsh)]
    refine (spl_run (spD (T.get 3) r st (num4 bs) (num4 (bs.drop 4)) n (fun _ => st1) (fun _ => st2)) ?_ hI.n hT).mono fun e T' st' ⟨he, hn, _, k3, _, hs⟩ => ?_
    · simp only [Ob.ok_cons, Ob.ok_nil, and_true]
      exact ⟨c1, lt_FU (by omega), gt_FU (by omega), c2, hwr, take_short r2 L2 (by simpa using hsh)⟩
    · subst hs
      exact .inl ⟨he, hI.done hp hn k3 (fun l h => ls2 l (ls1 l h)) lk2 k2 x2⟩
  obtain ⟨lf3, c3, L3, i3⟩ := take_ok (n := n) w2 lk2 r2 L2 (by omega) (by simpa using hsh) (by omega) (by decide)
  rw [← List.map_drop] at L3
  have w3 := takeSt_wf (ty := 137) (n := n) (bs := (bs.drop 8).map u8) (lf := lf3) w2 rn2
  have r3 := takeSt_r (st := st2) (r := r) (ty := 137) (n := n) (bs := (bs.drop 8).map u8) (lf := lf3)
  have ls3 := fun l (h : LR st2 l R) => LR_take h r2 w2 ((bs.drop 8).map u8) n lf3
  have k3 : Keep st0 (takeSt st2 r 137 ((bs.drop 8).map u8) n lf3) := keep_take k2 x2 hw0 hr0
  have x3 : st0.next ≤ (takeSt st2 r 137 ((bs.drop 8).map u8) n lf3).next := by rw [takeSt_next]; omega
  have lk3 : (takeSt st2 r 137 ((bs.drop 8).map u8) n lf3).lock = [] := by rw [takeSt_lock]; exact lk2
  have rn3 : r < (takeSt st2 r 137 ((bs.drop 8).map u8) n lf3).next := by rw [takeSt_next]; omega
  have g3 : (takeSt st2 r 137 ((bs.drop 8).map u8) n lf3).get st2.next = some (.row (((bs.drop 8).take n).map u8) 5) := by
    rw [takeSt_get, if_neg (by omega), if_pos rfl, List.map_take]
  have hnx3 : (takeSt st2 r 137 ((bs.drop 8).map u8) n lf3).next = st2.next + 1 := takeSt_next
  generalize hs3 : takeSt st2 r 137 ((bs.drop 8).map u8) n lf3 = st3 at *
  have hdl : ((bs.drop 8).take n).length = n := by rw [List.length_take]; omega
  have c4 := sum_ok (f := true) g3 hdl.symm (by omega)
  by_cases hcr : crcU ((bs.drop 8).take n) ≠ num4 (bs.drop 4)
  · have hp : parse1 bs = none := by unfold parse1; rw [if_neg h4, if_neg hn1, if_neg hn2, if_neg h8, if_neg (by rw [hnt]; exact hsh), if_pos (by rw [hnt]; exact hcr)]
    refine (spl_run (spE (T.get 3) r st (num4 bs) (num4 (bs.drop 4)) n (crcMore 0 ((bs.drop 8).take n)) st2.next (fun _ => st1) (fun _ => st2) (fun _ => st3) n) ?_ hI.n hT).mono fun e T' st' ⟨he, hn, _, k3', _, hs⟩ => ?_
    · simp only [Ob.ok_cons, Ob.ok_nil, and_true]
      exact ⟨c1, lt_FU (by omega), gt_FU (by omega), c2, hwr, c3, c4, ob_T (by rw [neU_eq]; simpa [crcU] using hcr)⟩
    · subst hs
      exact .inl ⟨he, hI.done hp hn k3' (fun l h => ls3 l (ls2 l (ls1 l h))) lk3 k3 x3⟩
  have hp : parse1 bs = some ((bs.drop 8).take n, (bs.drop 8).drop n) := by
    unfold parse1; rw [if_neg h4, if_neg hn1, if_neg hn2, if_neg h8, if_neg (by rw [hnt]; exact hsh), if_neg (by rw [hnt]; exact hcr), hnt]
  have hlen := parse1_len hp
  simp only at hlen
  have l3 : LR st3 (T.get 3) R := ls3 _ (ls2 _ (ls1 _ hI.ls))
  have hlen2 := hI.len
  obtain ⟨st5, ha, g5, lk5, nx5, kp5⟩ := app_rec l3 w3 lk3 (by omega) (dS st2.next n)
  refine AW.freeze (spl_run (spF (T.get 3) (.sl (st3.next + 1) 1 0 (R.length + 1) false) r st (num4 bs) (num4 (bs.drop 4)) n (crcMore 0 ((bs.drop 8).take n)) st2.next (fun _ => st1) (fun _ => st2) (fun _ => st3) (fun _ => st5) n) ?_ hI.n hT) ?_
  · simp only [Ob.ok_cons, Ob.ok_nil, and_true]
    exact ⟨c1, lt_FU (by omega), gt_FU (by omega), c2, hwr, c3, c4, ob_F (by rw [neU_eq]; simpa [crcU] using hcr), ha⟩
  rintro e T' st' ⟨rfl, hn', _, t3, t4, rfl⟩ _ hw5
  have hF := frzSt_ok (id := st2.next) (vs := ((bs.drop 8).take n).map u8) hw5
  have nl : ∀ (i : Nat) (o : AObj) (vs : List AV) (ty : Nat), st3.get i = some (.row vs ty) → ty ≠ 22 → T.get 3 ≠ .sl i 1 0 R.length false := fun i o vs ty hg hty e => by
    rcases l3 with ⟨_, h⟩ | ⟨_, id, h, hg'⟩
    · rw [h] at e; cases e
    · rw [h] at e; cases e
      rw [hg] at hg'
      simp only [Option.some.injEq, AObj.row.injEq] at hg'
      exact hty hg'.2
  have gd : st'.get st2.next = some (.row (((bs.drop 8).take n).map u8) 5) := kp5 _ _ g3 (nl _ (.siter default 0) _ _ g3 (by decide))
  have gr : st'.get r = some (.row [lf3, TT] 137) := kp5 _ _ r3 (nl _ (.siter default 0) _ _ r3 (by decide))
  have hrn3 : r ≠ st2.next := by omega
  have hfl : frz st2.next (((bs.drop 8).take n).map u8) lf3 = lf3 := by
    rcases L3 with ⟨_, h | ⟨f, h⟩⟩ | ⟨_, id, off, full, B, h, _⟩
    · rw [h]; rfl
    · rw [h]; simp [frz, frzL]
    · rw [h]
      have := i3 _ _ _ _ _ h
      simp only [frz]
      rw [if_neg (by omega)]
  refine ⟨st2.next, _, 5, gd, lk5, .inr ⟨rfl, R ++ [(bs.drop 8).take n], (bs.drop 8).drop n, by omega, ?_⟩⟩
  have t3' : (frzT st2.next (((bs.drop 8).take n).map u8) T').get 3 = .sl (st3.next + 1) 1 0 (R.length + 1) false := by
    rw [frzT_get, t3]
    simp only [frz]
    rw [if_neg (by omega)]
  refine ⟨hn', by rw [frzT_get, t4]; rfl, ⟨lf3, ?_, ?_⟩, .inr ⟨by simp, st3.next + 1, ?_, ?_⟩, lk5, fun i o ho hp => ?_, ?_, ?_, ?_, fun i sz o k f e => ?_⟩
  · rw [hF.get, if_neg hrn3, gr]
    simp only [Option.map_some, frzO, frzL, hfl, frz]
  · rcases L3 with h | ⟨hne, id, off, full, B, h, hg, hd⟩
    · exact .inl h
    · refine .inr ⟨hne, id, off, full, B, h, ?_, hd⟩
      have hi := i3 _ _ _ _ _ h
      rw [hF.get, if_neg (by omega), kp5 _ _ hg (nl _ (.siter default 0) _ _ hg (by decide))]
      simp only [Option.map_some, frzO, frz_u8]
  · rw [t3']; simp
  · rw [hF.get, if_neg (by omega), g5]
    simp only [Option.map_some, frzO]
    rw [frzL_eq, List.map_append, ← frzL_eq, frz_recs, List.map_append]
    congr 3
    simp only [List.map_cons, List.map_nil, dS, frz, if_true, recA, hdl, Nat.mul_one, Nat.zero_add, List.length_map, List.drop_zero, Nat.le_refl]
    rw [List.take_of_length_le (by rw [List.length_map, hdl]; exact Nat.le_refl _)]
  · have hi := hw0 _ _ ho
    have hst3 := k3 i o ho hp
    rw [hF.get, if_neg (by omega)]
    have : st'.get i = some o := kp5 i o hst3 fun e => ?_
    · rw [this, Option.map_some, show frzO _ _ o = o from hp _ _]
    · have := hI.lid _ _ _ _ _ e; omega
  · show st0.next ≤ st'.next
    omega
  · rw [← hI.law, split_some hp]
    simp
  · simp only [List.length_append, List.length_cons, List.length_nil]
    omega
  · rw [t3'] at e; cases e; omega
end
section
set_option maxRecDepth 4000
/-- bytes that a call is given -/
def BytesR (st : St) (b : AV) (A : List Int) : Prop := (A = [] ∧ b = .nils) ∨ (A ≠ [] ∧ ∃ i full, b = .sl i 1 0 A.length full ∧ st.get i = some (.row (A.map u8) 5))
theorem new_ok_w {st : St} {b : AV} {A : List Int} (hw : st.wf) (hb : BytesR st b A) (hA : A.length ≤ 1000000) :
    ∃ r left st', obC 44 [b] st (.ptr r 0) st' ∧ st.next ≤ r ∧ st'.get r = some (.row [left, TT] 137) ∧ LeftR st' left (A.map u8) ∧ Keep st st' ∧ st'.lock = st.lock ∧ st.next ≤ st'.next := by
  rcases hb with ⟨rfl, rfl⟩ | ⟨hne, i, full, rfl, hg⟩
  · obtain ⟨x1, h1⟩ := run_of (newRunN st)
    refine ⟨st.next, .nils, _, ACalls.run hE (ov := noOv) noOv_ok h1 Ob.ok_nil, Nat.le_refl _, by rw [St.get_push, if_pos rfl], .inl ⟨rfl, .inl rfl⟩, fun i o ho _ => ?_, rfl, by simp⟩
    have := hw _ _ ho
    rw [St.get_push, if_neg (by omega)]; exact ho
  · have hi := hw _ _ hg
    have h0 : 0 < A.length := List.length_pos_iff.2 hne
    have hg' : (st.push (.row [] 5)).get i = some (.row (A.map u8) 5) := by rw [St.get_push, if_neg (by omega)]; exact hg
    have ha : appendA E0 (st.push (.row [] 5)) 22 22 (.sl st.next 1 0 0 true) (.sl i 1 0 A.length full) = some (.sl (st.next + 1) 1 0 A.length false, (st.push (.row [] 5)).push (.row (A.map u8) 5)) := by
      have := app_full_w (st := st.push (.row [] 5)) (id := st.next) (off := 0) (len := 0) (n := A.length) (vs := []) (c := A.map u8) (x := .sl i 1 0 A.length full) (by rw [St.get_push, if_pos rfl]) (by simp)
        (by rw [cells_sl hg' (by simp), List.drop_zero, List.take_of_length_le (by simp)]) (by simp) (by omega) (by omega)
      simpa using this
    obtain ⟨x1, h1⟩ := run_of (newRun st (fun _ => (st.push (.row [] 5)).push (.row (A.map u8) 5)) i 0 A.length (st.next + 1) A.length full)
    refine ⟨st.next + 2, .sl (st.next + 1) 1 0 A.length false, _, ACalls.run hE (ov := noOv) noOv_ok h1 ?_, by omega, by rw [St.get_push, if_pos (by simp)], .inr ⟨by simpa using hne, st.next + 1, 0, false, A, by simp, ?_, by simp⟩, fun j o ho _ => ?_, rfl, ?_⟩
    · simp only [Ob.ok_cons, Ob.ok_nil, and_true]
      exact ha
    · rw [St.get_push, if_neg (by simp), St.get_push, if_pos (by simp)]
    · have := hw _ _ ho
      rw [St.get_push, if_neg (by simp; omega), St.get_push, if_neg (by simp; omega), St.get_push, if_neg (by omega)]; exact ho
    · simp; omega
theorem loop_spl {A : List Int} {st0 : St} {r : Nat} (hA : A.length ≤ 1000000) (hw0 : st0.wf) (hr0 : st0.next ≤ r) {T : Tm} {st : St} {bs : List Int} {R : List (List Int)} (h : SplI A st0 r R bs T st) :
    AW Tryz.prog (.loop (splC 4)) (fun e T' st' => e = .exit 0 ∧ DoneI A st0 T' st') T st := by
  refine .loop (fun n T st => ∃ R bs, bs.length = n ∧ SplI A st0 r R bs T st) bs.length ⟨R, bs, rfl, h⟩ fun n T st hI => ?_
  obtain ⟨R, bs, rfl, hI⟩ := hI
  refine (spl_turn hI hA hw0 hr0).mono fun e T' st' hp => ?_
  rcases hp with ⟨rfl, hd⟩ | ⟨rfl, R', bs', hlt, hI'⟩
  · exact ⟨rfl, hd⟩
  · exact ⟨bs'.length, hlt, R', bs', rfl, hI'⟩
noncomputable def splEv0 (i : Nat) (l : List (Nat × AV)) (st : St) (x : List Or) := (evS Tryz.prog E0 noOv sitesT 100000 ssS (splC i) ⟨54, l, []⟩ st x).map fun q => (q.1, q.2.1.n, [q.2.1.get 0, q.2.1.get 3, q.2.1.get 4], q.2.2.1, q.2.2.2.2)
set_option maxRecDepth 100000 in
theorem sq0 (b : AV) (st : St) : splEv0 0 [(0, b)] st [] = some (.normal, 54, [b, .undef, .undef], st, []) := by kernel_rfl
set_option maxRecDepth 100000 in
theorem sq1 (b : AV) (st : St) : splEv0 1 [(0, b)] st [] = some (.normal, 54, [b, .nils, .undef], st, []) := by kernel_rfl
set_option maxRecDepth 100000 in
theorem sq2 (b : AV) (st : St) (r : Nat) (f1 : St → St) : splEv0 2 [(0, b), (3, .nils)] st [.eff (.ptr r 0) f1] = some (.normal, 54, [b, .nils, .ptr r 0], f1 st, [obC 44 [b] st (.ptr r 0) (f1 st)]) := by kernel_rfl
theorem spl_run0 {i : Nat} {l : List (Nat × AV)} {st st1 : St} {x : List Or} {e : Exit} {n : Nat} {a0 a3 a4 : AV} {ob : Ob} (h : splEv0 i l st x = some (e, n, [a0, a3, a4], st1, ob)) (hob : ob.ok) {T : Tm} (hn : T.n = 54) (hT : ∀ p ∈ l, T.get p.1 = p.2) :
    AW Tryz.prog (splC i) (fun e' T' st' => e' = e ∧ T'.n = n ∧ T'.get 0 = a0 ∧ T'.get 3 = a3 ∧ T'.get 4 = a4 ∧ st' = st1) T st := by
  obtain ⟨⟨e1, T1, s1, x1, o1⟩, h1, h2⟩ := Option.map_eq_some_iff.1 h
  simp only [Prod.mk.injEq, List.cons.injEq] at h2
  obtain ⟨rfl, h3, ⟨h4, h5, h6, _⟩, rfl, rfl⟩ := h2
  refine (AW.run hE (ov := noOv) noOv_ok h1 hob hn hT).mono fun e' T' st' hp => ?_
  obtain ⟨rfl, rfl, rfl⟩ := hp
  exact ⟨rfl, h3, h4, h5, h6, rfl⟩
theorem split_ok {st : St} {b : AV} {A : List Int} (hl : st.lock = []) (hb : BytesR st b A) (hA : A.length ≤ 1000000) :
    ACalls Tryz.prog 9 [b] (fun a st' => LR st' a (splitN A.length A) ∧ Keep st st' ∧ st'.lock = [] ∧ st.next ≤ st'.next) st := by
  refine ACalls.wf fun hw => ACalls.body (E := E0) hE Tryz.func9 body5 ?_
  obtain ⟨r, left, st1, hnew, hr0, hrd, hL, hk, hlk, hnx⟩ := new_ok_w hw hb hA
  have one : ∀ {P : Nat × AV → Prop} {p : Nat × AV}, P p → ∀ q ∈ [p], P q := fun h q hq => by obtain rfl := List.mem_singleton.1 hq; exact h
  have two : ∀ {P : Nat × AV → Prop} {p p' : Nat × AV}, P p → P p' → ∀ q ∈ [p, p'], P q := fun h h' q hq => by
    rcases List.mem_cons.1 hq with rfl | hq
    · exact h
    · obtain rfl := List.mem_singleton.1 hq; exact h'
  refine .seq ((spl_run0 (sq0 b st) Ob.ok_nil rfl (one rfl)).mono fun e T1 s1 ⟨he, n1, b0, _, _, hs⟩ => ?_)
  subst he; subst hs
  simp only [thenA]
  refine .scope (.seq ((spl_run0 (sq1 b s1) Ob.ok_nil n1 (one b0)).mono fun e T2 s2 ⟨he, n2, c0, c3, _, hs⟩ => ?_))
  subst he; subst hs
  simp only [thenA]
  refine .seq ((spl_run0 (sq2 b s2 r (fun _ => st1)) (by simp only [Ob.ok_cons, Ob.ok_nil, and_true]; exact hnew) n2 (two c0 c3)).mono fun e T3 s3 ⟨he, n3, _, d3, d4, hs⟩ => ?_)
  subst he; subst hs
  simp only [thenA]
  refine .seq ((spl_run (sp3 r s3) Ob.ok_nil n3 (two d3 d4)).mono fun e T4 s4 ⟨he, n4, _, e3, e4, hs⟩ => ?_)
  subst he; subst hs
  simp only [thenA]
  refine .seq (.block ((loop_spl hA hw hr0 (R := []) (bs := A) ⟨n4, e4, ⟨left, hrd, hL⟩, .inl ⟨rfl, e3⟩, by rw [hlk]; exact hl, hk, hnx, rfl, by simp, fun i sz o k f h => by rw [e3] at h; cases h⟩).mono fun e T5 s5 ⟨he, hd⟩ => ?_))
  subst he
  simp only [blockA, if_true, thenA]
  refine .seq ((spl_run (sp5 (T5.get 3) s5) Ob.ok_nil hd.n (one rfl)).mono fun e T6 s6 ⟨he, n6, f2, _, _, hs⟩ => ?_)
  subst he; subst hs
  simp only [thenA]
  refine .ret ⟨fun l h => (by cases h), [T6.get 2], rfl, ?_⟩
  simp only [oneOrTup]
  rw [f2]
  exact ⟨hd.ls, hd.keep, hd.lock, hd.next⟩
end
section
set_option maxRecDepth 100000
def byteAt (n c : Int) : Int := IntKind.u8.wrap (shrU n c)
def be4 (n : Int) : List Int := [byteAt n 24, byteAt n 16, byteAt n 8, byteAt n 0]
def sitesF : Nat → List Nat
  | 7 => [1006, 1010, 2031, 6040, 6041]
  | 40 => [1014, 2036]
  | 82 => [2007]
  | _ => []
noncomputable def wnumEv (b : AV) (n : Int) (st : St) (o : List Or) := (evCallS Tryz.prog E0 noOv sitesF 100000 40 [b, u64 n, i64 4] st o).map fun q => (q.1, q.2.1, q.2.2.2)
def apP (st : St) (s x a : AV) (st' : St) : Prop := appendA E0 st 22 22 s x = some (a, st')
section
variable (n : Int) (st : St) (i1 i2 i3 i4 i5 m1 m2 m3 m4 m5 : Nat) (g1 g2 g3 g4 g5 : St → St)
def pu (st : St) (b : Int) : St := st.push (.row [u8 b] 5)
def S4 (i m : Nat) : AV := .sl i 1 0 m false
theorem wnumN : wnumEv .nils n st [FF, .eff (S4 i1 m1) g1, .eff (S4 i2 m2) g2, .eff (S4 i3 m3) g3, .eff (S4 i4 m4) g4] = some (.tup [S4 i4 m4, i64 0], g4 (pu (g3 (pu (g2 (pu (g1 (pu st (byteAt n 24))) (byteAt n 16))) (byteAt n 8))) (byteAt n 0)),
   [bo (gtU n 4294967295) = FF, apP (pu st (byteAt n 24)) .nils (.sl st.next 1 0 1 true) (S4 i1 m1) (g1 (pu st (byteAt n 24))),
    apP (pu (g1 (pu st (byteAt n 24))) (byteAt n 16)) (S4 i1 m1) (.sl (g1 (pu st (byteAt n 24))).next 1 0 1 true) (S4 i2 m2) (g2 (pu (g1 (pu st (byteAt n 24))) (byteAt n 16))),
    apP (pu (g2 (pu (g1 (pu st (byteAt n 24))) (byteAt n 16))) (byteAt n 8)) (S4 i2 m2) (.sl (g2 (pu (g1 (pu st (byteAt n 24))) (byteAt n 16))).next 1 0 1 true) (S4 i3 m3) (g3 (pu (g2 (pu (g1 (pu st (byteAt n 24))) (byteAt n 16))) (byteAt n 8))),
    apP (pu (g3 (pu (g2 (pu (g1 (pu st (byteAt n 24))) (byteAt n 16))) (byteAt n 8))) (byteAt n 0)) (S4 i3 m3) (.sl (g3 (pu (g2 (pu (g1 (pu st (byteAt n 24))) (byteAt n 16))) (byteAt n 8))).next 1 0 1 true) (S4 i4 m4) (g4 (pu (g3 (pu (g2 (pu (g1 (pu st (byteAt n 24))) (byteAt n 16))) (byteAt n 8))) (byteAt n 0)))]) := by kernel_rfl
theorem wnumS (j mj : Nat) (fl : Bool) : wnumEv (.sl j 1 0 mj fl) n st [FF, .eff (S4 i5 m5) g5, .eff (S4 i1 m1) g1, .eff (S4 i2 m2) g2, .eff (S4 i3 m3) g3, .eff (S4 i4 m4) g4] = some (.tup [S4 i4 m4, i64 0], g4 (pu (g3 (pu (g2 (pu (g1 (pu (g5 (st.push (.row [] 5))) (byteAt n 24))) (byteAt n 16))) (byteAt n 8))) (byteAt n 0)),
   [bo (gtU n 4294967295) = FF, apP (st.push (.row [] 5)) (.sl st.next 1 0 0 true) (.sl j 1 0 mj fl) (S4 i5 m5) (g5 (st.push (.row [] 5))),
    apP (pu (g5 (st.push (.row [] 5))) (byteAt n 24)) (S4 i5 m5) (.sl (g5 (st.push (.row [] 5))).next 1 0 1 true) (S4 i1 m1) (g1 (pu (g5 (st.push (.row [] 5))) (byteAt n 24))),
    apP (pu (g1 (pu (g5 (st.push (.row [] 5))) (byteAt n 24))) (byteAt n 16)) (S4 i1 m1) (.sl (g1 (pu (g5 (st.push (.row [] 5))) (byteAt n 24))).next 1 0 1 true) (S4 i2 m2) (g2 (pu (g1 (pu (g5 (st.push (.row [] 5))) (byteAt n 24))) (byteAt n 16))),
    apP (pu (g2 (pu (g1 (pu (g5 (st.push (.row [] 5))) (byteAt n 24))) (byteAt n 16))) (byteAt n 8)) (S4 i2 m2) (.sl (g2 (pu (g1 (pu (g5 (st.push (.row [] 5))) (byteAt n 24))) (byteAt n 16))).next 1 0 1 true) (S4 i3 m3) (g3 (pu (g2 (pu (g1 (pu (g5 (st.push (.row [] 5))) (byteAt n 24))) (byteAt n 16))) (byteAt n 8))),
    apP (pu (g3 (pu (g2 (pu (g1 (pu (g5 (st.push (.row [] 5))) (byteAt n 24))) (byteAt n 16))) (byteAt n 8))) (byteAt n 0)) (S4 i3 m3) (.sl (g3 (pu (g2 (pu (g1 (pu (g5 (st.push (.row [] 5))) (byteAt n 24))) (byteAt n 16))) (byteAt n 8))).next 1 0 1 true) (S4 i4 m4) (g4 (pu (g3 (pu (g2 (pu (g1 (pu (g5 (st.push (.row [] 5))) (byteAt n 24))) (byteAt n 16))) (byteAt n 8))) (byteAt n 0)))]) := by kernel_rfl
noncomputable def frameEv (x : AV) (st : St) (o : List Or) := (evCallS Tryz.prog E0 noOv sitesF 100000 7 [x] st o).map fun q => (q.1, q.2.1, q.2.2.2)
theorem frN : frameEv .nils st [TT] = some (.tup [.nils, i64 1], st, [bo (eqN 0 0) = TT]) := by kernel_rfl
theorem fr0 (k : Nat) (fl : Bool) (cells : List AV) : frameEv (.imm 1 k fl cells) st [TT] = some (.tup [.nils, i64 1], st, [bo (eqN k 0) = TT]) := by kernel_rfl
theorem fr1 (k : Nat) (fl : Bool) (cells : List AV) : frameEv (.imm 1 k fl cells) st [FF, TT] = some (.tup [.nils, i64 3], st, [bo (eqN k 0) = FF, bo (gtN k 4096) = TT]) := by kernel_rfl
theorem fr2 (k : Nat) (fl : Bool) (cells : List AV) (c : Int) : frameEv (.imm 1 k fl cells) st [FF, FF, .eff (.tup [S4 i1 m1, i64 0]) g1, .eff (u32 c) id, .eff (.tup [S4 i2 m2, i64 0]) g2, .eff (S4 i3 m3) g3] = some (.tup [S4 i3 m3, i64 0], g3 (g2 (g1 st)),
  [bo (eqN k 0) = FF, bo (gtN k 4096) = FF, obC 40 [.nils, u64 (IntKind.u64.wrap k), i64 4] st (.tup [S4 i1 m1, i64 0]) (g1 st), obC 41 [.imm 1 k fl cells] (g1 st) (u32 c) (g1 st), obC 40 [S4 i1 m1, u64 (IntKind.u64.wrap c), i64 4] (g1 st) (.tup [S4 i2 m2, i64 0]) (g2 (g1 st)), apP (g2 (g1 st)) (S4 i2 m2) (.imm 1 k fl cells) (S4 i3 m3) (g3 (g2 (g1 st)))]) := by kernel_rfl
end
end
section
set_option maxRecDepth 4000
def KeepA (st st' : St) : Prop := ∀ i o, st.get i = some o → st'.get i = some o
/-- bytes that grow -/
def BR (st : St) (s : AV) (B : List Int) : Prop := (B = [] ∧ s = .nils) ∨ (B ≠ [] ∧ ∃ i, s = S4 i B.length ∧ st.get i = some (.row (B.map u8) 5))
theorem del_wf {st : St} (hw : st.wf) (id : Nat) : (st.del id).wf := fun i p h => by
  rw [St.get_del] at h
  split at h
  · cases h
  · exact hw _ _ h
theorem app_bytes {st : St} {s x : AV} {B c : List Int} (hB : BR st s B) (hw : st.wf) (hl : st.lock = []) (hx : sliceCells st x = some (c.length, c.map u8)) (hc : c ≠ []) (hb : B.length + c.length ≤ 1000000) :
    ∃ st', apP st s x (S4 st.next (B.length + c.length)) st' ∧ st'.get st.next = some (.row ((B ++ c).map u8) 5) ∧ st'.lock = [] ∧ st'.next = st.next + 1 ∧ (∀ j o, st.get j = some o → s ≠ S4 j B.length → st'.get j = some o) ∧ st'.wf := by
  have h0 : c.length ≠ 0 := fun e => hc (List.eq_nil_of_length_eq_zero e)
  rcases hB with ⟨rfl, rfl⟩ | ⟨hne, i, rfl, hg⟩
  · refine ⟨st.push (.row (c.map u8) 5), ?_, ?_, by simpa using hl, rfl, fun j o ho _ => ?_, push_wf hw _⟩
    · have := app_nil_w (st := st) hx (by simp) h0 (by simp at hb; omega)
      simpa [apP, S4] using this
    · rw [St.get_push, if_pos rfl]; simp
    · have := hw _ _ ho
      rw [St.get_push, if_neg (by omega)]; exact ho
  · refine ⟨_, app_row_w hg hl (by simp) hx (by simp) h0 hb, ?_, by simpa using hl, rfl, fun j o ho hj => ?_, push_wf (del_wf hw _) _⟩
    · rw [St.get_push, if_pos (by simp)]; simp
    · have := hw _ _ ho
      rw [St.get_push, if_neg (by simp; omega), St.get_del, if_neg (fun e => hj (by rw [e]))]; exact ho
theorem app_byte {st : St} {s : AV} {B : List Int} (hB : BR st s B) (hw : st.wf) (hl : st.lock = []) (b : Int) (hb : B.length + 1 ≤ 1000000) :
    ∃ st', apP (pu st b) s (.sl st.next 1 0 1 true) (S4 (st.next + 1) (B.length + 1)) st' ∧ st'.get (st.next + 1) = some (.row ((B ++ [b]).map u8) 5) ∧ st'.lock = [] ∧ st'.next = st.next + 2 ∧ (∀ j o, st.get j = some o → s ≠ S4 j B.length → st'.get j = some o) ∧ st'.wf := by
  have hp : ∀ j o, st.get j = some o → (pu st b).get j = some o := fun j o ho => by
    have := hw _ _ ho
    show (st.push _).get j = _
    rw [St.get_push, if_neg (by omega)]; exact ho
  have hB' : BR (pu st b) s B := by
    rcases hB with h | ⟨hne, i, rfl, hg⟩
    · exact .inl h
    · exact .inr ⟨hne, i, rfl, hp _ _ hg⟩
  have hx : sliceCells (pu st b) (.sl st.next 1 0 1 true) = some ([b].length, [b].map u8) := by
    rw [cells_sl (A := [u8 b]) (ty := 5) (by show (st.push _).get _ = _; rw [St.get_push, if_pos rfl]) (by simp)]
    rfl
  obtain ⟨st', h1, h2, h3, h4, h5, h6⟩ := app_bytes hB' (push_wf hw _) (by show (st.push _).lock = _; simpa using hl) hx (by simp) hb
  exact ⟨st', h1, h2, h3, h4, fun j o ho hj => h5 j o (hp _ _ ho) hj, h6⟩
theorem wnum_run {b a : AV} {n : Int} {st st' : St} {x : List Or} {ob : Ob} (h : wnumEv b n st x = some (a, st', ob)) (hob : ob.ok) : obC 40 [b, u64 n, i64 4] st a st' := by
  obtain ⟨x1, h1⟩ := run_of h
  exact ACalls.run hE (ov := noOv) noOv_ok h1 hob
theorem be4_ne (n : Int) : be4 n ≠ [] := by simp [be4]
/-- four bytes behind a fresh slice -/
theorem four {st : St} {s : AV} {B : List Int} (hB : BR st s B) (hw : st.wf) (hl : st.lock = []) (n : Int) (hb : B.length + 4 ≤ 1000000) :
    ∃ (i1 i2 i3 i4 : Nat) (s1 s2 s3 s4 : St), apP (pu st (byteAt n 24)) s (.sl st.next 1 0 1 true) (S4 i1 (B.length + 1)) s1 ∧ apP (pu s1 (byteAt n 16)) (S4 i1 (B.length + 1)) (.sl s1.next 1 0 1 true) (S4 i2 (B.length + 2)) s2 ∧
      apP (pu s2 (byteAt n 8)) (S4 i2 (B.length + 2)) (.sl s2.next 1 0 1 true) (S4 i3 (B.length + 3)) s3 ∧ apP (pu s3 (byteAt n 0)) (S4 i3 (B.length + 3)) (.sl s3.next 1 0 1 true) (S4 i4 (B.length + 4)) s4 ∧
      s4.get i4 = some (.row ((B ++ be4 n).map u8) 5) ∧ s4.lock = [] ∧ st.next ≤ i4 ∧ i4 < s4.next ∧ st.next ≤ s4.next ∧ (∀ j o, st.get j = some o → s ≠ S4 j B.length → s4.get j = some o) ∧ s4.wf := by
  obtain ⟨s1, a1, g1, l1, n1, k1, w1⟩ := app_byte hB hw hl (byteAt n 24) (by omega)
  obtain ⟨s2, a2, g2, l2, n2, k2, w2⟩ := app_byte (s := S4 (st.next + 1) (B.length + 1)) (B := B ++ [byteAt n 24]) (.inr ⟨by simp, st.next + 1, by simp, g1⟩) w1 l1 (byteAt n 16) (by simp; omega)
  obtain ⟨s3, a3, g3, l3, n3, k3, w3⟩ := app_byte (s := S4 (s1.next + 1) (B.length + 2)) (B := B ++ [byteAt n 24] ++ [byteAt n 16]) (.inr ⟨by simp, s1.next + 1, by simp, g2⟩) w2 l2 (byteAt n 8) (by simp; omega)
  obtain ⟨s4, a4, g4, l4, n4, k4, w4⟩ := app_byte (s := S4 (s2.next + 1) (B.length + 3)) (B := B ++ [byteAt n 24] ++ [byteAt n 16] ++ [byteAt n 8]) (.inr ⟨by simp, s2.next + 1, by simp, g3⟩) w3 l3 (byteAt n 0) (by simp; omega)
  refine ⟨st.next + 1, s1.next + 1, s2.next + 1, s3.next + 1, s1, s2, s3, s4, a1, by simpa using a2, by simpa using a3, by simpa using a4, by simpa [be4] using g4, l4, by omega, by omega, by omega, fun j o ho hj => ?_, w4⟩
  have := hw _ _ ho
  refine k4 j o (k3 j o (k2 j o (k1 j o ho hj) ?_) ?_) ?_ <;> (intro e; simp only [S4, AV.sl.injEq] at e; omega)
theorem numW_ok {st : St} {s : AV} {B : List Int} (hB : BR st s B) (hw : st.wf) (hl : st.lock = []) {n : Int} (hn : 0 ≤ n ∧ n ≤ 4294967295) (hb : B.length + 4 ≤ 1000000) :
    ∃ i st', obC 40 [s, u64 n, i64 4] st (.tup [S4 i (B.length + 4), i64 0]) st' ∧ st'.get i = some (.row ((B ++ be4 n).map u8) 5) ∧ st'.lock = [] ∧ st.next ≤ i ∧ st.next ≤ st'.next ∧ KeepA st st' ∧ st'.wf := by
  have hg : bo (gtU n 4294967295) = FF := ob_F (by rw [gtU_eq]; simp; omega)
  rcases hB with ⟨rfl, rfl⟩ | ⟨hne, j, rfl, hg0⟩
  · obtain ⟨i1, i2, i3, i4, s1, s2, s3, s4, a1, a2, a3, a4, g, l, x1, x2, x3, k, w⟩ := four (st := st) (B := []) (.inl ⟨rfl, rfl⟩) hw hl n hb
    refine ⟨i4, s4, wnum_run (wnumN n st i1 i2 i3 i4 1 2 3 4 (fun _ => s1) (fun _ => s2) (fun _ => s3) (fun _ => s4)) ?_, g, l, x1, x3, fun j o ho => k j o ho (by intro e; cases e), w⟩
    simp only [Ob.ok_cons, Ob.ok_nil, and_true]
    exact ⟨hg, a1, a2, a3, a4⟩
  · have hj := hw _ _ hg0
    have hx : sliceCells (st.push (.row [] 5)) (S4 j B.length) = some (B.length, B.map u8) := by
      unfold S4
      rw [cells_sl (A := B.map u8) (ty := 5) (by rw [St.get_push, if_neg (by omega)]; exact hg0) (by simp), List.drop_zero, List.take_of_length_le (by simp)]
    have h0 : B.length ≠ 0 := fun e => hne (List.eq_nil_of_length_eq_zero e)
    have ha : apP (st.push (.row [] 5)) (.sl st.next 1 0 0 true) (S4 j B.length) (S4 (st.next + 1) B.length) ((st.push (.row [] 5)).push (.row (B.map u8) 5)) := by
      have := app_full_w (st := st.push (.row [] 5)) (id := st.next) (off := 0) (len := 0) (n := B.length) (vs := []) (c := B.map u8) (x := S4 j B.length) (by rw [St.get_push, if_pos rfl]) (by simp) hx (by simp) h0 (by omega)
      simpa [apP, S4] using this
    have hw' := push_wf (push_wf hw (.row [] 5)) (.row (B.map u8) 5)
    have hl' : ((st.push (.row [] 5)).push (.row (B.map u8) 5)).lock = [] := by simpa using hl
    have hB' : BR ((st.push (.row [] 5)).push (.row (B.map u8) 5)) (S4 (st.next + 1) B.length) B := .inr ⟨hne, st.next + 1, rfl, by rw [St.get_push, if_pos (by simp)]⟩
    obtain ⟨i1, i2, i3, i4, s1, s2, s3, s4, a1, a2, a3, a4, g, l, x1, x2, x3, k, w⟩ := four hB' hw' hl' n hb
    have hnx : ((st.push (.row [] 5)).push (.row (B.map u8) 5)).next = st.next + 2 := rfl
    refine ⟨i4, s4, wnum_run (wnumS n st i1 i2 i3 i4 (st.next + 1) (B.length + 1) (B.length + 2) (B.length + 3) (B.length + 4) B.length (fun _ => s1) (fun _ => s2) (fun _ => s3) (fun _ => s4) (fun _ => (st.push (.row [] 5)).push (.row (B.map u8) 5)) j B.length false) ?_, g, l, by omega, by omega, fun j o ho => ?_, w⟩
    · simp only [Ob.ok_cons, Ob.ok_nil, and_true]
      exact ⟨hg, ha, a1, a2, a3, a4⟩
    · have := hw _ _ ho
      refine k j o ?_ (by intro e; simp only [S4, AV.sl.injEq] at e; omega)
      rw [St.get_push, if_neg (by simp; omega), St.get_push, if_neg (by omega)]; exact ho
end
section
set_option maxRecDepth 4000
def frameL (d : List Int) : List Int := be4 d.length ++ be4 (crcU d) ++ d
theorem be4_len (n : Int) : (be4 n).length = 4 := rfl
theorem frame_len (d : List Int) : (frameL d).length = 8 + d.length := by simp [frameL, be4_len]; omega
theorem wrap32_range (k : Int) : 0 ≤ IntKind.u32.wrap k ∧ IntKind.u32.wrap k ≤ 4294967295 := by
  rw [IntKind.wrap_u32]; omega
theorem crc_range (l : List Int) : 0 ≤ crcMore 0 l ∧ crcMore 0 l ≤ 4294967295 := by
  have h : ∃ z : Int, crcMore 0 l = IntKind.u32.wrap z := ⟨_, rfl⟩
  obtain ⟨z, hz⟩ := h
  rw [hz]; exact wrap32_range z
theorem crcU_eq (d : List Int) : crcU d = crcMore 0 d := by
  have := crc_range d
  unfold crcU
  rw [IntWalk.u64_in _ (by omega)]
theorem frame_run {x a : AV} {st st' : St} {o : List Or} {ob : Ob} (h : frameEv x st o = some (a, st', ob)) (hob : ob.ok) : obC 7 [x] st a st' := by
  obtain ⟨x1, h1⟩ := run_of h
  exact ACalls.run hE (ov := noOv) noOv_ok h1 hob
def recW (d : List Int) : AV := .imm 1 d.length false (d.map u8)
def recF (f : Bool) (d : List Int) : AV := .imm 1 d.length f (d.map u8)
theorem frame_bad0 (st : St) : obC 7 [.nils] st (.tup [.nils, i64 1]) st := frame_run (frN st) (by
  simp only [Ob.ok_cons, Ob.ok_nil, and_true]; exact ob_T rfl)
theorem frame_bad1 (st : St) {d : List Int} (h : d.length = 0) : obC 7 [recW d] st (.tup [.nils, i64 1]) st := frame_run (fr0 st d.length false (d.map u8)) (by
  simp only [Ob.ok_cons, Ob.ok_nil, and_true]; exact ob_T (by rw [eqN_eq, h]; rfl))
theorem frame_bad2 (st : St) {d : List Int} (h : 4096 < d.length) : obC 7 [recW d] st (.tup [.nils, i64 3]) st := frame_run (fr1 st d.length false (d.map u8)) (by
  simp only [Ob.ok_cons, Ob.ok_nil, and_true]
  exact ⟨ob_F (by rw [eqN_eq, beq_eq_false_iff_ne]; omega), gt_T (by omega)⟩)
theorem frame_ok {f : Bool} {st : St} (hw : st.wf) (hl : st.lock = []) {d : List Int} (h1 : 1 ≤ d.length) (h2 : d.length ≤ 4096) :
    ∃ i st', obC 7 [recF f d] st (.tup [S4 i (8 + d.length), i64 0]) st' ∧ st'.get i = some (.row ((frameL d).map u8) 5) ∧ st'.lock = [] ∧ st.next ≤ i ∧ st.next ≤ st'.next ∧ KeepA st st' ∧ st'.wf := by
  obtain ⟨i1, s1, a1, g1, l1, x1, n1, k1, w1⟩ := numW_ok (st := st) (s := .nils) (B := []) (.inl ⟨rfl, rfl⟩) hw hl (n := d.length) (by omega) (by simp)
  have hc := crc_range d
  obtain ⟨i2, s2, a2, g2, l2, x2, n2, k2, w2⟩ := numW_ok (st := s1) (s := S4 i1 4) (B := be4 d.length) (.inr ⟨be4_ne _, i1, rfl, by simpa using g1⟩) w1 l1 (n := crcU d) (by rw [crcU_eq]; exact hc) (by simp [be4_len])
  have hx : sliceCells s2 (recF f d) = some (d.length, d.map u8) := rfl
  obtain ⟨s3, a3, g3, l3, n3, k3, w3⟩ := app_bytes (st := s2) (s := S4 i2 8) (B := be4 d.length ++ be4 (crcU d)) (.inr ⟨by simp [be4], i2, rfl, g2⟩) w2 l2 hx (fun e => by rw [e] at h1; simp at h1) (by simp [be4_len]; omega)
  refine ⟨s2.next, s3, frame_run (fr2 st i1 i2 s2.next 4 8 (8 + d.length) (fun _ => s1) (fun _ => s2) (fun _ => s3) d.length f (d.map u8) (crcMore 0 d)) ?_, g3, l3, by omega, by omega, fun j o ho => ?_, w3⟩
  · simp only [Ob.ok_cons, Ob.ok_nil, and_true]
    refine ⟨ob_F (by rw [eqN_eq, beq_eq_false_iff_ne]; omega), gt_F (by omega), ?_, sum_imm s1 rfl (by omega), ?_, ?_⟩
    · rw [IntWalk.u64_in _ (by omega)]; exact a1
    · exact a2
    · have e : (be4 (d.length : Int) ++ be4 (crcU d)).length = 8 := rfl
      rw [e] at a3
      exact a3
  · have := hw _ _ ho
    exact k3 j o (k2 j o (k1 j o ho)) (by intro e; simp only [S4, AV.sl.injEq] at e; omega)
end
section
set_option maxRecDepth 4000
/-! ### the plain law: frames, one behind the other, with a beginning of another behind them, are split into their records -/
theorem shrU_eq (a c : Nat) (h : c ≤ 64) : shrU (a : Int) (c : Int) = ((a >>> c : Nat) : Int) := by
  have h1 : shrU (a : Int) (c : Int) = (a : Int).fdiv (2 ^ (min c 64)) := by
    unfold shrU
    rfl
  rw [h1, Nat.min_eq_left h, Int.fdiv_eq_ediv_of_nonneg _ (Int.le_of_lt (Int.pow_pos (by decide))), Nat.shiftRight_eq_div_pow, Int.natCast_ediv, Int.natCast_pow]
  rfl
theorem byteAt_div (s : Nat) (c : Nat) (hc : c ≤ 64) : byteAt (s : Int) (c : Int) = ((s / 2 ^ c % 256 : Nat) : Int) := by
  unfold byteAt
  rw [shrU_eq s c hc, Nat.shiftRight_eq_div_pow, IntKind.wrap_u8]
  omega
theorem orU_eq (a b : Int) : orU a b = IntKind.u64.wrap ((BitVec.ofInt 64 a ||| BitVec.ofInt 64 b).toNat : Int) := rfl
theorem orU_nat (m b : Nat) (hm : m < 2 ^ 56) (hb : b < 256) : orU (shlU (m : Int) 8) (IntKind.u64.wrap (b : Int)) = ((m * 256 + b : Nat) : Int) := by
  have h1 : shlU (m : Int) 8 = ((m * 256 : Nat) : Int) := by
    have : shlU (m : Int) 8 = IntKind.u64.wrap ((m : Int) * 2 ^ 8) := rfl
    rw [this, IntWalk.u64_in _ (by omega)]
    omega
  rw [h1, IntWalk.u64_in (b : Int) (by omega), orU_eq]
  have h2 : ((BitVec.ofInt 64 ((m * 256 : Nat) : Int) ||| BitVec.ofInt 64 (b : Int)).toNat) = m * 256 + b := by
    rw [BitVec.toNat_or, BitVec.ofInt_natCast, BitVec.ofInt_natCast, BitVec.toNat_ofNat, BitVec.toNat_ofNat, Nat.mod_eq_of_lt (by omega), Nat.mod_eq_of_lt (by omega)]
    have := Nat.shiftLeft_add_eq_or_of_lt (show b < 2 ^ 8 by omega) m
    rw [Nat.shiftLeft_eq, show (2 : Nat) ^ 8 = 256 from rfl] at this
    omega
  rw [h2, IntWalk.u64_in _ (by omega)]
theorem foldN_be4 (n : Nat) (h : n < 2 ^ 32) : foldN (be4 (n : Int)) = (n : Int) := by
  have b24 := byteAt_div n 24 (by omega)
  have b16 := byteAt_div n 16 (by omega)
  have b8 := byteAt_div n 8 (by omega)
  have b0 := byteAt_div n 0 (by omega)
  unfold be4 foldN
  rw [show (24 : Int) = ((24 : Nat) : Int) from rfl, show (16 : Int) = ((16 : Nat) : Int) from rfl, show (byteAt (n : Int) 8) = byteAt (n : Int) ((8 : Nat) : Int) from rfl, show (0 : Int) = ((0 : Nat) : Int) from rfl, b24, b16, b8, b0]
  simp only [List.foldl_cons, List.foldl_nil]
  have e : ∀ (m b : Nat), m < 2 ^ 56 → b < 256 → orU (shlU (m : Int) 8) (IntKind.u64.wrap (b : Int)) = ((m * 256 + b : Nat) : Int) := orU_nat
  rw [e 0 _ (by omega) (by omega), e _ _ (by omega) (by omega), e _ _ (by omega) (by omega), e _ _ (by omega) (by omega)]
  omega
theorem num4_frame (n : Int) (h : 0 ≤ n ∧ n ≤ 4294967295) (l : List Int) : num4 (be4 n ++ l) = n := by
  obtain ⟨m, rfl⟩ := Int.eq_ofNat_of_zero_le h.1
  show foldN (be4 (m : Int)) = _
  exact foldN_be4 m (by omega)
theorem parse_frame {d : List Int} (h1 : 1 ≤ d.length) (h2 : d.length ≤ 4096) (rest : List Int) : parse1 (frameL d ++ rest) = some (d, rest) := by
  have hc := crc_range d
  rw [← crcU_eq] at hc
  have e0 : frameL d ++ rest = be4 d.length ++ (be4 (crcU d) ++ (d ++ rest)) := by simp [frameL]
  have n1 : num4 (frameL d ++ rest) = d.length := by rw [e0]; exact num4_frame _ (by omega) _
  have d4 : (frameL d ++ rest).drop 4 = be4 (crcU d) ++ (d ++ rest) := by rw [e0]; rfl
  have d8 : (frameL d ++ rest).drop 8 = d ++ rest := by rw [e0]; rfl
  have n2 : num4 ((frameL d ++ rest).drop 4) = crcU d := by rw [d4]; exact num4_frame _ hc _
  have hl : (frameL d ++ rest).length = 8 + d.length + rest.length := by rw [List.length_append, frame_len]
  unfold parse1
  rw [if_neg (by omega), if_neg (by omega), if_neg (by omega), if_neg (by rw [List.length_drop]; omega), n1, n2, d8]
  have ht : ((d.length : Int)).toNat = d.length := rfl
  rw [ht, if_neg (by simp), List.take_left' rfl, if_neg (by simp), List.drop_left' rfl]
theorem parse_part {d : List Int} (h1 : 1 ≤ d.length) (h2 : d.length ≤ 4096) {k : Nat} (hk : k < 8 + d.length) : parse1 ((frameL d).take k) = none := by
  have hl : ((frameL d).take k).length = k := by rw [List.length_take, frame_len]; omega
  have hc := crc_range d
  rw [← crcU_eq] at hc
  unfold parse1
  by_cases h4 : k < 4
  · rw [if_pos (by omega)]
  rw [if_neg (by omega)]
  have e0 : (frameL d).take k = be4 d.length ++ (be4 (crcU d) ++ d).take (k - 4) := by
    unfold frameL
    rw [List.append_assoc, List.take_append, be4_len, List.take_of_length_le (by rw [be4_len]; omega)]
  have n1 : num4 ((frameL d).take k) = d.length := by rw [e0]; exact num4_frame _ (by omega) _
  rw [if_neg (by omega), if_neg (by omega)]
  by_cases h8 : k < 8
  · rw [if_pos (by rw [List.length_drop]; omega)]
  rw [if_neg (by rw [List.length_drop]; omega), if_pos]
  rw [n1, List.length_drop, hl]
  show k - 8 < ((d.length : Int)).toNat
  have ht : ((d.length : Int)).toNat = d.length := rfl
  omega
theorem split_frames (tl : List Int) (hp : parse1 tl = none) : ∀ (R : List (List Int)), (∀ d ∈ R, 1 ≤ d.length ∧ d.length ≤ 4096) → splitN (R.flatMap frameL ++ tl).length (R.flatMap frameL ++ tl) = R
  | [], _ => by simpa using split_none hp
  | d :: r, h => by
    have hd := h d (List.mem_cons_self ..)
    have ih := split_frames tl hp r fun e he => h e (List.mem_cons_of_mem _ he)
    rw [List.flatMap_cons, List.append_assoc, split_some (parse_frame hd.1 hd.2 _)]
    simp only [ih]
end
end Go.Proofs.YtalchcdenhfmiaaGreatDoor.E
