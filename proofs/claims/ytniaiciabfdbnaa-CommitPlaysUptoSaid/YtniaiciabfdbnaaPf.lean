/- FilesPlays of escritoirelaw13 over the abstract machine: each kind of call, the loop, and that it returns true. No condition beyond those that the lemmas name. -/
import Derived.Test.YtniaiciabfdbnaaPe
namespace Go.Proofs.Ytniaiciabfdbnaa.E
open Go Go.Proofs
section
set_option maxRecDepth 100000
theorem awake13_ev : isTrue (evCall E0 ovF 1000000 24 [] st00) = true := by kernel_rfl
theorem awake13 (st : St) : ACalls Try.prog 24 [] (fun a st' => a = TT ∧ st' = st) st := fun g w us hok hv => by
  obtain rfl : us = [] := List.eq_nil_of_length_eq_zero hv.1
  exact (closedF awake13_ev w).mono fun e w' ⟨he, hb⟩ => ⟨g, st, TT, .bool true, he, step_below hok hb, .val _ rfl, rfl, rfl⟩
end
section
set_option maxRecDepth 4000
/-! ### calls beside an object that is left out -/
mutual
theorem ren_id : ∀ a : AV, ren (fun i => i) a = a
  | .val _ => rfl
  | .nilp => rfl
  | .nilm => rfl
  | .nilf => rfl
  | .nili => rfl
  | .ptr _ _ => rfl
  | .iptr cs => by simp only [ren, renL_id cs]
  | .nils => rfl
  | .sl _ _ _ _ _ => rfl
  | .imm _ _ _ cs => by simp only [ren, renL_id cs]
  | .mp _ => rfl
  | .fn _ a b => by simp only [ren, renL_id a, renL_id b]
  | .agg cs => by simp only [ren, renL_id cs]
  | .tup cs => by simp only [ren, renL_id cs]
  | .ifc _ v => by simp only [ren, ren_id v]
  | .undef => rfl
theorem renL_id : ∀ l : List AV, renL (fun i => i) l = l
  | [] => rfl
  | a :: r => by simp only [renL, ren_id a, renL_id r]
end
theorem renO_id (o : AObj) : o.ren (fun i => i) = o := by
  cases o <;> simp [AObj.ren, renL_id, ren_id]
theorem del_emb {st : St} (hw : st.wf) (hl : st.lock = []) (hgl : ∀ p ∈ st.gl, ∀ a ∈ p.2, ∃ v, a = .val v) {a : Nat} {I : List Nat} (hI : ∀ x ∈ I, x = a) : Emb (st.del a) (st.hide I) (fun i => i) := {
  new := fun i hi => by
    have hi : st.next ≤ i := hi
    show i = st.next + (i - st.next); omega
  lt := fun i hi => hi
  inj := fun i j o o' _ _ h => h
  get := fun id o h => by
    rw [St.get_del] at h
    split at h
    · cases h
    · rw [renO_id]; exact h
  wf := fun id o h => by
    rw [St.get_del] at h
    split at h
    · cases h
    · exact hw _ _ h
  lock := fun id o h => by
    rw [St.get_del] at h
    split at h
    · cases h
    · rename_i hne
      constructor
      · intro h'
        have h' : id ∈ st.lock := h'
        rw [hl] at h'; cases h'
      · intro h'
        have h' : id ∈ I ++ st.lock := h'
        rw [hl, List.append_nil] at h'
        exact absurd (hI id h') hne
  gl := fun p hp => ⟨hp, hgl p hp⟩ }
theorem del_wf {st : St} (hw : st.wf) (a : Nat) : (st.del a).wf := fun i o h => by
  rw [St.get_del] at h
  split at h
  · cases h
  · exact hw _ _ h
theorem hid_ok {f : Nat} {args : List AV} {r : AV} {st s1 : St} {a : Nat} {I : List Nat} {o : AObj} (hw : st.wf) (hl : st.lock = []) (hgl : st.gl = []) (hI : ∀ x ∈ I, x = a) (ho : st.get a = some o) (hcalm : Calm st.next o) (h : obC f args (st.del a) r s1) {S : List Nat} (hR : RestF (st.del a) s1 S) (ha : a ∉ S) :
    ∃ s', obC f args (st.hide I) r s' ∧ RestF st (s'.show st I) S ∧ (∀ k, k ≠ a → ((∃ o, st.get k = some o) ∨ st.next ≤ k) → (s'.show st I).get k = s1.get k) ∧ (s'.show st I).get a = some o := by
  have hE := del_emb hw hl (by rw [hgl]; intro p hp; cases hp) hI
  have hfr := h.frame hE
  have hrun : obC f args (st.hide I) r (mergeSt s1 (st.hide I) (st.del a) (fun i => i)) := by
    have e : renL (fun i => i) args = args := renL_id args
    rw [e] at hfr
    refine hfr.mono fun r' st' hq => ?_
    obtain ⟨r0, st0', ⟨h1, h2⟩, h3, h4, _, _⟩ := hq
    subst h1; subst h2
    exact ⟨by rw [h3, ren_id], h4⟩
  have hnx : (st.del a).next = st.next := rfl
  have hn1 : st.next ≤ s1.next := hR.next
  have hz : ∀ k, ((mergeSt s1 (st.hide I) (st.del a) (fun i => i)).show st I).get k = if k ∈ I ∧ (st.get k).isSome = true then st.get k else (mergeSt s1 (st.hide I) (st.del a) (fun i => i)).get k := fun k => St.show_get _ _ _ _
  have hma : (mergeSt s1 (st.hide I) (st.del a) (fun i => i)).get a = some o := by
    rw [merge_out hE]
    · exact ho
    · intro i hi hh e
      have e : i = a := e
      subst e
      have hlt := hw _ _ ho
      simp only [St.had, Bool.or_eq_true, decide_eq_true_eq, St.get_del] at hh
      rcases hh with hh | hh
      · have hh : st.next ≤ i := hh
        omega
      · simp at hh
  have hza : ((mergeSt s1 (st.hide I) (st.del a) (fun i => i)).show st I).get a = some o := by
    rw [hz]; split
    · exact ho
    · exact hma
  have hzk : ∀ k, k ≠ a → ((∃ o, st.get k = some o) ∨ st.next ≤ k) → ((mergeSt s1 (st.hide I) (st.del a) (fun i => i)).show st I).get k = s1.get k := fun k hk hor => by
    rw [hz, if_neg (fun h => hk (hI k h.1))]
    have hhad : (st.del a).had k = true := by
      simp only [St.had, Bool.or_eq_true, decide_eq_true_eq, St.get_del, if_neg hk]
      rcases hor with ⟨o', h⟩ | h
      · right; rw [h]; rfl
      · left; exact h
    by_cases hlt : k < s1.next
    · have := merge_in hE (i := k) hlt hhad
      rw [this]
      cases hg : s1.get k with
      | none => rfl
      | some o' => simp only [Option.map_some, renO_id]
    · have h1 : (mergeSt s1 (st.hide I) (st.del a) (fun i => i)).get k = (st.hide I).get k := merge_out hE (k := k) fun i hi _ e => hlt (by rw [← e]; exact hi)
      rw [h1]
      have hn : s1.get k = none := by
        cases hg : s1.get k with
        | none => rfl
        | some o' => exact absurd (hR.wf _ _ hg) hlt
      rw [hn]
      show st.get k = none
      cases hg : st.get k with
      | none => rfl
      | some o' => have := hw _ _ hg; omega
  refine ⟨_, hrun, ⟨fun i o' hi ho' hc => ?_, ?_, rfl, ?_, fun i o' hi => ?_⟩, hzk, hza⟩
  · by_cases e : i = a
    · subst e
      rw [hza]; rw [ho] at ho'; exact ho'
    · rw [hzk i e (.inl ⟨o', ho'⟩)]
      exact hR.keep i o' hi (by rw [St.get_del, if_neg e]; exact ho') hc
  · rw [St.show_next]; show st.next ≤ st.next + (s1.next - st.next); omega
  · rw [St.show_gl]; rfl
  · rw [St.show_next]
    show i < st.next + (s1.next - st.next)
    rw [hz] at hi
    split at hi
    · have := hw _ _ hi; omega
    · rcases merge_cases hE hi with ⟨j, o0, h1, h2, h3, _⟩ | ⟨h1, _⟩
      · have h2 : j = i := h2
        omega
      · have := hw _ _ h1; omega
end
section
set_option maxRecDepth 4000
structure PlS where
  st : St
  d : Nat
  m : Nat
  fv : AV
  s : PS
  r : RS
structure PlI (e U : Nat) (σ : PlS) : Prop where
  wf : σ.st.wf
  lock : σ.st.lock = []
  gl : σ.st.gl = []
  p : PDs σ.st σ.d σ.m σ.s
  q : RD σ.st e σ.fv σ.r
  sim : Sim σ.s σ.r
  used : usedR σ.r.F ≤ U
/-- a call of the row -/
structure Ac where
  what : Int
  name : ByteArray
  to : ByteArray
  bv : AV
  bs : List Int
  n : Int
  pv : AV
  ps : List Int
structure AcOk (A : Ac) : Prop where
  name : A.name.size ≤ 1000000000000
  to : A.to.size ≤ 1000000000000
  b : BV A.bv A.bs
  bl : A.bs.length ≤ 1048576
  n : A.n ≤ 9223372036854775807
  p : BP A.pv A.ps
  ps : PicksOk A.ps
def Ac.row (A : Ac) : AObj := .row [i64 A.what, str A.name, str A.to, A.bv, i64 A.n, A.pv] 69
theorem Ac.calm {A : Ac} (h : AcOk A) (n : Nat) : Calm n A.row := fun id vs _ => by
  show AObj.row (frzL id vs [i64 A.what, str A.name, str A.to, A.bv, i64 A.n, A.pv]) 69 = _
  have h1 : frz id vs A.bv = A.bv := by
    rcases h.b with ⟨_, h⟩ | ⟨fl, h⟩
    · rw [h]; rfl
    · rw [h]; simp only [frz, frz_u8]
  simp only [frzL, h1, frz_bp h.p]
  rfl
variable {e U a : Nat} {σ : PlS} {A : Ac}
theorem PlI.map_ne (H : PlI e U σ) {i : Nat} {vs : List AV} {ty : Nat} (h : σ.st.get i = some (.row vs ty)) : i ≠ σ.m := by
  obtain ⟨bs, c, hm⟩ := H.p.map
  exact map_ne_row hm h
theorem PlI.fid_row (H : PlI e U σ) : ∀ i ∈ fid σ.fv, ∃ vs, σ.st.get i = some (.row vs 121) := fun i hi => by
  rcases H.q.fv with ⟨_, h⟩ | ⟨_, f, fl, h, hg⟩
  · rw [h] at hi; cases hi
  · rw [h] at hi
    simp only [fid, List.mem_singleton] at hi
    subst hi
    exact ⟨_, hg⟩
theorem PlI.sep (H : PlI e U σ) : e ∉ [σ.d, σ.m] ∧ ∀ i ∈ fid σ.fv, i ∉ [σ.d, σ.m] := by
  refine ⟨?_, fun i hi => ?_⟩
  · simp only [List.mem_cons, List.not_mem_nil, or_false, not_or]
    exact ⟨row_ne H.q.row H.p.row (by decide), H.map_ne H.q.row⟩
  · obtain ⟨vs, hg⟩ := H.fid_row i hi
    simp only [List.mem_cons, List.not_mem_nil, or_false, not_or]
    exact ⟨row_ne hg H.p.row (by decide), H.map_ne hg⟩
theorem PlI.sepR (H : PlI e U σ) : σ.d ∉ e :: fid σ.fv ∧ σ.m ∉ e :: fid σ.fv := by
  obtain ⟨h1, h2⟩ := H.sep
  simp only [List.mem_cons, List.not_mem_nil, or_false, not_or] at h1 h2 ⊢
  exact ⟨⟨fun h => h1.1 h.symm, fun h => (h2 _ h).1 rfl⟩, fun h => h1.2 h.symm, fun h => (h2 _ h).2 rfl⟩
theorem PlI.sepA (H : PlI e U σ) {vs : List AV} {ty : Nat} (hA : σ.st.get a = some (.row vs ty)) (h1 : ty ≠ 103) (h2 : ty ≠ 115) (h3 : ty ≠ 121) : a ∉ [σ.d, σ.m] ∧ a ∉ e :: fid σ.fv := by
  refine ⟨?_, ?_⟩
  · simp only [List.mem_cons, List.not_mem_nil, or_false, not_or]
    exact ⟨row_ne hA H.p.row h1, H.map_ne hA⟩
  · simp only [List.mem_cons, not_or]
    refine ⟨row_ne hA H.q.row h2, fun h => ?_⟩
    obtain ⟨vs', hg⟩ := H.fid_row a h
    exact row_ne hA hg h3 rfl
theorem del_PD {st : St} {d m a : Nat} {s : PS} (h : PDs st d m s) (h1 : a ∉ [d, m]) : PDs (st.del a) d m s := by
  simp only [List.mem_cons, List.not_mem_nil, or_false, not_or] at h1
  obtain ⟨bs, c, hm⟩ := h.map
  exact ⟨by rw [St.get_del, if_neg (fun e => h1.1 e.symm)]; exact h.row, bs, c, by rw [St.get_del, if_neg (fun e => h1.2 e.symm)]; exact hm⟩
/-- both disks are asked, the tape picks the order of the loads -/
theorem act2 {f g : Nat} {argsP argsR : List AV} {er : Int} {s' : PS} {r' : RS} {I : List Nat} {U' : Nat} (H : PlI e U σ) (hA : σ.st.get a = some A.row) (hAo : AcOk A) (hI : ∀ x ∈ I, x = a)
    (hP : PDs (σ.st.del a) σ.d σ.m σ.s → (σ.st.del a).wf → (σ.st.del a).lock = [] → ∃ z', obC f argsP (σ.st.del a) (i64 er) z' ∧ PDs z' σ.d σ.m s' ∧ RestF (σ.st.del a) z' [σ.d, σ.m])
    (hR : ∀ z, RD z e σ.fv σ.r → z.wf → z.lock = [] → ∃ z' fv', obC g argsR z (i64 er) z' ∧ RD z' e fv' r' ∧ RestF z z' (e :: fid σ.fv))
    (hS : Sim s' r') (hu : usedR r'.F ≤ U') :
    ∃ s1 σ', σ'.d = σ.d ∧ PlI e U' σ' ∧ σ'.st.get a = some A.row ∧ obC f argsP (σ.st.hide I) (i64 er) s1 ∧ obC g argsR (s1.show σ.st I) (i64 er) σ'.st ∧ RestF σ.st σ'.st ([σ.d, σ.m] ++ (e :: fid σ.fv)) := by
  obtain ⟨n1, n2⟩ := H.sepA hA (by decide) (by decide) (by decide)
  obtain ⟨z1, a1, a2, a3⟩ := hP (del_PD H.p n1) (del_wf H.wf a) H.lock
  obtain ⟨s1, b1, b2, b3, b4⟩ := hid_ok H.wf H.lock H.gl hI hA (Ac.calm hAo _) a1 a3 n1
  obtain ⟨h1, h2⟩ := H.sep
  obtain ⟨h3, h4⟩ := H.sepR
  have hq := H.q.restF H.wf H.sim.rgood b2 h1 h2
  have n1' := n1
  simp only [List.mem_cons, List.not_mem_nil, or_false, not_or] at n1'
  have hp : PDs (s1.show σ.st I) σ.d σ.m s' := by
    obtain ⟨bs, c, hm⟩ := a2.map
    obtain ⟨bs0, c0, hm0⟩ := H.p.map
    exact ⟨by rw [b3 _ (fun h => n1'.1 h.symm) (.inl ⟨_, H.p.row⟩)]; exact a2.row, bs, c, by rw [b3 _ (fun h => n1'.2 h.symm) (.inl ⟨_, hm0⟩)]; exact hm⟩
  obtain ⟨z2, fv', c1, c2, c3⟩ := hR _ hq b2.wf (b2.lock.trans H.lock)
  have hp2 := PD.restF hp (fun f hf => (hS.good f hf).1) c3 h3 h4
  refine ⟨s1, ⟨z2, σ.d, σ.m, fv', s', r'⟩, rfl, ⟨c3.wf, (c3.lock.trans b2.lock).trans H.lock, (c3.gl.trans b2.gl).trans H.gl, hp2, c2, hS, hu⟩, ?_, b1, c1, (b2.weak (fun i hi => List.mem_append_left _ hi)).trans (c3.weak (fun i hi => List.mem_append_right _ hi))⟩
  exact c3.keep _ _ n2 b4 (Ac.calm hAo _)
/-- what a branch of the switch comes to -/
def Br (e a : Nat) (lv : AV) (len i : Nat) (c : Code) (σ σ' : PlS) : Prop := ∃ er, ∀ T, f8L10 T (.ptr σ.d 0) (.ptr e 0) (.ptr a 0) lv (i64 len) (i64 i) →
  AW Try.prog c (fun ex T' st' => ex = .normal ∧ f8L11 T' (.ptr σ'.d 0) (.ptr e 0) (.ptr a 0) (i64 er) (i64 er) lv (i64 len) (i64 i) ∧ st' = σ'.st) T σ.st
theorem one_mem {a k : Nat} {I : List Nat} {st : St} {o : AObj} (hw : st.wf) (ho : st.get a = some o) (hI : ∀ x ∈ I, x = a) : ∀ k ∈ I, k < st.next := fun k hk => by rw [hI k hk]; exact hw _ _ ho
theorem one_all {a : Nat} {I : List Nat} {st : St} {o : AObj} (ho : st.get a = some o) (hI : ∀ x ∈ I, x = a) : I.all (fun k => (st.get k).isSome) = true := all_some fun k hk => ⟨o, by rw [hI k hk]; exact ho⟩
theorem ldName {st : St} (h : st.get a = some A.row) : loadA E0 st 9 (.ptr a 1) = some (str A.name) := load_row h (p9 rfl)
theorem ldTo {st : St} (h : st.get a = some A.row) : loadA E0 st 9 (.ptr a 2) = some (str A.to) := load_row h (p9 rfl)
theorem ldB {st : St} (h : st.get a = some A.row) : loadA E0 st 28 (.ptr a 3) = some A.bv := load_row h (p28 rfl)
theorem ldN {st : St} (h : st.get a = some A.row) : loadA E0 st 3 (.ptr a 4) = some (i64 A.n) := load_row h (p3 rfl)
theorem ty67 : ∃ i, E0.ty 67 = some i ∧ isAggD i.desc = false := ⟨_, rfl, by kernel_rfl⟩
theorem ldP {st : St} (h : st.get a = some A.row) : loadA E0 st 67 (.ptr a 5) = some A.pv := by
  obtain ⟨i, h1, h2⟩ := ty67
  exact load_row h (plainT h1 h2 rfl)
variable {lv : AV} {len i : Nat}
theorem dup {a : Nat} : ∀ x ∈ [a, a], x = a := by simp
theorem dup4 {a : Nat} : ∀ x ∈ [a, a, a, a], x = a := by simp
theorem br_create (H : PlI e U σ) (hA : σ.st.get a = some A.row) (hAo : AcOk A) : ∃ σ', PlI e U σ' ∧ σ'.st.get a = some A.row ∧ Br e a lv len i (f8P 14) σ σ' := by
  obtain ⟨q1, q2⟩ := sim_create H.sim A.name
  have hb := H.sim.len
  obtain ⟨s1, σ', d1, d2, d3, d4, d5, _⟩ := act2 (f := 21) (g := 37) (argsP := [.ptr σ.d 0, str A.name]) (argsR := [.ptr e 0, str A.name]) (I := [a, a]) (U' := U) H hA hAo dup
    (fun p w l => by
      obtain ⟨z, x1, x2, x3⟩ := create_ok p w l H.sim.fub A.name
      exact ⟨z, x1, x2, x3.f⟩)
    (fun z p w l => by
      obtain ⟨z', fv', x1, x2, x3⟩ := rcreate_ok p w l (by omega) (by rw [← H.sim.fu]; exact H.sim.fub) hAo.name
      rw [← q1] at x1
      exact ⟨z', fv', x1, x2, x3.f⟩) q2 (Nat.le_trans (used_rCreate H.sim _) H.used)
  exact ⟨σ', d2, d3, _, fun T hT => by rw [d1]; exact f8_14 (one_mem (k := a) H.wf hA dup) (ldName hA) (ldName hA) (one_all hA dup) d4 d5 hT⟩
theorem br_remove (H : PlI e U σ) (hA : σ.st.get a = some A.row) (hAo : AcOk A) : ∃ σ', PlI e U σ' ∧ σ'.st.get a = some A.row ∧ Br e a lv len i (f8P 25) σ σ' := by
  obtain ⟨q1, q2⟩ := sim_remove H.sim A.name
  have hb := H.sim.len
  obtain ⟨s1, σ', d1, d2, d3, d4, d5, _⟩ := act2 (f := 34) (g := 41) (argsP := [.ptr σ.d 0, str A.name]) (argsR := [.ptr e 0, str A.name]) (I := [a, a]) (U' := U) H hA hAo dup
    (fun p w l => by
      obtain ⟨z, x1, x2, x3⟩ := remove_ok p w l H.sim.g A.name
      exact ⟨z, x1, x2, x3.f⟩)
    (fun z p w l => by
      obtain ⟨z', fv', x1, x2, x3⟩ := rremove_ok p w l (by omega) (by rw [← H.sim.fu]; exact H.sim.fub) hAo.name
      rw [← q1] at x1
      exact ⟨z', fv', x1, x2, x3.f⟩) q2 (Nat.le_trans (used_rRemove H.sim _) H.used)
  exact ⟨σ', d2, d3, _, fun T hT => by rw [d1]; exact f8_25 (one_mem (k := a) H.wf hA dup) (ldName hA) (ldName hA) (one_all hA dup) d4 d5 hT⟩
theorem br_rename (H : PlI e U σ) (hA : σ.st.get a = some A.row) (hAo : AcOk A) : ∃ σ', PlI e U σ' ∧ σ'.st.get a = some A.row ∧ Br e a lv len i (f8P 23) σ σ' := by
  obtain ⟨q1, q2⟩ := sim_rename H.sim A.name A.to
  have hb := H.sim.len
  obtain ⟨s1, σ', d1, d2, d3, d4, d5, _⟩ := act2 (f := 27) (g := 40) (argsP := [.ptr σ.d 0, str A.name, str A.to]) (argsR := [.ptr e 0, str A.name, str A.to]) (I := [a, a, a, a]) (U' := U) H hA hAo dup4
    (fun p w l => by
      obtain ⟨z, x1, x2, x3⟩ := rename_ok p w l H.sim.g A.name A.to
      exact ⟨z, x1, x2, x3.f⟩)
    (fun z p w l => by
      obtain ⟨z', fv', x1, x2, x3⟩ := rrename_ok p w l (by omega) (by rw [← H.sim.fu]; exact H.sim.fub) hAo.name hAo.to
      rw [← q1] at x1
      exact ⟨z', fv', x1, x2, x3.f⟩) q2 (Nat.le_trans (used_rRename H.sim _ _) H.used)
  exact ⟨σ', d2, d3, _, fun T hT => by rw [d1]; exact f8_23 (one_mem (k := a) H.wf hA dup4) (ldName hA) (ldTo hA) (ldName hA) (ldTo hA) (one_all hA dup4) d4 d5 hT⟩
theorem br_sync (H : PlI e U σ) (hU : U < 1000000000) (hA : σ.st.get a = some A.row) (hAo : AcOk A) : ∃ σ', PlI e U σ' ∧ σ'.st.get a = some A.row ∧ Br e a lv len i (f8P 21) σ σ' := by
  have hb := H.sim.len
  have hbig : (1000000000 : Nat) ≤ big := by decide
  have hu := H.used
  -- the reference's Sync tells the new disk: asked once, at the store behind
  obtain ⟨n1, n2⟩ := H.sepA hA (by decide) (by decide) (by decide)
  obtain ⟨z1, a1, a2, a3⟩ := sync_ok (del_PD H.p n1) (del_wf H.wf a) H.lock H.sim.g A.name
  obtain ⟨s1, b1, b2, b3, b4⟩ := hid_ok H.wf H.lock H.gl (I := [a, a]) dup hA (Ac.calm hAo _) a1 a3.f n1
  obtain ⟨h1, h2⟩ := H.sep
  have hq := H.q.restF H.wf H.sim.rgood b2 h1 h2
  obtain ⟨z2, r', c1, c2, c3, c4⟩ := rsync_ok hq b2.wf (b2.lock.trans H.lock) H.sim.rgood (by omega) (by omega) (by rw [← H.sim.fu]; exact H.sim.fub) hAo.name
  obtain ⟨q1, q2⟩ := sim_sync H.sim A.name c4
  have n1' := n1
  simp only [List.mem_cons, List.not_mem_nil, or_false, not_or] at n1'
  obtain ⟨h3, h4⟩ := H.sepR
  have hp : PDs (s1.show σ.st [a, a]) σ.d σ.m (pSync σ.s A.name).2 := by
    obtain ⟨bs, c, hm⟩ := a2.map
    obtain ⟨bs0, c0, hm0⟩ := H.p.map
    exact ⟨by rw [b3 _ (fun h => n1'.1 h.symm) (.inl ⟨_, H.p.row⟩)]; exact a2.row, bs, c, by rw [b3 _ (fun h => n1'.2 h.symm) (.inl ⟨_, hm0⟩)]; exact hm⟩
  have hp2 := PD.restF hp (fun f hf => (q2.good f hf).1) c3 h3 h4
  rw [← q1] at c1
  exact ⟨⟨z2, σ.d, σ.m, σ.fv, _, r'⟩, ⟨c3.wf, (c3.lock.trans b2.lock).trans H.lock, (c3.gl.trans b2.gl).trans H.gl, hp2, c2, q2, Nat.le_trans (used_rSync c4) H.used⟩, c3.keep _ _ n2 b4 (Ac.calm hAo _), _,
    fun T hT => f8_21 (one_mem (k := a) H.wf hA dup) (ldName hA) (ldName hA) (one_all hA dup) b1 c1 hT⟩
end
section
set_option maxRecDepth 4000
variable {e U a : Nat} {σ : PlS} {A : Ac} {lv : AV} {len i : Nat}
theorem bs28 (st : St) : buildSliceA E0 st 28 0 [] = some (.sl st.next 1 0 0 true, st.push (.row [] 5)) := by kernel_rfl
theorem idx28 {f len i : Nat} {fl : Bool} (h : i < len) : indexAddrA E0 28 (.sl f 1 0 len fl) (i64 i) = some (.ptr f i) := by
  have h3 : tySize E0 5 = some 1 := by kernel_rfl
  simp only [indexAddrA, ty28, h3]
  rw [if_pos ⟨trivial, by omega, by omega⟩, Nat.zero_add, Nat.mul_one]
  rfl
theorem xorA (x : Int) : ∃ m, binA E0 .xor 5 (u8 x) (u8 255) = some (u8 m) := ⟨_, rfl⟩
/-- bytes that are spoilt, one after another -/
theorem xor_turn {st : St} {o len k : Nat} {fl : Bool} {l : List Int} (hw : st.wf) (hl : st.lock = []) (hg : st.get o = some (.row (l.map u8) 5)) (hlen : l.length = len) (hk : k < len) :
    ∃ (n m : Int) (st' : St) (l' : List Int), indexAddrA E0 28 (.sl o 1 0 len fl) (i64 k) = some (.ptr o k) ∧ loadA E0 st 5 (.ptr o k) = some (u8 n) ∧ binA E0 .xor 5 (u8 n) (u8 255) = some (u8 m) ∧ storeA E0 st 5 (.ptr o k) (u8 m) = some st' ∧ st'.get o = some (.row (l'.map u8) 5) ∧ l'.length = len ∧ Rest st st' [o] := by
  have hx : l[k]? = some (l[k]'(by omega)) := List.getElem?_eq_getElem (by omega)
  generalize l[k]'(by omega) = n at hx
  obtain ⟨m, hm⟩ := xorA n
  have hld : loadA E0 st 5 (.ptr o k) = some (u8 n) := by
    have : partA E0 5 (l.map u8) k = some (u8 n) := plainT ty5 rfl (by rw [List.getElem?_map, hx]; rfl)
    exact load_row hg this
  have hwg := St.wget_of hg (show o ∉ st.lock by rw [hl]; simp)
  have hsz : tySize E0 5 = some 1 := by kernel_rfl
  refine ⟨n, m, st.set o (.row ((l.set k m).map u8) 5), l.set k m, idx28 hk, hld, hm, ?_, by rw [St.get_set, if_pos rfl], by rw [List.length_set]; exact hlen, Rest.set hw (hw _ _ hg) _ (by simp)⟩
  have hcs : avCells (u8 m) = some [u8 m] := rfl
  simp only [storeA, hcs, hwg, hsz]
  rw [if_pos ⟨rfl, by simp; omega⟩]
  congr 2
  simp only [List.length_cons, List.length_nil, Nat.zero_add, List.map_set]
  rw [List.set_eq_take_append_cons_drop, if_pos (by simp; omega)]
  simp
/-- own bytes: a row of its own, or none -/
def OwnR (st : St) (v : AV) (n : Nat) : Prop := (n = 0 ∧ v = .nils) ∨ ∃ (o : Nat) (fl : Bool) (l : List Int), v = .sl o 1 0 n fl ∧ st.get o = some (.row (l.map u8) 5) ∧ l.length = n
theorem OwnB.own {st : St} {v : AV} {bs : List Int} (h : OwnB st v bs) : OwnR st v bs.length := by
  rcases h with ⟨rfl, rfl⟩ | ⟨rfl, i, rfl, hg⟩ | ⟨_, i, rfl, hg⟩
  · exact .inl ⟨rfl, rfl⟩
  · exact .inr ⟨i, true, [], rfl, hg, rfl⟩
  · exact .inr ⟨i, false, bs, rfl, hg, rfl⟩
theorem ownR_len {st : St} {v : AV} {n : Nat} (h : OwnR st v n) : lenA E0 28 v = some (i64 n) := by
  rcases h with ⟨rfl, rfl⟩ | ⟨o, fl, l, rfl, _⟩ <;> kernel_rfl
theorem PlI.push (H : PlI e U σ) {st' : St} (hR : RestF σ.st st' []) : PlI e U { σ with st := st' } :=
  ⟨hR.wf, hR.lock.trans H.lock, hR.gl.trans H.gl, PD.restF H.p (fun f hf => (H.sim.good f hf).1) hR (by simp) (by simp), H.q.restF H.wf H.sim.rgood hR (by simp) (by simp), H.sim, H.used⟩
/-- both loops that spoil bytes: what they need of a turn -/
theorem spoil {body : Code} {id : Nat} {In : AV → Nat → Nat → Tm → Prop} {L : Tm → Prop} {st : St} {v : AV} {n : Nat} (hw : st.wf) (hl : st.lock = []) (hn : n ≤ 1000000000000) (h : OwnR st v n)
    (turn : ∀ {k : Nat} {x m : Int} {y : Unit} {q1 : AV} {s s1 : St}, binA E0 .lss 3 (i64 (k : Nat)) (i64 n) = some TT → indexAddrA E0 28 v (i64 k) = some q1 → loadA E0 s 5 q1 = some (u8 x) → binA E0 .xor 5 (u8 x) (u8 255) = some (u8 m) → storeA E0 s 5 q1 (u8 m) = some s1 → binA E0 .add 3 (i64 k) (i64 1) = some (i64 ((k + 1 : Nat) : Int)) → y = () →
      ∀ T, In v n k T → AW Try.prog body (fun ex T' st' => ex = .normal ∧ In v n (k + 1) T' ∧ st' = s1) T s)
    (fin : ∀ {s : St}, binA E0 .lss 3 (i64 n) (i64 n) = some FF → ∀ T, In v n n T → AW Try.prog body (fun ex T' st' => ex = .exit id ∧ L T' ∧ st' = s) T s) :
    ∃ st', Rest st st' (fid v) ∧ ∀ T, In v n 0 T → AW Try.prog (.block id (.loop body)) (fun ex T' s => ex = .normal ∧ L T' ∧ s = st') T st := by
  rcases h with ⟨rfl, rfl⟩ | ⟨o, fl, l, rfl, hg, hlen⟩
  · exact ⟨st, Rest.refl hw _, fun T hT => AW.turns (In := fun k T => In .nils 0 k T) (c := fun _ => st) (n := 0) rfl hT (fun k hk => by omega) (fun T hT => fin (lssF (by omega)) T hT)⟩
  · have ch := chain_seq (σ := St) (fun _ s => Rest st s [o] ∧ ∃ l : List Int, s.get o = some (.row (l.map u8) 5) ∧ l.length = n)
      (fun k s s1 => ∀ T, In (.sl o 1 0 n fl) n k T → AW Try.prog body (fun ex T' st' => ex = .normal ∧ In (.sl o 1 0 n fl) n (k + 1) T' ∧ st' = s1) T s) n st ⟨Rest.refl hw _, l, hg, hlen⟩
      (fun k s hk ⟨hR, l, hg, hlen⟩ => by
        obtain ⟨x, m, s1, l', h1, h2, h3, h4, h5, h6, h7⟩ := xor_turn (fl := fl) hR.wf (hR.lock.trans hl) hg hlen hk
        exact ⟨s1, ⟨hR.trans h7, l', h5, h6⟩, fun T hT => turn (y := ()) (lssT (by omega)) h1 h2 h3 h4 (add64 (by omega)) rfl T hT⟩)
    obtain ⟨c, c0, inv, step⟩ := ch
    exact ⟨c n, (inv n (Nat.le_refl _)).1, fun T hT => AW.turns (In := fun k T => In (.sl o 1 0 n fl) n k T) (c := c) (n := n) c0.symm hT (fun k hk T hT => step k hk T hT) (fun T hT => fin (lssF (by omega)) T hT)⟩
/-- both disks read, and what is read is one's own -/
theorem both_read2 {st : St} {d m e : Nat} {fv : AV} {s : PS} {r : RS} (hS : Sim s r) (hp : PDs st d m s) (hr : RD st e fv r) (hw : st.wf) (hl : st.lock = []) (hu : usedR r.F < 1000000000) (n : ByteArray) (hn : n.size ≤ 1000000000000) :
    ∃ (v w : AV) (s1 s2 : St) (bs : List Int), obC 25 [.ptr d 0, str n] st (.tup [v, i64 (thE r n)]) s1 ∧ obC 42 [.ptr e 0, str n] s1 (.tup [w, i64 (thE r n)]) s2 ∧ Rest st s1 [] ∧ Rest s1 s2 [] ∧
      sliceCells s2 v = some (bs.length, bs.map u8) ∧ sliceCells s2 w = some (bs.length, bs.map u8) ∧ OwnR s2 v bs.length ∧ bs.length ≤ 1000000000000 := by
  have hb : (1000000000 : Nat) ≤ big := by decide
  obtain ⟨v, s1, a1, a2, a3⟩ := read_ok hp hw hl hS.g (by rw [hS.used]; omega) n
  rw [hS.err n] at a1 a3
  obtain ⟨w, s2, b1, b2, b3, _⟩ := rread_ok (hr.rest a2 (by simp) (by simp)) a2.wf (a2.lock.trans hl) hS.rgood (by omega) (by have := hS.len; omega) hn
  have hcase : ∃ bs : List Int, OwnB s1 v bs ∧ sliceCells s2 w = some (bs.length, bs.map u8) ∧ bs.length ≤ 1000000000000 := by
    rcases a3 with ⟨h1, rfl⟩ | ⟨h0, k, f, h1, h2, h3, _⟩
    · rcases b3 with ⟨_, rfl⟩ | ⟨h4, _⟩
      · exact ⟨[], .inl ⟨rfl, rfl⟩, rfl, by simp⟩
      · exact absurd h4 h1
    · obtain ⟨f', g, c1, c2, c3, c4, c5, c6, c7⟩ := hS.there h1
      rw [h2] at c1
      obtain rfl : f = f' := by simpa using c1
      rcases b3 with ⟨h4, rfl⟩ | ⟨h4, g', d1, d2⟩
      · exact absurd h0 h4
      · rw [c3] at d1
        obtain rfl : g = g' := by simpa using d1
        refine ⟨f.bytes, h3, by rw [sim_bytes c6]; exact d2.cells, ?_⟩
        have h5 : f.bytes.length ≤ usedL s.L := le_sum (List.mem_map.2 ⟨f, List.mem_of_getElem? h2, rfl⟩)
        rw [hS.used] at h5; omega
  obtain ⟨bs, c1, c2, c3⟩ := hcase
  have c4 : OwnB s2 v bs := c1.of_get fun i _ o ho => b2.keep _ _ (by simp) ho
  exact ⟨v, w, s1, s2, bs, a1, b1, a2, b2, c4.cells, c2, c4.own, c3⟩
end
section
set_option maxRecDepth 4000
variable {e U a : Nat} {σ : PlS} {A : Ac} {lv : AV} {len i : Nat}
theorem calm_u8 (bs : List Int) (n ty : Nat) : Calm n (.row (bs.map u8) ty) := fun id vs _ => by
  show AObj.row (frzL id vs (bs.map u8)) ty = _
  rw [frz_u8]
theorem OwnB.cells' {st : St} {v : AV} {bs : List Int} (h : OwnB st v bs) : ArgB st v bs := by
  rcases h with ⟨h1, h2⟩ | ⟨rfl, i, h2, hg⟩ | ⟨_, i, h2, hg⟩
  · exact .inl ⟨h1, h2⟩
  · exact .inr (.inr ⟨i, true, h2, hg⟩)
  · exact .inr (.inr ⟨i, false, h2, hg⟩)
/-- rows of the disks' own types -/
theorem PlI.far (H : PlI e U σ) {j : Nat} (h : ∀ o, σ.st.get j = some o → ∃ vs, o = .row vs 5) (hj : ∃ o, σ.st.get j = some o) : j ∉ [σ.d, σ.m] ∧ j ∉ e :: fid σ.fv := by
  obtain ⟨o, ho⟩ := hj
  obtain ⟨vs, rfl⟩ := h o ho
  exact H.sepA ho (by decide) (by decide) (by decide)
theorem br_append (H : PlI e U σ) (hU : U < 900000000) (hA : σ.st.get a = some A.row) (hAo : AcOk A) : ∃ σ', PlI e (U + 1048576) σ' ∧ σ'.st.get a = some A.row ∧ Br e a lv len i (.seq (f8P 16) (.seq (f8P 17) (.seq (f8P 18) (.block 3 (.loop (f8P 19)))))) σ σ' := by
  have hb := H.sim.len
  have hbig : (1000000000 : Nat) ≤ big := by decide
  have hu := H.used
  have hbl := hAo.bl
  -- one's own copy
  have R1 := Rest.push H.wf (.row [] 5) []
  have hA1 : (σ.st.push (.row [] 5)).get a = some A.row := R1.keep _ _ (by simp) hA
  have hown : OwnB (σ.st.push (.row [] 5)) (.sl σ.st.next 1 0 0 true) [] := .inr (.inl ⟨rfl, σ.st.next, rfl, by rw [St.get_push, if_pos rfl]⟩)
  obtain ⟨v, t2, a1, a2, a3, _⟩ := app_own2 (x := A.bv) (c := A.bs) hown R1.wf (by rw [show (σ.st.push (.row [] 5)).lock = [] from H.lock]; simp) (hAo.b.cells _) (by simp only [List.length_nil, Nat.zero_add]; omega)
  rw [List.nil_append] at a2
  have R2 : Rest σ.st t2 [] := R1.old a3 (by simp [fid]) H.wf
  have H2 := H.push R2.f
  have hA2 : t2.get a = some A.row := R2.keep _ _ (by simp) hA
  -- both disks
  obtain ⟨n1, n2⟩ := H2.sepA (a := a) hA2 (by decide) (by decide) (by decide)
  have hargd : ArgB (t2.del a) v A.bs := by
    refine a2.cells'.keep fun j hj => ?_
    rw [St.get_del, if_neg (fun h => by rw [h, hA2] at hj; simp only [Ac.row, Option.some.injEq, AObj.row.injEq] at hj; exact absurd hj.2 (by decide))]; exact hj
  obtain ⟨z1, s', b1, b2, b3, b4⟩ := append_ok (del_PD H2.p n1) (del_wf H2.wf a) H2.lock H2.sim.g (by rw [H2.sim.used]; exact Nat.lt_of_le_of_lt H2.used (by omega)) H2.sim.qb A.name hargd (by omega)
  obtain ⟨s1, c1, c2, c3, c4⟩ := hid_ok H2.wf H2.lock H2.gl (I := [a, a, a]) (by simp) hA2 (Ac.calm hAo _) b1 b3 n1
  obtain ⟨h1, h2⟩ := H2.sep
  have hq := H2.q.restF H2.wf H2.sim.rgood c2 h1 h2
  obtain ⟨z2, r', d1, d2, d3, d4⟩ := rappend_ok hq c2.wf (c2.lock.trans H2.lock) H2.sim.rgood (Nat.lt_of_le_of_lt H2.used (by omega)) (by have := H2.sim.len; omega) (by rw [← H2.sim.fu]; exact H2.sim.fub) hAo.name hAo.b (by omega)
  obtain ⟨q1, q2, q3⟩ := sim_append H2.sim A.name A.bs b4 d4
  have n1' := n1
  simp only [List.mem_cons, List.not_mem_nil, or_false, not_or] at n1'
  obtain ⟨h3, h4⟩ := H2.sepR
  have hp : PDs (s1.show t2 [a, a, a]) σ.d σ.m s' := by
    obtain ⟨bs, c, hm⟩ := b2.map
    obtain ⟨bs0, c0, hm0⟩ := H2.p.map
    exact ⟨by rw [c3 _ (fun h => n1'.1 h.symm) (.inl ⟨_, H2.p.row⟩)]; exact b2.row, bs, c, by rw [c3 _ (fun h => n1'.2 h.symm) (.inl ⟨_, hm0⟩)]; exact hm⟩
  have hp2 := PD.restF hp (fun f hf => (q2.good f hf).1) d3 h3 h4
  rw [← q1] at d1
  have hA4 : z2.get a = some A.row := d3.keep _ _ n2 c4 (Ac.calm hAo _)
  have H4 : PlI e (U + 1048576) ⟨z2, σ.d, σ.m, σ.fv, s', r'⟩ := ⟨d3.wf, (d3.lock.trans c2.lock).trans H2.lock, (d3.gl.trans c2.gl).trans H2.gl, hp2, d2, q2, Nat.le_trans q3 (by show usedR σ.r.F + _ ≤ _; omega)⟩
  have hown4 : OwnR z2 v A.bs.length := by
    have hfar : ∀ (j : Nat) (bs : List Int), t2.get j = some (.row (bs.map u8) 5) → z2.get j = some (.row (bs.map u8) 5) := fun j bs hj => by
      obtain ⟨f1, f2⟩ := H2.sepA (a := j) hj (by decide) (by decide) (by decide)
      exact d3.keep _ _ f2 (c2.keep _ _ f1 hj (calm_u8 _ _ _)) (calm_u8 _ _ _)
    rcases a2 with ⟨h, rfl⟩ | ⟨h, j, rfl, hg⟩ | ⟨_, j, rfl, hg⟩
    · exact .inl ⟨by rw [h]; rfl, rfl⟩
    · exact .inr ⟨j, true, [], by rw [h]; rfl, hfar j [] hg, by rw [h]⟩
    · exact .inr ⟨j, false, A.bs, rfl, hfar j _ hg, rfl⟩
  -- one's own bytes are spoilt
  obtain ⟨z3, R5, run⟩ := spoil (body := f8P 19) (id := 3) (In := fun v n k T => f8L17 T (.ptr σ.d 0) (.ptr e 0) (.ptr a 0) (i64 (appE σ.s A.name A.bs)) (i64 (appE σ.s A.name A.bs)) v lv (i64 len) (i64 i) (i64 n) (i64 k)) (L := fun T => f8L11 T (.ptr σ.d 0) (.ptr e 0) (.ptr a 0) (i64 (appE σ.s A.name A.bs)) (i64 (appE σ.s A.name A.bs)) lv (i64 len) (i64 i))
    H4.wf H4.lock (by omega) hown4 (fun g1 g2 g3 g4 g5 g6 _ T hT => f8_19_T g1 g2 g3 g4 g2 g5 g6 hT) (fun g1 T hT => f8_19_F g1 hT)
  have hfid : ∀ j ∈ fid v, j ∉ [σ.d, σ.m] ∧ j ∉ e :: fid σ.fv ∧ j ≠ a := fun j hj => by
    rcases hown4 with ⟨_, rfl⟩ | ⟨o, fl, l, rfl, hg, _⟩
    · cases hj
    · simp only [fid, List.mem_singleton] at hj
      subst hj
      obtain ⟨f1, f2⟩ := H4.sepA (a := j) hg (by decide) (by decide) (by decide)
      exact ⟨f1, f2, row_ne hg hA4 (by decide)⟩
  have H5 : PlI e (U + 1048576) ⟨z3, σ.d, σ.m, σ.fv, s', r'⟩ := by
    have k1 : ∀ i, i ∈ [σ.d, σ.m] → i ∉ fid v := fun i hi hj => (hfid i hj).1 hi
    have k2 : ∀ i, i ∈ e :: fid σ.fv → i ∉ fid v := fun i hi hj => (hfid i hj).2.1 hi
    exact ⟨R5.wf, R5.lock.trans H4.lock, R5.gl.trans H4.gl, PD.restF H4.p (fun f hf => (q2.good f hf).1) R5.f (k1 _ (by simp)) (k1 _ (by simp)), H4.q.restF H4.wf H4.sim.rgood R5.f (k2 _ (by simp)) (fun i hi => k2 _ (by simp [hi])), q2, H4.used⟩
  refine ⟨⟨z3, σ.d, σ.m, σ.fv, s', r'⟩, H5, R5.keep _ _ (fun h => (hfid a h).2.2 rfl) hA4, appE σ.s A.name A.bs, fun T hT => ?_⟩
  refine .andThen (f8_16 (bs28 _) (ldB hA1) a1 hT) fun T1 g1 => ?_
  refine .andThen (f8_17 (one_mem (k := a) H2.wf hA2 (by simp)) (ldName hA2) (ldName hA2) (ldB hA2) (one_all hA2 (by simp)) c1 d1 g1) fun T2 g2 => ?_
  refine .andThen (f8_18 (ownR_len hown4) g2) fun T3 g3 => ?_
  exact run T3 g3
/-- the state with another store -/
theorem PlI.spoilt (H : PlI e U σ) {z : St} {S : List Nat} (hR : RestF σ.st z S) (h1 : ∀ i ∈ [σ.d, σ.m], i ∉ S) (h2 : ∀ i ∈ e :: fid σ.fv, i ∉ S) : PlI e U { σ with st := z } :=
  ⟨hR.wf, hR.lock.trans H.lock, hR.gl.trans H.gl, PD.restF H.p (fun f hf => (H.sim.good f hf).1) hR (h1 _ (by simp)) (h1 _ (by simp)), H.q.restF H.wf H.sim.rgood hR (h2 _ (by simp)) (fun i hi => h2 _ (by simp [hi])), H.sim, H.used⟩
theorem br_read (H : PlI e U σ) (hU : U < 1000000000) (hA : σ.st.get a = some A.row) (hAo : AcOk A) : ∃ σ', PlI e U σ' ∧ σ'.st.get a = some A.row ∧ Br e a lv len i (.seq (f8P 27) (.seq (f8P 28) (.seq (f8P 29) (.seq (f8P 30) (.seq (f8P 31) (.block 5 (.loop (f8P 32)))))))) σ σ' := by
  obtain ⟨v, w, s1, s2, bs, b1, b2, R1, R2, c1, c2, hv⟩ := both_read2 H.sim H.p H.q H.wf H.lock (Nat.lt_of_le_of_lt H.used hU) A.name hAo.name
  have R12 := R1.trans R2
  have H2 := H.push R12.f
  have hA2 : s2.get a = some A.row := R12.keep _ _ (by simp) hA
  have hlen := H.sim
  obtain ⟨z3, R5, run⟩ := spoil (body := f8P 32) (id := 5) (In := fun v n k T => f8L25 T (.ptr σ.d 0) (.ptr e 0) (.ptr a 0) (i64 (thE σ.r A.name)) (i64 (thE σ.r A.name)) v lv (i64 len) (i64 i) (i64 n) (i64 k)) (L := fun T => f8L11 T (.ptr σ.d 0) (.ptr e 0) (.ptr a 0) (i64 (thE σ.r A.name)) (i64 (thE σ.r A.name)) lv (i64 len) (i64 i))
    H2.wf H2.lock hv.2 hv.1 (fun g1 g2 g3 g4 g5 g6 _ T hT => f8_32_T g1 g2 g3 g4 g2 g5 g6 hT) (fun g1 T hT => f8_32_F g1 hT)
  have hfid : ∀ j ∈ fid v, j ∉ [σ.d, σ.m] ∧ j ∉ e :: fid σ.fv ∧ j ≠ a := fun j hj => by
    rcases hv.1 with ⟨_, rfl⟩ | ⟨o, fl, l, rfl, hg, _⟩
    · cases hj
    · simp only [fid, List.mem_singleton] at hj
      subst hj
      obtain ⟨f1, f2⟩ := H2.sepA (a := j) hg (by decide) (by decide) (by decide)
      exact ⟨f1, f2, row_ne hg hA2 (by decide)⟩
  refine ⟨{ σ with st := z3 }, H2.spoilt R5.f (fun i hi hj => (hfid i hj).1 hi) (fun i hi hj => (hfid i hj).2.1 hi), R5.keep _ _ (fun h => (hfid a h).2.2 rfl) hA2, thE σ.r A.name, fun T hT => ?_⟩
  refine .andThen (f8_27 hT) fun T1 g1 => ?_
  refine .andThen (f8_28 (ldName hA) b1 g1) fun T2 g2 => ?_
  refine .andThen (f8_29 (ldName (R1.keep _ _ (by simp) hA)) b2 g2) fun T3 g3 => ?_
  refine .andThen (f8_30_T (equal_ok c1 c2) g3) fun T4 g4 => ?_
  refine .andThen (f8_31 (ownR_len hv.1) g4) fun T5 g5 => ?_
  exact run T5 g5
/-- what the last piece of the switch comes to -/
def Br2 (e a : Nat) (lv : AV) (len i : Nat) (w : Int) (σ σ' : PlS) : Prop := ∃ er, ∀ T, f8L12 T (.ptr σ.d 0) (.ptr e 0) (.ptr a 0) (i64 0) (i64 0) lv (i64 len) (i64 i) (i64 w) →
  AW Try.prog (f8P 33) (fun ex T' st' => ex = .normal ∧ f8L11 T' (.ptr σ'.d 0) (.ptr e 0) (.ptr a 0) (i64 er) (i64 er) lv (i64 len) (i64 i) ∧ st' = σ'.st) T σ.st
theorem br_loose (H : PlI e U σ) (hU : U < 1000000000) (hA : σ.st.get a = some A.row) (hAo : AcOk A) : ∃ σ', PlI e U σ' ∧ σ'.st.get a = some A.row ∧ Br2 e a lv len i 6 σ σ' := by
  have hbig : (1000000000 : Nat) ≤ big := by decide
  have hu := H.used
  obtain ⟨s1, b1, R1⟩ := loose_ok H.p H.wf H.lock H.sim.g (by rw [H.sim.used]; omega) A.name
  rw [H.sim.err, sim_loose H.sim] at b1
  have H1 := H.push R1.f
  have hA1 : s1.get a = some A.row := R1.keep _ _ (by simp) hA
  have b2 := rloose_ok H1.q H1.wf H.sim.rgood (by have := H.sim.len; show σ.r.F.length ≤ _; omega) hAo.name (n := A.name)
  exact ⟨{ σ with st := s1 }, H1, hA1, _, fun T hT => f8_33_TF (eqlT rfl) (ldName hA) b1 (ldName hA1) b2 (neqF rfl) hT⟩
theorem nn_ok {k : Int} (h : k ≤ 9223372036854775807) : 0 ≤ nn k ∧ nn k ≤ 9223372036854775807 := by unfold nn; split <;> omega
theorem br_quota (H : PlI e U σ) (hA : σ.st.get a = some A.row) (hAo : AcOk A) : ∃ σ', PlI e U σ' ∧ σ'.st.get a = some A.row ∧ Br2 e a lv len i 7 σ σ' := by
  obtain ⟨n1, n2⟩ := H.sepA hA (by decide) (by decide) (by decide)
  obtain ⟨h1, h2⟩ := H.sep
  obtain ⟨h3, h4⟩ := H.sepR
  obtain ⟨s1, b1, p1, R1⟩ := quota_ok H.p H.wf H.lock A.n
  have q1 := H.q.rest R1 h1 h2
  have hA1 : s1.get a = some A.row := R1.keep _ _ n1 hA
  obtain ⟨s2, b2, q2, R2⟩ := rquota_ok q1 R1.wf (R1.lock.trans H.lock) A.n
  have hd : σ.d ∉ [e] := fun h => h3 (by simp only [List.mem_singleton] at h; simp [h])
  have hm : σ.m ∉ [e] := fun h => h4 (by simp only [List.mem_singleton] at h; simp [h])
  refine ⟨⟨s2, σ.d, σ.m, σ.fv, { σ.s with q := nn A.n }, { σ.r with q := nn A.n }⟩, ⟨R2.wf, (R2.lock.trans R1.lock).trans H.lock, (R2.gl.trans R1.gl).trans H.gl, PD.restF p1 (fun f hf => (H.sim.good f hf).1) R2.f hd hm, q2, { H.sim with q := rfl, qb := nn_ok hAo.n }, H.used⟩, R2.keep _ _ (fun h => n2 (by simp only [List.mem_singleton] at h; simp [h])) hA1, _, fun T hT => f8_33_FT (eqlF (by decide)) (eqlT rfl) (ldN hA) b1 (ldN hA1) b2 hT⟩
theorem br_fuse (H : PlI e U σ) (hA : σ.st.get a = some A.row) (hAo : AcOk A) : ∃ σ', PlI e U σ' ∧ σ'.st.get a = some A.row ∧ Br2 e a lv len i 8 σ σ' := by
  obtain ⟨n1, n2⟩ := H.sepA hA (by decide) (by decide) (by decide)
  obtain ⟨h1, h2⟩ := H.sep
  obtain ⟨h3, h4⟩ := H.sepR
  obtain ⟨s1, b1, p1, R1⟩ := fuse_ok H.p H.wf H.lock A.n
  have q1 := H.q.rest R1 h1 h2
  have hA1 : s1.get a = some A.row := R1.keep _ _ n1 hA
  obtain ⟨s2, b2, q2, R2⟩ := rfuse_ok q1 R1.wf (R1.lock.trans H.lock) A.n
  have hd : σ.d ∉ [e] := fun h => h3 (by simp only [List.mem_singleton] at h; simp [h])
  have hm : σ.m ∉ [e] := fun h => h4 (by simp only [List.mem_singleton] at h; simp [h])
  refine ⟨⟨s2, σ.d, σ.m, σ.fv, { σ.s with fu := nn A.n }, { σ.r with fu := nn A.n }⟩, ⟨R2.wf, (R2.lock.trans R1.lock).trans H.lock, (R2.gl.trans R1.gl).trans H.gl, PD.restF p1 (fun f hf => (H.sim.good f hf).1) R2.f hd hm, q2, { H.sim with fu := rfl, fub := nn_ok hAo.n }, H.used⟩, R2.keep _ _ (fun h => n2 (by simp only [List.mem_singleton] at h; simp [h])) hA1, _, fun T hT => f8_33_FFT (eqlF (by decide)) (eqlF (by decide)) (eqlT rfl) (ldN hA) b1 (ldN hA1) b2 hT⟩
theorem br_none (H : PlI e U σ) (hA : σ.st.get a = some A.row) {w : Int} (h6 : w ≠ 6) (h7 : w ≠ 7) (h8 : w ≠ 8) (h9 : w ≠ 9) (h10 : w ≠ 10) : ∃ σ', PlI e U σ' ∧ σ'.st.get a = some A.row ∧ Br2 e a lv len i w σ σ' :=
  ⟨σ, H, hA, _, fun T hT => f8_33_FFFFF (eqlF h6) (eqlF h7) (eqlF h8) (eqlF h9) (eqlF h10) hT⟩
end
section
set_option maxRecDepth 4000
variable {e U a : Nat} {σ : PlS} {A : Ac} {lv : AV} {len i : Nat}
theorem bs67 (st : St) : buildSliceA E0 st 67 0 [] = some (.sl st.next 1 0 0 true, st.push (.row [] 50)) := by kernel_rfl
theorem el67 : ∃ q, elemA E0 67 = some (50, q) ∧ q.1.size = 1 ∧ q.1.bytes = 2 := by
  have h : (elemA E0 67).map (fun q => (q.1, q.2.1.size, q.2.1.bytes)) = some (50, 1, 2) := by kernel_rfl
  obtain ⟨q, h1, h2⟩ := Option.map_eq_some_iff.1 h
  obtain ⟨q1, q2⟩ := q
  simp only [Prod.mk.injEq] at h2
  obtain ⟨rfl, h2, h3⟩ := h2
  exact ⟨_, h1, h2, h3⟩
theorem src67 (st : St) (x : AV) : srcA E0 st 67 x = sliceCells st x := by
  have h : (E0.ty 67).map (fun i => (match i.desc with | .slice _ => true | _ => false)) = some true := by kernel_rfl
  obtain ⟨i, h1, h2⟩ := Option.map_eq_some_iff.1 h
  simp only [srcA, h1]
  split at h2
  · rename_i e he; simp only [he]
  · cases h2
theorem str67 : isStrTy E0 67 = false := by kernel_rfl
theorem own_picks {st : St} {x : AV} {ps : List Int} (hw : st.wf) (hx : BP x ps) (hps : ps.length ≤ 1000000000) :
    ∃ v st', appendA E0 (st.push (.row [] 50)) 67 67 (.sl st.next 1 0 0 true) x = some (v, st') ∧ ArgP st' v ps ∧ Rest st st' [] := by
  obtain ⟨q, he, h1, h2⟩ := el67
  have R := Rest.push hw (.row [] 50) []
  have hg : (st.push (.row [] 50)).get st.next = some (.row [] 50) := by rw [St.get_push, if_pos rfl]
  by_cases h0 : ps.length = 0
  · obtain rfl : ps = [] := List.eq_nil_of_length_eq_zero h0
    refine ⟨.sl st.next 1 0 0 true, _, ?_, .inr (.inr ⟨st.next, true, rfl, hg⟩), R⟩
    have hs : sliceCells (st.push (.row [] 50)) x = some (0, []) := by
      rcases hx with ⟨_, rfl⟩ | ⟨fl, rfl⟩ <;> rfl
    simp only [appendA, he, src67, hs, str67, h1]
    rw [if_pos ⟨by simp, fun h => by cases h⟩, if_neg (fun h => h rfl), if_pos trivial]
  · have hs : sliceCells (st.push (.row [] 50)) x = some (ps.length, ps.map u16) := by
      rcases hx with ⟨rfl, _⟩ | ⟨fl, rfl⟩
      · exact absurd rfl h0
      · rfl
    refine ⟨.sl (st.next + 1) 1 0 ps.length false, (st.push (.row [] 50)).push (.row (ps.map u16) 50), ?_, .inr (.inr ⟨st.next + 1, false, rfl, by rw [St.get_push]; exact if_pos rfl⟩), R.trans (Rest.push R.wf _ _)⟩
    simp only [appendA, he, src67, hs, str67, h1, h2]
    rw [if_pos ⟨by simp, fun h => by cases h⟩, if_neg (fun h => h rfl), if_neg h0, if_pos (by omega)]
    simp only [hg]
    rw [if_pos ⟨trivial, by simp⟩]
    simp
theorem br_crash (H : PlI e U σ) (hU : U < 1000000000) (hA : σ.st.get a = some A.row) (hAo : AcOk A) : ∃ σ', PlI e U σ' ∧ σ'.st.get a = some A.row ∧ Br2 e a lv len i 9 σ σ' := by
  have hbig : (1000000000 : Nat) ≤ big := by decide
  have hu := H.used
  have hlen := H.sim.len
  obtain ⟨v, s2, a1, a2, R2⟩ := own_picks H.wf hAo.p hAo.ps.1
  have H2 := H.push R2.f
  have R1 := Rest.push H.wf (.row [] 50) []
  have hA1 : (σ.st.push (.row [] 50)).get a = some A.row := R1.keep _ _ (by simp) hA
  have hA2 : s2.get a = some A.row := R2.keep _ _ (by simp) hA
  have hMn : (ks σ.r.F).map (·.1) = σ.r.F.map RF.name := by simp only [ks, List.map_map]; rfl
  have hMl : (ks σ.r.F).length = σ.r.F.length := by simp [ks]
  obtain ⟨s3, L', k3, p3, _, g3, m3, u3, R3⟩ := crash_ok H2.p H2.wf H2.lock (sim_good H.sim (by omega)) (M := ks σ.r.F) H.sim.perm (by rw [hMn]; exact H.sim.ord) (by omega) (fun k hk => by obtain ⟨f, hf, rfl⟩ := List.mem_map.1 hk; exact H.sim.may f hf) a2 hAo.ps
  obtain ⟨h1, h2⟩ := H2.sep
  obtain ⟨n1, n2⟩ := H2.sepA (a := a) hA2 (by decide) (by decide) (by decide)
  obtain ⟨h3, h4⟩ := H2.sepR
  have q3 := H2.q.rest R3 h1 h2
  have hA3 : s3.get a = some A.row := R3.keep _ _ n1 hA2
  obtain ⟨s4, F', k4, q4, m4, g4, u4, R4⟩ := rcrash_ok q3 R3.wf (R3.lock.trans H2.lock) H.sim.rgood (by show σ.r.F.length ≤ _; omega) (by show usedR σ.r.F ≤ _; omega) hAo.p hAo.ps
  have hS := sim_crash H.sim m3 m4 (fun f hf => ⟨(g3 f hf).1, (g3 f hf).2.1⟩) g4
  exact ⟨⟨s4, σ.d, σ.m, σ.fv, _, _⟩, ⟨R4.wf, (R4.lock.trans R3.lock).trans H2.lock, (R4.gl.trans R3.gl).trans H2.gl, PD.restF p3 (fun f hf => (g3 f hf).1) R4 h3 h4, q4, hS, Nat.le_trans u4 hu⟩, R4.keep _ _ n2 hA3 (Ac.calm hAo _), _,
    fun T hT => f8_33_FFFT (eqlF (by decide)) (eqlF (by decide)) (eqlF (by decide)) (eqlT rfl) (bs67 _) (ldP hA1) a1 k3 (ldP hA3) k4 hT⟩
def nA : ByteArray := ⟨#[97]⟩
def nB : ByteArray := ⟨#[98]⟩
def nC : ByteArray := ⟨#[99]⟩
def spl : List Int := [115, 112, 111, 105, 108, 116]
theorem bsS (st : St) : buildSliceA E0 st 28 6 [(0, (u8 115)), (1, (u8 112)), (2, (u8 111)), (3, (u8 105)), (4, (u8 108)), (5, (u8 116))] = some (.sl st.next 1 0 6 true, st.push (.row (spl.map u8) 5)) := by kernel_rfl
theorem cvS {st : St} {j : Nat} (hl : st.lock = []) (hg : st.get j = some (.row (spl.map u8) 5)) : convO E0 st 28 28 (.sl j 1 0 6 true) = some (.sl j 1 0 6 true, st.set j (.row (spl.map u8) 5)) := by
  have hwg := St.wget_of hg (show j ∉ st.lock by rw [hl]; simp)
  have h1 : sameBytesA E0 st 28 28 (.sl j 1 0 6 true) = some (.sl j 1 0 6 true, st.set j (.row (spl.map u8) 5)) := by
    obtain ⟨i, k, h1, h2, h3, h4⟩ : ∃ i k, E0.ty 28 = some i ∧ E0.ty 5 = some k ∧ i.desc = .slice 5 ∧ k.desc = .int .u8 := ⟨_, _, rfl, rfl, by kernel_rfl, by kernel_rfl⟩
    simp only [sameBytesA, h1, h3, h2, h4, hwg, if_true]
  have h2 : convO E0 st 28 28 (.sl j 1 0 6 true) = sameBytesA E0 st 28 28 (.sl j 1 0 6 true) := by
    have hb : ∀ v : AV, bytesStrA E0 st 28 28 v = none := fun v => by
      obtain ⟨i, h1, h2⟩ : ∃ i, E0.ty 28 = some i ∧ i.desc = .slice 5 := ⟨_, rfl, by kernel_rfl⟩
      unfold bytesStrA
      rw [h1]
      cases sliceCells st v with
      | none => rfl
      | some r => simp only [h2]
    have hc : convA E0 st 28 28 (.sl j 1 0 6 true) = sameBytesA E0 st 28 28 (.sl j 1 0 6 true) := by
      unfold convA
      rw [hb]
      have hs : strBytesA E0 st 28 28 (.sl j 1 0 6 true) = none := by kernel_rfl
      rw [hs]
    rw [← hc]; rfl
  rw [h2, h1]
theorem br_copy (H : PlI e U σ) (hU : U < 900000000) (hA : σ.st.get a = some A.row) (hAo : AcOk A) : ∃ σ', PlI e U σ' ∧ σ'.st.get a = some A.row ∧ Br2 e a lv len i 10 σ σ' := by
  have hbig : (1000000000 : Nat) ≤ big := by decide
  have hu := H.used
  obtain ⟨s1, m2, k1, p1, R1, hm2⟩ := copy_ok H.p H.wf H.lock
  have H1 := H.push R1.f
  have hd := H.wf _ _ H.p.row
  have hm : σ.m < σ.st.next := by obtain ⟨_, _, h⟩ := H.p.map; exact H.wf _ _ h
  -- the old disk is spoilt
  have S2 := (sim_create H.sim nA).2
  have U2 := used_rCreate H.sim nA
  obtain ⟨s2, k2, p2, R2⟩ := create_ok H1.p H1.wf H1.lock H.sim.fub nA
  have l2 : s2.lock = [] := R2.lock.trans H1.lock
  have S3 := (sim_remove S2 nB).2
  have U3 := used_rRemove S2 nB
  obtain ⟨s3, k3, p3, R3⟩ := remove_ok p2 R2.wf l2 S2.g nB
  have l3 : s3.lock = [] := R3.lock.trans l2
  have R4 := Rest.push R3.wf (.row (spl.map u8) 5) []
  have g4 : (s3.push (.row (spl.map u8) 5)).get s3.next = some (.row (spl.map u8) 5) := by rw [St.get_push, if_pos rfl]
  have l4 : (s3.push (.row (spl.map u8) 5)).lock = [] := l3
  have R4b : Rest s3 ((s3.push (.row (spl.map u8) 5)).set s3.next (.row (spl.map u8) 5)) [] := R4.old (Rest.set R4.wf (R4.wf _ _ g4) _ (S := [s3.next]) (by simp)) (by simp) R3.wf
  have p4 := PD.rest p3 R4b
  have hx : ArgB ((s3.push (.row (spl.map u8) 5)).set s3.next (.row (spl.map u8) 5)) (.sl s3.next 1 0 6 true) spl := .inr (.inr ⟨s3.next, true, rfl, by rw [St.get_set, if_pos rfl]⟩)
  obtain ⟨s5, t5, k5, p5, R5, _⟩ := append_ok p4 R4b.wf (R4b.lock.trans l3) S3.g (by rw [S3.used]; omega) S3.qb nC hx (by decide)
  have l5 : s5.lock = [] := R5.lock.trans (R4b.lock.trans l3)
  obtain ⟨s6, k6, p6, R6⟩ := quota_ok p5 R5.wf l5 1
  have l6 : s6.lock = [] := R6.lock.trans l5
  obtain ⟨s7, k7, p7, R7⟩ := fuse_ok p6 R6.wf l6 1
  have R17 : RestF s1 s7 [σ.d, σ.m] := ((((R2.trans R3).trans (R4b.weak (by simp))).f.trans R5).trans R6.f).trans R7.f
  obtain ⟨h1, h2⟩ := H1.sep
  have hA1 : s1.get a = some A.row := R1.keep _ _ (by simp) hA
  obtain ⟨n1, _⟩ := H1.sepA (a := a) hA1 (by decide) (by decide) (by decide)
  refine ⟨⟨s7, σ.st.next, m2, σ.fv, σ.s, σ.r⟩, ⟨R17.wf, R17.lock.trans H1.lock, R17.gl.trans H1.gl, PD.restF p1 (fun f hf => (H.sim.good f hf).1) R17 ?_ ?_, H1.q.restF H1.wf H.sim.rgood R17 h1 h2, H.sim, H.used⟩, R17.keep _ _ n1 hA1 (Ac.calm hAo _), 0,
    fun T hT => f8_33_FFFFT (eqlF (by decide)) (eqlF (by decide)) (eqlF (by decide)) (eqlF (by decide)) (eqlT rfl) k1 k2 k3 (bsS _) (cvS l4 g4) k5 k6 k7 hT⟩
  · simp only [List.mem_cons, List.not_mem_nil, or_false]; omega
  · simp only [List.mem_cons, List.not_mem_nil, or_false]; omega
end
section
set_option maxRecDepth 4000
variable {e U a : Nat} {σ : PlS} {A : Ac} {lv : AV} {len i : Nat}
theorem PlI.mono (H : PlI e U σ) {U' : Nat} (h : U ≤ U') : PlI e U' σ := { H with used := Nat.le_trans H.used h }
noncomputable def swC : Code := .seq (f8P 13) (.cond (.tmp 51) (f8P 14) (.seq (f8P 15) (.cond (.tmp 61) (.seq (f8P 16) (.seq (f8P 17) (.seq (f8P 18) (.block 3 (.loop (f8P 19)))))) (.seq (f8P 20) (.cond (.tmp 90) (f8P 21) (.seq (f8P 22) (.cond (.tmp 100) (f8P 23) (.seq (f8P 24) (.cond (.tmp 114) (f8P 25) (.seq (f8P 26) (.cond (.tmp 124) (.seq (f8P 27) (.seq (f8P 28) (.seq (f8P 29) (.seq (f8P 30) (.seq (f8P 31) (.block 5 (.loop (f8P 32)))))))) (f8P 33))))))))))))
def Sw (e a : Nat) (lv : AV) (len i : Nat) (w : Int) (σ σ' : PlS) : Prop := ∃ er, ∀ T, f8L12 T (.ptr σ.d 0) (.ptr e 0) (.ptr a 0) (i64 0) (i64 0) lv (i64 len) (i64 i) (i64 w) →
  AW Try.prog swC (fun ex T' st' => ex = .normal ∧ f8L11 T' (.ptr σ'.d 0) (.ptr e 0) (.ptr a 0) (i64 er) (i64 er) lv (i64 len) (i64 i) ∧ st' = σ'.st) T σ.st
theorem L12_10 {T : Tm} {a0 a1 a2 a3 a4 a5 a6 a7 a8 : AV} (h : f8L12 T a0 a1 a2 a3 a4 a5 a6 a7 a8) : f8L10 T a0 a1 a2 a5 a6 a7 := by
  obtain ⟨hn, h5, h7, h10, h11, h12, h40, h41, h42, h50⟩ := h
  exact ⟨hn, h5, h7, h10, h40, h41, h42⟩
theorem switch_ok (H : PlI e U σ) (hU : U < 800000000) (hA : σ.st.get a = some A.row) (hAo : AcOk A) : ∃ σ', PlI e (U + 1048576) σ' ∧ σ'.st.get a = some A.row ∧ Sw e a lv len i A.what σ σ' := by
  have up : ∀ {σ'}, PlI e U σ' → PlI e (U + 1048576) σ' := fun h => h.mono (by omega)
  by_cases h0 : A.what = 0
  · obtain ⟨σ', x1, x2, er, x3⟩ := br_create (lv := lv) (len := len) (i := i) H hA hAo
    refine ⟨σ', up x1, x2, er, fun T hT => .andThen (f8_13_T (eqlT h0) hT) fun T1 g1 => ?_⟩
    have g2 : f8L12 T1 _ _ _ _ _ _ _ _ _ := ⟨g1.1, g1.2.1, g1.2.2.1, g1.2.2.2.1, g1.2.2.2.2.1, g1.2.2.2.2.2.1, g1.2.2.2.2.2.2.1, g1.2.2.2.2.2.2.2.1, g1.2.2.2.2.2.2.2.2.1, g1.2.2.2.2.2.2.2.2.2.1⟩
    exact AW.cond (b := true) g1.2.2.2.2.2.2.2.2.2.2 (x3 T1 (L12_10 g2))
  have c0 : ∀ {Q : Exit → Tm → St → Prop} {x y : Code} {T}, f8L12 T (.ptr σ.d 0) (.ptr e 0) (.ptr a 0) (i64 0) (i64 0) lv (i64 len) (i64 i) (i64 A.what) → (∀ T1, f8L12 T1 (.ptr σ.d 0) (.ptr e 0) (.ptr a 0) (i64 0) (i64 0) lv (i64 len) (i64 i) (i64 A.what) → AW Try.prog y Q T1 σ.st) → AW Try.prog (.seq (f8P 13) (.cond (.tmp 51) x y)) Q T σ.st := fun hT k => .andThen (f8_13_F (eqlF h0) hT) fun T1 g1 => AW.cond (b := false) g1.2.2.2.2.2.2.2.2.2.2 (k T1 ⟨g1.1, g1.2.1, g1.2.2.1, g1.2.2.2.1, g1.2.2.2.2.1, g1.2.2.2.2.2.1, g1.2.2.2.2.2.2.1, g1.2.2.2.2.2.2.2.1, g1.2.2.2.2.2.2.2.2.1, g1.2.2.2.2.2.2.2.2.2.1⟩)
  by_cases h1 : A.what = 1
  · obtain ⟨σ', x1, x2, er, x3⟩ := br_append (lv := lv) (len := len) (i := i) H (by omega) hA hAo
    refine ⟨σ', x1, x2, er, fun T hT => c0 hT fun T hT => .andThen (f8_15_T (eqlT h1) hT) fun T1 g1 => ?_⟩
    have g2 : f8L12 T1 _ _ _ _ _ _ _ _ _ := ⟨g1.1, g1.2.1, g1.2.2.1, g1.2.2.2.1, g1.2.2.2.2.1, g1.2.2.2.2.2.1, g1.2.2.2.2.2.2.1, g1.2.2.2.2.2.2.2.1, g1.2.2.2.2.2.2.2.2.1, g1.2.2.2.2.2.2.2.2.2.1⟩
    exact AW.cond (b := true) g1.2.2.2.2.2.2.2.2.2.2 (x3 T1 (L12_10 g2))
  have c1 : ∀ {Q : Exit → Tm → St → Prop} {x y : Code} {T}, f8L12 T (.ptr σ.d 0) (.ptr e 0) (.ptr a 0) (i64 0) (i64 0) lv (i64 len) (i64 i) (i64 A.what) → (∀ T1, f8L12 T1 (.ptr σ.d 0) (.ptr e 0) (.ptr a 0) (i64 0) (i64 0) lv (i64 len) (i64 i) (i64 A.what) → AW Try.prog y Q T1 σ.st) → AW Try.prog (.seq (f8P 15) (.cond (.tmp 61) x y)) Q T σ.st := fun hT k => .andThen (f8_15_F (eqlF h1) hT) fun T1 g1 => AW.cond (b := false) g1.2.2.2.2.2.2.2.2.2.2 (k T1 ⟨g1.1, g1.2.1, g1.2.2.1, g1.2.2.2.1, g1.2.2.2.2.1, g1.2.2.2.2.2.1, g1.2.2.2.2.2.2.1, g1.2.2.2.2.2.2.2.1, g1.2.2.2.2.2.2.2.2.1, g1.2.2.2.2.2.2.2.2.2.1⟩)
  by_cases h2 : A.what = 2
  · obtain ⟨σ', x1, x2, er, x3⟩ := br_sync (lv := lv) (len := len) (i := i) H (by omega) hA hAo
    refine ⟨σ', up x1, x2, er, fun T hT => c0 hT fun T hT => c1 hT fun T hT => .andThen (f8_20_T (eqlT h2) hT) fun T1 g1 => ?_⟩
    have g2 : f8L12 T1 _ _ _ _ _ _ _ _ _ := ⟨g1.1, g1.2.1, g1.2.2.1, g1.2.2.2.1, g1.2.2.2.2.1, g1.2.2.2.2.2.1, g1.2.2.2.2.2.2.1, g1.2.2.2.2.2.2.2.1, g1.2.2.2.2.2.2.2.2.1, g1.2.2.2.2.2.2.2.2.2.1⟩
    exact AW.cond (b := true) g1.2.2.2.2.2.2.2.2.2.2 (x3 T1 (L12_10 g2))
  have c2 : ∀ {Q : Exit → Tm → St → Prop} {x y : Code} {T}, f8L12 T (.ptr σ.d 0) (.ptr e 0) (.ptr a 0) (i64 0) (i64 0) lv (i64 len) (i64 i) (i64 A.what) → (∀ T1, f8L12 T1 (.ptr σ.d 0) (.ptr e 0) (.ptr a 0) (i64 0) (i64 0) lv (i64 len) (i64 i) (i64 A.what) → AW Try.prog y Q T1 σ.st) → AW Try.prog (.seq (f8P 20) (.cond (.tmp 90) x y)) Q T σ.st := fun hT k => .andThen (f8_20_F (eqlF h2) hT) fun T1 g1 => AW.cond (b := false) g1.2.2.2.2.2.2.2.2.2.2 (k T1 ⟨g1.1, g1.2.1, g1.2.2.1, g1.2.2.2.1, g1.2.2.2.2.1, g1.2.2.2.2.2.1, g1.2.2.2.2.2.2.1, g1.2.2.2.2.2.2.2.1, g1.2.2.2.2.2.2.2.2.1, g1.2.2.2.2.2.2.2.2.2.1⟩)
  by_cases h3 : A.what = 3
  · obtain ⟨σ', x1, x2, er, x3⟩ := br_rename (lv := lv) (len := len) (i := i) H hA hAo
    refine ⟨σ', up x1, x2, er, fun T hT => c0 hT fun T hT => c1 hT fun T hT => c2 hT fun T hT => .andThen (f8_22_T (eqlT h3) hT) fun T1 g1 => ?_⟩
    have g2 : f8L12 T1 _ _ _ _ _ _ _ _ _ := ⟨g1.1, g1.2.1, g1.2.2.1, g1.2.2.2.1, g1.2.2.2.2.1, g1.2.2.2.2.2.1, g1.2.2.2.2.2.2.1, g1.2.2.2.2.2.2.2.1, g1.2.2.2.2.2.2.2.2.1, g1.2.2.2.2.2.2.2.2.2.1⟩
    exact AW.cond (b := true) g1.2.2.2.2.2.2.2.2.2.2 (x3 T1 (L12_10 g2))
  have c3 : ∀ {Q : Exit → Tm → St → Prop} {x y : Code} {T}, f8L12 T (.ptr σ.d 0) (.ptr e 0) (.ptr a 0) (i64 0) (i64 0) lv (i64 len) (i64 i) (i64 A.what) → (∀ T1, f8L12 T1 (.ptr σ.d 0) (.ptr e 0) (.ptr a 0) (i64 0) (i64 0) lv (i64 len) (i64 i) (i64 A.what) → AW Try.prog y Q T1 σ.st) → AW Try.prog (.seq (f8P 22) (.cond (.tmp 100) x y)) Q T σ.st := fun hT k => .andThen (f8_22_F (eqlF h3) hT) fun T1 g1 => AW.cond (b := false) g1.2.2.2.2.2.2.2.2.2.2 (k T1 ⟨g1.1, g1.2.1, g1.2.2.1, g1.2.2.2.1, g1.2.2.2.2.1, g1.2.2.2.2.2.1, g1.2.2.2.2.2.2.1, g1.2.2.2.2.2.2.2.1, g1.2.2.2.2.2.2.2.2.1, g1.2.2.2.2.2.2.2.2.2.1⟩)
  by_cases h4 : A.what = 4
  · obtain ⟨σ', x1, x2, er, x3⟩ := br_remove (lv := lv) (len := len) (i := i) H hA hAo
    refine ⟨σ', up x1, x2, er, fun T hT => c0 hT fun T hT => c1 hT fun T hT => c2 hT fun T hT => c3 hT fun T hT => .andThen (f8_24_T (eqlT h4) hT) fun T1 g1 => ?_⟩
    have g2 : f8L12 T1 _ _ _ _ _ _ _ _ _ := ⟨g1.1, g1.2.1, g1.2.2.1, g1.2.2.2.1, g1.2.2.2.2.1, g1.2.2.2.2.2.1, g1.2.2.2.2.2.2.1, g1.2.2.2.2.2.2.2.1, g1.2.2.2.2.2.2.2.2.1, g1.2.2.2.2.2.2.2.2.2.1⟩
    exact AW.cond (b := true) g1.2.2.2.2.2.2.2.2.2.2 (x3 T1 (L12_10 g2))
  have c4 : ∀ {Q : Exit → Tm → St → Prop} {x y : Code} {T}, f8L12 T (.ptr σ.d 0) (.ptr e 0) (.ptr a 0) (i64 0) (i64 0) lv (i64 len) (i64 i) (i64 A.what) → (∀ T1, f8L12 T1 (.ptr σ.d 0) (.ptr e 0) (.ptr a 0) (i64 0) (i64 0) lv (i64 len) (i64 i) (i64 A.what) → AW Try.prog y Q T1 σ.st) → AW Try.prog (.seq (f8P 24) (.cond (.tmp 114) x y)) Q T σ.st := fun hT k => .andThen (f8_24_F (eqlF h4) hT) fun T1 g1 => AW.cond (b := false) g1.2.2.2.2.2.2.2.2.2.2 (k T1 ⟨g1.1, g1.2.1, g1.2.2.1, g1.2.2.2.1, g1.2.2.2.2.1, g1.2.2.2.2.2.1, g1.2.2.2.2.2.2.1, g1.2.2.2.2.2.2.2.1, g1.2.2.2.2.2.2.2.2.1, g1.2.2.2.2.2.2.2.2.2.1⟩)
  by_cases h5 : A.what = 5
  · obtain ⟨σ', x1, x2, er, x3⟩ := br_read (lv := lv) (len := len) (i := i) H (by omega) hA hAo
    refine ⟨σ', up x1, x2, er, fun T hT => c0 hT fun T hT => c1 hT fun T hT => c2 hT fun T hT => c3 hT fun T hT => c4 hT fun T hT => .andThen (f8_26_T (eqlT h5) hT) fun T1 g1 => ?_⟩
    have g2 : f8L12 T1 _ _ _ _ _ _ _ _ _ := ⟨g1.1, g1.2.1, g1.2.2.1, g1.2.2.2.1, g1.2.2.2.2.1, g1.2.2.2.2.2.1, g1.2.2.2.2.2.2.1, g1.2.2.2.2.2.2.2.1, g1.2.2.2.2.2.2.2.2.1, g1.2.2.2.2.2.2.2.2.2.1⟩
    exact AW.cond (b := true) g1.2.2.2.2.2.2.2.2.2.2 (x3 T1 (L12_10 g2))
  have c5 : ∀ {Q : Exit → Tm → St → Prop} {x y : Code} {T}, f8L12 T (.ptr σ.d 0) (.ptr e 0) (.ptr a 0) (i64 0) (i64 0) lv (i64 len) (i64 i) (i64 A.what) → (∀ T1, f8L12 T1 (.ptr σ.d 0) (.ptr e 0) (.ptr a 0) (i64 0) (i64 0) lv (i64 len) (i64 i) (i64 A.what) → AW Try.prog y Q T1 σ.st) → AW Try.prog (.seq (f8P 26) (.cond (.tmp 124) x y)) Q T σ.st := fun hT k => .andThen (f8_26_F (eqlF h5) hT) fun T1 g1 => AW.cond (b := false) g1.2.2.2.2.2.2.2.2.2.2 (k T1 ⟨g1.1, g1.2.1, g1.2.2.1, g1.2.2.2.1, g1.2.2.2.2.1, g1.2.2.2.2.2.1, g1.2.2.2.2.2.2.1, g1.2.2.2.2.2.2.2.1, g1.2.2.2.2.2.2.2.2.1, g1.2.2.2.2.2.2.2.2.2.1⟩)
  have last : ∀ {σ' : PlS}, Br2 e a lv len i A.what σ σ' → Sw e a lv len i A.what σ σ' := fun ⟨er, x3⟩ => ⟨er, fun T hT => c0 hT fun T hT => c1 hT fun T hT => c2 hT fun T hT => c3 hT fun T hT => c4 hT fun T hT => c5 hT fun T hT => x3 T hT⟩
  by_cases h6 : A.what = 6
  · obtain ⟨σ', x1, x2, x3⟩ := br_loose (lv := lv) (len := len) (i := i) H (by omega) hA hAo
    exact ⟨σ', up x1, x2, last (by rw [h6]; exact x3)⟩
  by_cases h7 : A.what = 7
  · obtain ⟨σ', x1, x2, x3⟩ := br_quota (lv := lv) (len := len) (i := i) H hA hAo
    exact ⟨σ', up x1, x2, last (by rw [h7]; exact x3)⟩
  by_cases h8 : A.what = 8
  · obtain ⟨σ', x1, x2, x3⟩ := br_fuse (lv := lv) (len := len) (i := i) H hA hAo
    exact ⟨σ', up x1, x2, last (by rw [h8]; exact x3)⟩
  by_cases h9 : A.what = 9
  · obtain ⟨σ', x1, x2, x3⟩ := br_crash (lv := lv) (len := len) (i := i) H (by omega) hA hAo
    exact ⟨σ', up x1, x2, last (by rw [h9]; exact x3)⟩
  by_cases h10 : A.what = 10
  · obtain ⟨σ', x1, x2, x3⟩ := br_copy (lv := lv) (len := len) (i := i) H (by omega) hA hAo
    exact ⟨σ', up x1, x2, last (by rw [h10]; exact x3)⟩
  obtain ⟨σ', x1, x2, x3⟩ := br_none (lv := lv) (len := len) (i := i) H hA h6 h7 h8 h9 h10
  exact ⟨σ', up x1, x2, last x3⟩
end
section
set_option maxRecDepth 4000
variable {e U a : Nat} {σ : PlS} {A : Ac} {len i : Nat}
def Ac.cells (A : Ac) : List AV := [i64 A.what, str A.name, str A.to, A.bv, i64 A.n, A.pv]
/-- the rows of calls, as data -/
def ActsV (L : AV) (As : List Ac) : Prop := (As = [] ∧ L = .nils) ∨ ∃ fl, L = .imm 6 As.length fl (As.flatMap Ac.cells)
theorem ty64 : ∃ i, E0.ty 64 = some i ∧ i.desc = .slice 69 := ⟨_, rfl, by kernel_rfl⟩
theorem lenActs {L : AV} {As : List Ac} (h : ActsV L As) : lenA E0 64 L = some (i64 As.length) := by
  obtain ⟨q, h1, h2⟩ := ty64
  rcases h with ⟨rfl, rfl⟩ | ⟨fl, rfl⟩ <;> simp only [lenA, h1, h2] <;> rfl
theorem drop_flat : ∀ (As : List Ac) (k : Nat), (As.flatMap Ac.cells).drop (k * 6) = (As.drop k).flatMap Ac.cells
  | [], k => by simp
  | A :: r, 0 => by simp
  | A :: r, k + 1 => by
    have : (k + 1) * 6 = 6 + k * 6 := by omega
    rw [this, List.flatMap_cons, ← List.drop_drop, List.drop_succ_cons]
    exact drop_flat r k
theorem act_elem {L : AV} {As : List Ac} (h : ActsV L As) {k : Nat} {A : Ac} (hk : As[k]? = some A) (st : St) : ∃ q, indexAddrA E0 64 L (i64 k) = some q ∧ loadA E0 st 69 q = some (.agg A.cells) := by
  have hlt := (List.getElem?_eq_some_iff.1 hk).1
  rcases h with ⟨rfl, _⟩ | ⟨fl, rfl⟩
  · simp at hlt
  obtain ⟨t, h1, h2⟩ := ty64
  have hs : tySize E0 69 = some 6 := by kernel_rfl
  refine ⟨.iptr ((As.flatMap Ac.cells).drop (k * 6)), ?_, ?_⟩
  · simp only [indexAddrA, h1, h2, hs]
    rw [if_pos ⟨trivial, by omega, by omega, by decide⟩]
    rfl
  · rw [drop_flat, List.drop_eq_getElem_cons hlt, List.flatMap_cons, (List.getElem?_eq_some_iff.1 hk).2]
    have hp : (E0.ty 69).map (fun i => (isAggD i.desc, i.size)) = some (true, 6) := by kernel_rfl
    obtain ⟨i, h1, h2⟩ := Option.map_eq_some_iff.1 hp
    simp only [Prod.mk.injEq] at h2
    simp only [loadA, partA, h1, h2.1, h2.2]
    simp [Ac.cells]
theorem avc_act {A : Ac} (h : AcOk A) : avCells (.agg A.cells) = some A.cells := by
  rcases h.b with ⟨_, h1⟩ | ⟨fl, h1⟩ <;> rcases h.p with ⟨_, h2⟩ | ⟨gl, h2⟩ <;> rw [Ac.cells, h1, h2] <;> rfl
theorem newAct {st : St} (hw : st.wf) (hl : st.lock = []) {A : Ac} (hA : AcOk A) : ∃ s1 s2, allocA E0 st 69 = some (.ptr st.next 0, s1) ∧ storeA E0 s1 69 (.ptr st.next 0) (.agg A.cells) = some s2 ∧ s2.get st.next = some A.row ∧ Rest st s2 [] := by
  obtain ⟨q, hq, hl3⟩ : ∃ q : List AV, zeroA E0 69 = some q ∧ q.length = 6 := by
    have h : (zeroA E0 69).map List.length = some 6 := by kernel_rfl
    obtain ⟨q, a, b⟩ := Option.map_eq_some_iff.1 h
    exact ⟨q, a, b⟩
  have hsz : tySize E0 69 = some 6 := by kernel_rfl
  have hg : (st.push (.row q 69)).get st.next = some (.row q 69) := by rw [St.get_push, if_pos rfl]
  have hwg := St.wget_of hg (show st.next ∉ (st.push (.row q 69)).lock by show st.next ∉ st.lock; rw [hl]; simp)
  have R := Rest.push hw (.row q 69) []
  refine ⟨st.push (.row q 69), (st.push (.row q 69)).set st.next A.row, by simp only [allocA, hq], ?_, ?_, R.old (Rest.set R.wf (R.wf _ _ hg) _ (S := [st.next]) (by simp)) (by simp) hw⟩
  · simp only [storeA, avc_act hA, hwg, hsz]
    rw [if_pos ⟨rfl, by simp [hl3, Ac.cells]⟩]
    have hd : List.drop 6 q = [] := List.drop_of_length_le (by omega)
    simp [hd, Ac.cells, Ac.row]
  · rw [St.get_set, if_pos rfl]
theorem AW.blockN {P : Program} {c : Code} {id : Nat} {L : Tm → Prop} {T : Tm} {st s : St} (h : AW P c (fun ex T' st' => ex = .normal ∧ L T' ∧ st' = s) T st) : AW P (.block id c) (fun ex T' st' => ex = .normal ∧ L T' ∧ st' = s) T st :=
  .block (h.mono fun ex T' st' ⟨h1, h2, h3⟩ => by subst h1; exact ⟨rfl, h2, h3⟩)
theorem AW.condT {P : Program} {c : Operand} {x y : Code} {Q : Exit → Tm → St → Prop} {T : Tm} {st : St} (h : T.eval c = TT) (k : AW P x Q T st) : AW P (.cond c x y) Q T st := AW.cond (b := true) h k
noncomputable def turnC : Code := .seq (f8P 7) (.seq (f8P 8) (.seq (.block 1 (.seq (f8P 9) (.seq (f8P 10) (.seq (f8P 11) (.seq (.seq (f8P 12) (.block 2 swC)) (f8P 34)))))) (f8P 35)))
def TurnR (e : Nat) (L : AV) (len : Nat) (i : Nat) (σ σ' : PlS) : Prop := ∀ T, f8L6 T (.ptr σ.d 0) (.ptr e 0) L (i64 len) (i64 i) →
  AW Try.prog turnC (fun ex T' st' => ex = .normal ∧ f8L6 T' (.ptr σ'.d 0) (.ptr e 0) L (i64 len) (i64 ((i + 1 : Nat) : Int)) ∧ st' = σ'.st) T σ.st
theorem turn_ok {L : AV} {As : List Ac} (hL : ActsV L As) (hAs : ∀ A ∈ As, AcOk A) {i : Nat} (hi : i < As.length) (hi2 : i < 150) (H : PlI e (i * 1048576) σ) : ∃ σ', PlI e ((i + 1) * 1048576) σ' ∧ TurnR e L As.length i σ σ' := by
  have hA := List.getElem?_eq_getElem hi
  generalize As[i] = A at hA
  have hok := hAs A (List.mem_of_getElem? hA)
  obtain ⟨q, a1, a2⟩ := act_elem hL hA σ.st
  obtain ⟨s1, s2, b1, b2, b3, R2⟩ := newAct H.wf H.lock hok
  have H2 := H.push R2.f
  obtain ⟨σ3, H3, hA3, er, sw⟩ := switch_ok (lv := L) (len := As.length) (i := i) H2 (by omega) b3 hok
  obtain ⟨s4, c1, R4⟩ := alike_ok H3.sim H3.p H3.q H3.wf H3.lock (by have := H3.used; omega) hok.p hok.ps
  have H4 := (H3.push R4).mono (U' := (i + 1) * 1048576) (by omega)
  refine ⟨{ σ3 with st := s4 }, H4, fun T hT => ?_⟩
  refine .andThen (f8_7_T (lssT (by omega)) hT) fun T1 g1 => ?_
  refine .andThen (f8_8_T g1) fun T2 g2 => ?_
  refine .andThen (AW.blockN (s := s4) (L := fun T' => f8L6 T' (.ptr σ3.d 0) (.ptr e 0) L (i64 As.length) (i64 i)) ?_) fun T3 g3 => f8_35 (add64 (by omega)) g3
  refine .andThen (f8_9 a1 a2 b1 b2 g2) fun T4 g4 => ?_
  refine .andThen (f8_10_F (eqlF (by omega)) g4) fun T5 g5 => ?_
  refine .andThen (f8_11 g5) fun T6 g6 => ?_
  refine .andThen (s := σ3.st) (L := fun T' => f8L11 T' (.ptr σ3.d 0) (.ptr e 0) (.ptr σ.st.next 0) (i64 er) (i64 er) L (i64 As.length) (i64 i)) ?_ fun T7 g7 => f8_34_FT (neqF rfl) (ldP hA3) c1 g7
  refine .andThen (f8_12 (load_row b3 (p3 rfl)) g6) fun T8 g8 => ?_
  exact AW.blockN (sw T8 g8)
theorem st00_wf : st00.wf := fun i o h => by simp [st00, St.get, Tr.get] at h
theorem plays_all (quota : Int) (hq : quota ≤ 9223372036854775807) {L : AV} {As : List Ac} (hL : ActsV L As) (hAs : ∀ A ∈ As, AcOk A) : ACalls Try.prog 8 [i64 quota, L] (fun r st' => r = TT) st00 := by
  refine ACalls.body (E := E0) hE Try.func8 f8body ?_
  refine .andThen (f8_0 (quota := quota) (lv := L) ⟨rfl, rfl, rfl⟩) fun T1 h1 => ?_
  refine .andThen (f8_1_T (awake13 st00) h1) fun T2 h2 => ?_
  by_cases hneg : quota < 0
  · refine .andThen (f8n_2 ((new_ok st00_wf quota).1 hneg) h2) fun T3 h3 => ?_
    refine .andThen (f8n_3 ((rnew_ok st00_wf quota).1 hneg) h3) fun T4 h4 => ?_
    refine .andThen (f8n_4_F (neqF rfl) h4) fun T5 h5 => ?_
    refine .retThen (f8n_5_T (neqT (by decide)) h5) fun T6 h6 => ⟨[TT], ?_, rfl⟩
    show some [T6.get 4] = _
    rw [h6.2]
  · obtain ⟨s1, k1, p1, R1⟩ := (new_ok st00_wf quota).2 (by omega)
    obtain ⟨s2, k2, q2, R2⟩ := (rnew_ok R1.wf quota).2 (by omega)
    refine .andThen (f8_2 k1 h2) fun T3 h3 => ?_
    refine .andThen (f8_3 k2 h3) fun T4 h4 => ?_
    refine .andThen (f8_4_F (neqF rfl) h4) fun T5 h5 => ?_
    refine .andThen (f8_5_F (neqF rfl) h5) fun T6 h6 => ?_
    have init : PlI s1.next (0 * 1048576) ⟨s2, st00.next + 1, st00.next, .nils, ⟨[], quota, 0, false⟩, ⟨[], quota, 0, false⟩⟩ :=
      ⟨R2.wf, R2.lock.trans (R1.lock.trans rfl), R2.gl.trans (R1.gl.trans rfl), PD.rest p1 R2, q2, { perm := .refl _, ord := .nil, may := fun f h => (by cases h), q := rfl, fu := rfl, off := rfl, good := fun f h => (by cases h), rgood := fun f h => (by cases h), fub := ⟨Int.le_refl 0, by show (0 : Int) ≤ _; omega⟩, qb := ⟨by show 0 ≤ quota; omega, hq⟩, len := Nat.zero_le _ }, Nat.le_refl _⟩
    obtain ⟨c, c0, inv, step⟩ := chain_seq (fun i σ => PlI s1.next (i * 1048576) σ) (TurnR s1.next L As.length) (min As.length 150) _ init (fun i σ hi H => turn_ok hL hAs (by omega) (by omega) H)
    have Hn := inv (min As.length 150) (Nat.le_refl _)
    obtain ⟨sf, fin⟩ : ∃ sf, ∀ T, f8L6 T (.ptr (c (min As.length 150)).d 0) (.ptr s1.next 0) L (i64 As.length) (i64 (min As.length 150 : Nat)) → AW Try.prog turnC (fun ex T' st' => ex = .exit 0 ∧ f8L8 T' ∧ st' = sf) T (c (min As.length 150)).st := by
      by_cases hle : As.length ≤ 150
      · have he : min As.length 150 = As.length := by omega
        rw [he]
        refine ⟨(c As.length).st, fun T hT => ?_⟩
        refine .andThen (f8_7_F (lssF (by omega)) hT) fun T1 g1 => ?_
        exact .seq ((f8_8_F g1).mono fun ex T' st' ⟨q1, q2, q3⟩ => by subst q1; exact ⟨rfl, q2, q3⟩)
      · have he : min As.length 150 = 150 := by omega
        rw [he] at Hn ⊢
        have hi : 150 < As.length := by omega
        have hA := List.getElem?_eq_getElem hi
        generalize As[150] = A at hA
        have hok := hAs A (List.mem_of_getElem? hA)
        obtain ⟨q, a1, a2⟩ := act_elem hL hA (c 150).st
        obtain ⟨t1, t2, b1, b2, b3, R⟩ := newAct Hn.wf Hn.lock hok
        refine ⟨t2, fun T hT => ?_⟩
        refine .andThen (f8_7_T (lssT (by omega)) hT) fun T1 g1 => ?_
        refine .andThen (f8_8_T g1) fun T2 g2 => ?_
        have hb : AW Try.prog (.seq (f8P 9) (.seq (f8P 10) (.seq (f8P 11) (.seq (.seq (f8P 12) (.block 2 swC)) (f8P 34))))) (fun ex T' st' => ex = .exit 0 ∧ f8L8 T' ∧ st' = t2) T2 (c 150).st := by
          refine .andThen (f8_9 a1 a2 b1 b2 g2) fun T4 g4 => ?_
          exact .seq ((f8_10_T (eqlT rfl) g4).mono fun ex T' st' ⟨q1, q2, q3⟩ => by subst q1; exact ⟨rfl, q2, q3⟩)
        exact .seq (.block (hb.mono fun ex T' st' ⟨q1, q2, q3⟩ => by
          subst q1
          simp only [blockA]
          rw [if_neg (by decide)]
          exact ⟨rfl, q2, q3⟩))
    refine .andThen (L := fun T => f8L8 T) (s := sf) (.andThen (f8_6 (lenActs hL) h6) fun T7 h7 => ?_) fun T8 h8 => ?_
    · exact AW.turns (In := fun i T => f8L6 T (.ptr (c i).d 0) (.ptr s1.next 0) L (i64 As.length) (i64 i)) (c := fun i => (c i).st) (n := min As.length 150) (by rw [c0]) (by rw [c0]; exact h7) (fun i hi T hT => step i hi T hT) fin
    · refine .atRet (f8_36 h8) fun T9 h9 => ⟨[TT], ?_, rfl⟩
      show some [T9.get 4] = _
      rw [h9.2]
end
end Go.Proofs.Ytniaiciabfdbnaa.E
