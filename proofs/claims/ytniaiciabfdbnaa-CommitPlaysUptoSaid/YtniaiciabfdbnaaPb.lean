/- The document's disk (escritoireref13), over the abstract machine: a contract for each call but Crash and Copy. No condition beyond those that the lemmas name. -/
import Derived.Test.YtniaiciabfdbnaaPa
namespace Go.Proofs.Ytniaiciabfdbnaa.E
open Go Go.Proofs
section
set_option maxRecDepth 100000
/-- a file of the document's disk -/
structure RF where
  name : ByteArray
  lv : AV
  ov : AV
  lb : List Int
  ob : List Int
def cells : List RF → List AV
  | [] => []
  | f :: r => str f.name :: f.lv :: f.ov :: cells r
def ltS (a b : ByteArray) : Bool := boolI (binOp .lss 9 (.string a) (.string b))
def eqS (a b : ByteArray) : Bool := boolI (binOp .eql 9 (.string a) (.string b))
noncomputable def atP (i : Nat) : Code := match Try.f70.body with
  | some (.seq r0 (.seq r1 (.seq (.block 0 (.loop b)) (.seq r4 _)))) => [r0, r1, b, r4].getD i .skip
  | _ => .skip
theorem body70 : Try.f70.body = some (.seq (atP 0) (.seq (atP 1) (.seq (.block 0 (.loop (atP 2))) (.seq (atP 3) .ret)))) := by kernel_rfl
noncomputable def atEv (i : Nat) (l : List (Nat × AV)) (st : St) (x : List Or) := (evS Try.prog E0 noOv noS 100000 [2011, 13, 2018, 2020, 2022, 24, 27, 2035, 2042, 2046, 8000] (atP i) ⟨48, l, []⟩ st x).map fun q => (q.1, q.2.1.n, [q.2.1.get 0, q.2.1.get 1, q.2.1.get 4, q.2.1.get 5, q.2.1.get 6], q.2.2.1, q.2.2.2.2)
section
variable (d f len i j : Nat) (fl b : Bool) (n nm : ByteArray) (st : St)
abbrev atT (d : Nat) (n : ByteArray) (i : Nat) : List (Nat × AV) := [(0, .ptr d 0), (1, str n), (6, i64 i)]
theorem at_0 : atEv 0 [(0, .ptr d 0), (1, str n)] st [] = some (.normal, 48, [.ptr d 0, str n, i64 0, FF, .undef], st, []) := by kernel_rfl
theorem at_1 : atEv 1 [(0, .ptr d 0), (1, str n)] st [] = some (.normal, 48, [.ptr d 0, str n, .undef, .undef, i64 0], st, []) := by kernel_rfl
theorem at_endN : atEv 2 (atT d n i) st [.eff .nils id, FF] = some (.exit 0, 48, [.ptr d 0, str n, .undef, .undef, i64 i], st, [obL st 113 (.ptr d 0) .nils, bo (ltN i 0) = FF]) := by kernel_rfl
theorem at_end : atEv 2 (atT d n i) st [.eff (.sl f 3 0 len fl) id, FF] = some (.exit 0, 48, [.ptr d 0, str n, .undef, .undef, i64 i], st, [obL st 113 (.ptr d 0) (.sl f 3 0 len fl), bo (ltN i len) = FF]) := by kernel_rfl
theorem at_stop : atEv 2 (atT d n i) st [.eff (.sl f 3 0 len fl) id, TT, .eff (.sl f 3 0 len fl) id, .eff (str nm) id, FF] = some (.exit 0, 48, [.ptr d 0, str n, .undef, .undef, i64 i], st,
  [obL st 113 (.ptr d 0) (.sl f 3 0 len fl), bo (ltN i len) = TT, obL st 113 (.ptr d 0) (.sl f 3 0 len fl), 0 ≤ (i : Int) ∧ (i : Int) < len, obL st 9 (.ptr f (0 + i * 3 + 0)) (str nm), bo (ltS nm n) = FF]) := by kernel_rfl
theorem at_go : atEv 2 (atT d n i) st [.eff (.sl f 3 0 len fl) id, TT, .eff (.sl f 3 0 len fl) id, .eff (str nm) id, TT, i64 j] = some (.normal, 48, [.ptr d 0, str n, .undef, .undef, i64 j], st,
  [obL st 113 (.ptr d 0) (.sl f 3 0 len fl), bo (ltN i len) = TT, obL st 113 (.ptr d 0) (.sl f 3 0 len fl), 0 ≤ (i : Int) ∧ (i : Int) < len, obL st 9 (.ptr f (0 + i * 3 + 0)) (str nm), bo (ltS nm n) = TT, i64 (addN i 1) = i64 j]) := by kernel_rfl
def ltP (a b : Nat) (v : AV) : Prop := binA E0 .lss 3 (i64 a) (i64 b) = some v
def eqP (a b : ByteArray) (v : AV) : Prop := binA E0 .eql 9 (str a) (str b) = some v
theorem at_outN : atEv 3 (atT d n i) st [.eff .nils id, .eff FF id] = some (.normal, 48, [.ptr d 0, str n, i64 i, FF, i64 i], st,
  [∀ k ∈ [d], k < st.next, [d].contains d = true ∧ loadA E0 st 113 (.ptr d 0) = some .nils, ltP i 0 FF]) := by kernel_rfl
theorem at_out : atEv 3 (atT d n i) st [.eff (.sl f 3 0 len fl) id, .eff FF id] = some (.normal, 48, [.ptr d 0, str n, i64 i, FF, i64 i], st,
  [∀ k ∈ [d], k < st.next, [d].contains d = true ∧ loadA E0 st 113 (.ptr d 0) = some (.sl f 3 0 len fl), ltP i len FF]) := by kernel_rfl
theorem at_in : atEv 3 (atT d n i) st [.eff (.sl f 3 0 len fl) id, .eff TT id, .eff (.sl f 3 0 len fl) id, .eff (.ptr f j) id, .eff (str nm) id, .eff (bo b) id] = some (.normal, 48, [.ptr d 0, str n, i64 i, bo b, i64 i], st,
  [∀ k ∈ [d, d, f], k < st.next, [d, d, f].contains d = true ∧ loadA E0 st 113 (.ptr d 0) = some (.sl f 3 0 len fl), ltP i len TT, [d, d, f].contains d = true ∧ loadA E0 st 113 (.ptr d 0) = some (.sl f 3 0 len fl), indexAddrA E0 113 (.sl f 3 0 len fl) (i64 i) = some (.ptr f j), [d, d, f].contains f = true ∧ loadA E0 st 9 (.ptr f (j + 0)) = some (str nm), eqP nm n (bo b)]) := by kernel_rfl
end
end
section
set_option maxRecDepth 4000
theorem cells_at : ∀ (F : List RF) (i : Nat) (f : RF), F[i]? = some f → (cells F)[i * 3]? = some (str f.name) ∧ (cells F)[i * 3 + 1]? = some f.lv ∧ (cells F)[i * 3 + 2]? = some f.ov
  | [], i, f, h => by cases h
  | g :: r, 0, f, h => by
    obtain rfl : g = f := by simpa using h
    exact ⟨rfl, rfl, rfl⟩
  | g :: r, i + 1, f, h => by
    have := cells_at r i f (by simpa using h)
    have e : (i + 1) * 3 = i * 3 + 3 := by omega
    rw [e]
    exact this
theorem cells_length : ∀ F : List RF, (cells F).length = F.length * 3
  | [] => rfl
  | _ :: r => by simp only [cells, List.length_cons, cells_length r]; omega
/-- the files' slice -/
def FV (st : St) (fv : AV) (F : List RF) : Prop := (F = [] ∧ fv = .nils) ∨ (F ≠ [] ∧ ∃ f fl, fv = .sl f 3 0 F.length fl ∧ st.get f = some (.row (cells F) 121))
structure RS where
  F : List RF
  q : Int
  fu : Int
  off : Bool
/-- the document's disk -/
structure RD (st : St) (d : Nat) (fv : AV) (s : RS) : Prop where
  row : st.get d = some (.row [fv, i64 s.q, i64 s.fu, bo s.off] 115)
  fv : FV st fv s.F
def pos : ByteArray → List RF → Nat
  | _, [] => 0
  | n, f :: r => if ltS f.name n then pos n r + 1 else 0
def hit (n : ByteArray) (F : List RF) : Bool := match F[pos n F]? with
  | some f => eqS f.name n
  | none => false
theorem pos_le : ∀ (n : ByteArray) (F : List RF), pos n F ≤ F.length
  | _, [] => Nat.le_refl _
  | n, f :: r => by
    unfold pos
    have := pos_le n r
    split <;> simp <;> omega
theorem ty113 : E0.ty 113 = some ⟨.slice 121, 1, 24, some (.slice none 0 0)⟩ := by kernel_rfl
theorem size121 : tySize E0 121 = some 3 := by kernel_rfl
theorem p113 {vs : List AV} {off : Nat} {a : AV} (h : vs[off]? = some a) : partA E0 113 vs off = some a := plainT ty113 rfl h
theorem iA113 {f len : Nat} {fl : Bool} {i : Nat} (hi : i < len) : indexAddrA E0 113 (.sl f 3 0 len fl) (i64 i) = some (.ptr f (i * 3)) := by
  simp only [indexAddrA, ty113, size121]
  rw [if_pos (by refine ⟨trivial, ?_, ?_⟩ <;> omega), Nat.zero_add]; rfl
theorem RD.load {st : St} {d : Nat} {fv : AV} {s : RS} (h : RD st d fv s) : loadA E0 st 113 (.ptr d 0) = some fv := load_row h.row (p113 rfl)
theorem FV.of {st : St} {fv : AV} {F : List RF} (h : FV st fv F) {i : Nat} {f : RF} (hf : F[i]? = some f) : ∃ r fl, fv = .sl r 3 0 F.length fl ∧ st.get r = some (.row (cells F) 121) := by
  rcases h with ⟨rfl, _⟩ | ⟨_, r, fl, h1, h2⟩
  · cases hf
  · exact ⟨r, fl, h1, h2⟩
theorem ltP_T {a b : Nat} (h : a < b) : ltP a b TT := by
  have : ltP a b TT = (some (bo (ltN a b)) = some TT) := rfl
  rw [this]; exact congrArg some (lt_T (by omega))
theorem ltP_F {a b : Nat} (h : b ≤ a) : ltP a b FF := by
  have : ltP a b FF = (some (bo (ltN a b)) = some FF) := rfl
  rw [this]; exact congrArg some (lt_F (by omega))
theorem eqP_ok (a b : ByteArray) : eqP a b (bo (eqS a b)) := rfl
def GA (T : Tm) : List AV := [T.get 0, T.get 1, T.get 4, T.get 5, T.get 6]
theorem drop_at {F : List RF} {i : Nat} {f : RF} (h : F[i]? = some f) : F.drop i = f :: F.drop (i + 1) := by
  obtain ⟨h1, h2⟩ := List.getElem?_eq_some_iff.1 h
  rw [← h2]; exact List.drop_eq_getElem_cons h1
theorem at_loop {d : Nat} {fv : AV} {s : RS} {n : ByteArray} {T : Tm} {st : St} (hr : RD st d fv s) (hsz : s.F.length ≤ 1000000) (hn : T.n = 48) (h0 : T.get 0 = .ptr d 0) (h1 : T.get 1 = str n) (h6 : T.get 6 = i64 0) :
    AW Try.prog (.loop (atP 2)) (fun e T' st' => e = .exit 0 ∧ T'.n = 48 ∧ st' = st ∧ T'.get 0 = .ptr d 0 ∧ T'.get 1 = str n ∧ T'.get 6 = i64 (pos n s.F)) T st := by
  refine .loop (fun k T st' => ∃ i : Nat, i ≤ s.F.length ∧ k = s.F.length - i ∧ st' = st ∧ T.n = 48 ∧ T.get 0 = .ptr d 0 ∧ T.get 1 = str n ∧ T.get 6 = i64 i ∧ pos n s.F = i + pos n (s.F.drop i)) s.F.length ⟨0, by omega, rfl, rfl, hn, h0, h1, h6, by simp⟩ fun k T st' hI => ?_
  obtain ⟨i, hi, rfl, rfl, hn, h0, h1, h6, hp⟩ := hI
  have hT := conz (P := fun p => T.get p.1 = p.2) (p := (0, .ptr d 0)) h0 (conz (p := (1, str n)) h1 (one (p := (6, i64 i)) h6))
  have o1 : obL st' 113 (.ptr d 0) fv := ⟨hr.load, rfl⟩
  cases hf : s.F[i]? with
  | none =>
    have hl : s.F.length ≤ i := List.getElem?_eq_none_iff.1 hf
    have hp' : pos n s.F = i := by rw [hp, List.drop_eq_nil_of_le hl]; rfl
    rcases hr.fv with ⟨h2, rfl⟩ | ⟨_, f, fl, rfl, h3⟩
    · refine (any_run (G := GA) (at_endN d i n st') (by simp only [Ob.ok_cons, Ob.ok_nil, and_true]; exact ⟨o1, lt_F (by omega)⟩) hn hT).mono fun e T' st2 ⟨he, hn', hF, hst⟩ => ?_
      subst he; subst hst
      simp only [GA, List.cons.injEq, and_true] at hF
      exact ⟨rfl, hn', rfl, hF.1, hF.2.1, by rw [hp']; exact hF.2.2.2.2⟩
    · refine (any_run (G := GA) (at_end d f s.F.length i fl n st') (by simp only [Ob.ok_cons, Ob.ok_nil, and_true]; exact ⟨o1, lt_F (by omega)⟩) hn hT).mono fun e T' st2 ⟨he, hn', hF, hst⟩ => ?_
      subst he; subst hst
      simp only [GA, List.cons.injEq, and_true] at hF
      exact ⟨rfl, hn', rfl, hF.1, hF.2.1, by rw [hp']; exact hF.2.2.2.2⟩
  | some g =>
    obtain ⟨f, fl, rfl, h3⟩ := hr.fv.of hf
    have hl : i < s.F.length := (List.getElem?_eq_some_iff.1 hf).1
    have o2 : obL st' 9 (.ptr f (0 + i * 3 + 0)) (str g.name) := ⟨load_row h3 (p9 (by simpa using (cells_at _ _ _ hf).1)), rfl⟩
    have hd : pos n (s.F.drop i) = if ltS g.name n then pos n (s.F.drop (i + 1)) + 1 else 0 := by rw [drop_at hf]; rfl
    cases hlt : ltS g.name n with
    | true =>
      rw [hlt, if_pos rfl] at hd
      refine (any_run (G := GA) (at_go d f s.F.length i (i + 1) fl n g.name st') (by simp only [Ob.ok_cons, Ob.ok_nil, and_true]; exact ⟨o1, lt_T (by omega), o1, by omega, o2, ob_T hlt, by rw [addN_eq _ _ (by omega)]; rfl⟩) hn hT).mono fun e T' st2 ⟨he, hn', hF, hst⟩ => ?_
      subst he; subst hst
      simp only [GA, List.cons.injEq, and_true] at hF
      exact ⟨s.F.length - (i + 1), by omega, i + 1, by omega, rfl, rfl, hn', hF.1, hF.2.1, hF.2.2.2.2, by omega⟩
    | false =>
      rw [hlt, if_neg (by decide)] at hd
      refine (any_run (G := GA) (at_stop d f s.F.length i fl n g.name st') (by simp only [Ob.ok_cons, Ob.ok_nil, and_true]; exact ⟨o1, lt_T (by omega), o1, by omega, o2, ob_F hlt⟩) hn hT).mono fun e T' st2 ⟨he, hn', hF, hst⟩ => ?_
      subst he; subst hst
      simp only [GA, List.cons.injEq, and_true] at hF
      exact ⟨rfl, hn', rfl, hF.1, hF.2.1, by rw [hp, hd]; exact hF.2.2.2.2⟩
theorem at_ok {d : Nat} {fv : AV} {s : RS} {st : St} (hr : RD st d fv s) (hw : st.wf) (hsz : s.F.length ≤ 1000000) (n : ByteArray) : obC 70 [.ptr d 0, str n] st (.tup [i64 (pos n s.F), bo (hit n s.F)]) st := by
  refine ACalls.body (E := E0) hE Try.func70 body70 ?_
  refine .seq ((any_run (G := GA) (at_0 d n st) Ob.ok_nil rfl (conz rfl (one rfl))).mono fun e T1 s1 ⟨he, n1, F1, hst⟩ => ?_)
  subst he; subst hst
  simp only [GA, List.cons.injEq] at F1
  simp only [thenA]
  refine .seq ((any_run (G := GA) (at_1 d n s1) Ob.ok_nil n1 (conz F1.1 (one F1.2.1))).mono fun e T2 s2 ⟨he, n2, F2, hst⟩ => ?_)
  subst he; subst hst
  simp only [GA, List.cons.injEq, and_true] at F2
  simp only [thenA]
  refine .seq (.block ((at_loop hr hsz n2 F2.1 F2.2.1 F2.2.2.2.2).mono fun e T3 s3 ⟨he, n3, hst, h0, h1, h6⟩ => ?_))
  subst he; subst hst
  simp only [blockA, if_true, thenA]
  have hT := conz (P := fun p => T3.get p.1 = p.2) (p := (0, .ptr d 0)) h0 (conz (p := (1, str n)) h1 (one (p := (6, i64 (pos n s.F))) h6))
  have hd := hw _ _ hr.row
  have fin : ∀ {T : Tm}, T.get 4 = i64 (pos n s.F) → T.get 5 = bo (hit n s.F) → AW Try.prog .ret (endA E0 Try.f70 fun r s' => r = .tup [i64 (pos n s.F), bo (hit n s.F)] ∧ s' = s3) T s3 := fun {T} h4 h5 =>
    .ret ⟨[T.get 4, T.get 5], rfl, by simp only [oneOrTup]; rw [h4, h5], rfl⟩
  cases hf : s.F[pos n s.F]? with
  | none =>
    have hh : hit n s.F = false := by unfold hit; rw [hf]
    have hl : s.F.length ≤ pos n s.F := List.getElem?_eq_none_iff.1 hf
    have fin' : ∀ {T : Tm}, T.get 4 = i64 (pos n s.F) → T.get 5 = FF → AW Try.prog .ret (endA E0 Try.f70 fun r s' => r = .tup [i64 (pos n s.F), bo (hit n s.F)] ∧ s' = s3) T s3 := fun h4 h5 => fin h4 (by rw [hh]; exact h5)
    rcases hr.fv with ⟨h2, rfl⟩ | ⟨_, f, fl, rfl, h3⟩
    · refine .seq ((any_run (G := GA) (at_outN d (pos n s.F) n s3) (by simp only [Ob.ok_cons, Ob.ok_nil, and_true]; exact ⟨by simpa using hd, ⟨by simp, hr.load⟩, ltP_F (by omega)⟩) n3 hT).mono fun e T' st2 ⟨he, hn', hF, hst⟩ => ?_)
      subst he; subst hst
      simp only [GA, List.cons.injEq, and_true] at hF
      exact fin' hF.2.2.1 hF.2.2.2.1
    · refine .seq ((any_run (G := GA) (at_out d f s.F.length (pos n s.F) fl n s3) (by simp only [Ob.ok_cons, Ob.ok_nil, and_true]; exact ⟨by simpa using hd, ⟨by simp, hr.load⟩, ltP_F hl⟩) n3 hT).mono fun e T' st2 ⟨he, hn', hF, hst⟩ => ?_)
      subst he; subst hst
      simp only [GA, List.cons.injEq, and_true] at hF
      exact fin' hF.2.2.1 hF.2.2.2.1
  | some g =>
    have hh : hit n s.F = eqS g.name n := by unfold hit; rw [hf]
    obtain ⟨f, fl, rfl, h3⟩ := hr.fv.of hf
    have hl := (List.getElem?_eq_some_iff.1 hf).1
    have hfn := hw _ _ h3
    refine .seq ((any_run (G := GA) (at_in d f s.F.length (pos n s.F) (pos n s.F * 3) fl (eqS g.name n) n g.name s3) (by
      simp only [Ob.ok_cons, Ob.ok_nil, and_true]
      exact ⟨by simp only [List.mem_cons, List.not_mem_nil, or_false]; rintro k (rfl | rfl | rfl) <;> assumption, ⟨by simp, hr.load⟩, ltP_T hl, ⟨by simp, hr.load⟩, iA113 hl, ⟨by simp, load_row h3 (p9 (cells_at _ _ _ hf).1)⟩, eqP_ok _ _⟩) n3 hT).mono fun e T' st2 ⟨he, hn', hF, hst⟩ => ?_)
    subst he; subst hst
    simp only [GA, List.cons.injEq, and_true] at hF
    exact fin hF.2.2.1 (by rw [hh]; exact hF.2.2.2.1)
end
section
set_option maxRecDepth 100000
def sitesR : Nat → List Nat
  | 36 => [5]
  | 44 => [5000, 9]
  | 45 => [5000, 9]
  | 71 => [2006, 7, 2011, 12, 5000, 2019, 20, 2026]
  | 73 => [2011, 6069, 6070]
  | 75 => [2006]
  | 72 => [2003, 2010, 6070, 2021, 8000, 2026, 2028, 2029, 2031, 2032, 2033, 2039, 2041, 2042, 5000]
  | _ => []
noncomputable def rfEv (f : Nat) (args : List AV) (st : St) (o : List Or) := (evCallS Try.prog E0 noOv sitesR 100000 f args st o).map fun q => (q.1, q.2.1, q.2.2.2)
section
variable (d f len i j p : Nat) (fl b : Bool) (n nm : ByteArray) (q fu fu2 : Int) (F v w a c o1 o2 o3 c2 bs lv ov : AV) (st s1 s2 s3 s4 s5 s6 : St)
theorem rnewBad : rfEv 36 [i64 q] st [TT] = some (.tup [.nilp, i64 1], st, [bo (ltN q 0) = TT]) := by kernel_rfl
theorem rnewOk : rfEv 36 [i64 q] st [FF] = some (.tup [.ptr st.next 0, i64 0], st.push (.row [.nils, i64 q, i64 0, FF] 115), [bo (ltN q 0) = FF]) := by kernel_rfl
theorem rquF : rfEv 44 [.ptr d 0, i64 q] st [.eff .undef (fun _ => s1), FF] = some (.tup [], s1, [storeA E0 st 3 (.ptr d 1) (i64 q) = some s1, bo (ltN q 0) = FF]) := by kernel_rfl
theorem rquT : rfEv 44 [.ptr d 0, i64 q] st [.eff .undef (fun _ => s1), TT, .eff .undef (fun _ => s2)] = some (.tup [], s2, [storeA E0 st 3 (.ptr d 1) (i64 q) = some s1, bo (ltN q 0) = TT, storeA E0 s1 3 (.ptr d 1) (i64 0) = some s2]) := by kernel_rfl
theorem rfuF : rfEv 45 [.ptr d 0, i64 q] st [.eff .undef (fun _ => s1), FF] = some (.tup [], s1, [storeA E0 st 3 (.ptr d 2) (i64 q) = some s1, bo (ltN q 0) = FF]) := by kernel_rfl
theorem rfuT : rfEv 45 [.ptr d 0, i64 q] st [.eff .undef (fun _ => s1), TT, .eff .undef (fun _ => s2)] = some (.tup [], s2, [storeA E0 st 3 (.ptr d 2) (i64 q) = some s1, bo (ltN q 0) = TT, storeA E0 s1 3 (.ptr d 2) (i64 0) = some s2]) := by kernel_rfl
theorem go0 : rfEv 71 [.ptr d 0] st [.eff (i64 fu) id, TT] = some (FF, st, [obL st 3 (.ptr d 2) (i64 fu), bo (eqN fu 0) = TT]) := by kernel_rfl
theorem go1 : rfEv 71 [.ptr d 0] st [.eff (i64 fu) id, FF, .eff (i64 fu) id, i64 fu2, .eff .undef (fun _ => s1), .eff (i64 fu2) id, bo b, .eff .undef (fun _ => s2), .eff (bo b) id] = some (bo b, s2,
  [obL st 3 (.ptr d 2) (i64 fu), bo (eqN fu 0) = FF, obL st 3 (.ptr d 2) (i64 fu), i64 (subN fu 1) = i64 fu2, storeA E0 st 3 (.ptr d 2) (i64 fu2) = some s1, obL s1 3 (.ptr d 2) (i64 fu2), bo (eqN fu2 0) = bo b, storeA E0 s1 4 (.ptr d 3) (bo b) = some s2, obL s2 4 (.ptr d 3) (bo b)]) := by kernel_rfl
theorem thOff : rfEv 73 [.ptr d 0, str n] st [.eff TT id] = some (.tup [i64 0, i64 8], st, [obL st 4 (.ptr d 3) TT]) := by kernel_rfl
theorem thBad : rfEv 73 [.ptr d 0, str n] st [.eff FF id, .eff FF id] = some (.tup [i64 0, i64 1], st, [obL st 4 (.ptr d 3) FF, obC 69 [str n] st FF st]) := by kernel_rfl
theorem thMiss : rfEv 73 [.ptr d 0, str n] st [.eff FF id, .eff TT id, .eff (.tup [i64 i, FF]) id] = some (.tup [i64 0, i64 6], st, [obL st 4 (.ptr d 3) FF, obC 69 [str n] st TT st, obC 70 [.ptr d 0, str n] st (.tup [i64 i, FF]) st]) := by kernel_rfl
theorem thHit : rfEv 73 [.ptr d 0, str n] st [.eff FF id, .eff TT id, .eff (.tup [i64 i, TT]) id] = some (.tup [i64 i, i64 0], st, [obL st 4 (.ptr d 3) FF, obC 69 [str n] st TT st, obC 70 [.ptr d 0, str n] st (.tup [i64 i, TT]) st]) := by kernel_rfl
theorem ownRun : rfEv 75 [v] st [.eff a (fun _ => s1)] = some (a, s1, [appendA E0 st 28 28 .nils v = some (a, s1)]) := by kernel_rfl
theorem putHit : rfEv 72 [.ptr d 0, v] st [.eff (.ptr p 0) (fun _ => s1), .eff (str n) id, .eff (.tup [i64 i, TT]) id, .eff (.sl f 3 0 len fl) id, .eff a id, .eff (.ptr f j) id, .eff .undef (fun _ => s2)] = some (.tup [], s2,
  [boxA st 121 v = some (.ptr p 0, s1), obL s1 9 (.ptr p 0) (str n), obC 70 [.ptr d 0, str n] s1 (.tup [i64 i, TT]) s1, ∀ k ∈ [d, p], k < s1.next, [d, p].contains d = true ∧ loadA E0 s1 113 (.ptr d 0) = some (.sl f 3 0 len fl), [d, p].contains p = true ∧ loadA E0 s1 121 (.ptr p 0) = some a, indexAddrA E0 113 (.sl f 3 0 len fl) (i64 i) = some (.ptr f j), (false = true → [d, p].all (fun k => (s1.get k).isSome) = true), storeA E0 s1 121 (.ptr f j) a = some s2]) := by kernel_rfl
theorem putNew : rfEv 72 [.ptr d 0, v] st [.eff (.ptr p 0) (fun _ => s1), .eff (str n) id, .eff (.tup [i64 i, FF]) id, .eff F id, .eff c id, .eff o1 (fun _ => s2), .eff a id, .eff bs (fun _ => s3), .eff o2 (fun _ => s4), .eff F id, .eff c2 id, .eff o3 (fun _ => s5), .eff .undef (fun _ => s6)] = some (.tup [], s6,
  [boxA st 121 v = some (.ptr p 0, s1), obL s1 9 (.ptr p 0) (str n), obC 70 [.ptr d 0, str n] s1 (.tup [i64 i, FF]) s1, obL s1 113 (.ptr d 0) F, sliceA E0 s1 113 F none (some (i64 i)) none = some c ∧ s1 = s1, appendA E0 s1 113 113 .nils c = some (o1, s2), obL s2 121 (.ptr p 0) a, buildSliceA E0 s2 113 1 [(0, a)] = some (bs, s3), appendA E0 s3 113 113 o1 bs = some (o2, s4),
   obL s4 113 (.ptr d 0) F, sliceA E0 s4 113 F (some (i64 i)) none none = some c2 ∧ s4 = s4, appendA E0 s4 113 113 o2 c2 = some (o3, s5), storeA E0 s5 113 (.ptr d 0) o3 = some s6]) := by kernel_rfl
noncomputable def usP (i : Nat) : Code := match Try.f74.body with
  | some (.seq r0 (.seq r1 (.seq (.seq r2 (.block 0 (.loop b))) (.seq r6 _)))) => [r0, r1, r2, b, r6].getD i .skip
  | _ => .skip
theorem body74 : Try.f74.body = some (.seq (usP 0) (.seq (usP 1) (.seq (.seq (usP 2) (.block 0 (.loop (usP 3)))) (.seq (usP 4) .ret)))) := by kernel_rfl
noncomputable def usEv (i : Nat) (l : List (Nat × AV)) (st : St) (x : List Or) := (evS Try.prog E0 noOv noS 100000 [2009, 11, 2020, 2029, 2033, 2034, 13, 8000] (usP i) ⟨36, l, []⟩ st x).map fun q => (q.1, q.2.1.n, [q.2.1.get 0, q.2.1.get 2, q.2.1.get 3, q.2.1.get 4], q.2.2.1, q.2.2.2.2)
abbrev usT (d : Nat) (u : Int) (i : Nat) : List (Nat × AV) := [(0, .ptr d 0), (3, i64 u), (4, i64 i)]
theorem us_0 : usEv 0 [(0, .ptr d 0)] st [] = some (.normal, 36, [.ptr d 0, i64 0, .undef, .undef], st, []) := by kernel_rfl
theorem us_1 : usEv 1 [(0, .ptr d 0)] st [] = some (.normal, 36, [.ptr d 0, .undef, i64 0, .undef], st, []) := by kernel_rfl
theorem us_2 : usEv 2 [(0, .ptr d 0), (3, i64 q)] st [] = some (.normal, 36, [.ptr d 0, .undef, i64 q, i64 0], st, []) := by kernel_rfl
theorem us_6 : usEv 4 [(3, i64 q)] st [] = some (.normal, 36, [.undef, i64 q, i64 q, .undef], st, []) := by kernel_rfl
theorem us_endN : usEv 3 (usT d q i) st [.eff .nils id, FF] = some (.exit 0, 36, [.ptr d 0, .undef, i64 q, i64 i], st, [obL st 113 (.ptr d 0) .nils, bo (ltN i 0) = FF]) := by kernel_rfl
theorem us_end : usEv 3 (usT d q i) st [.eff (.sl f 3 0 len fl) id, FF] = some (.exit 0, 36, [.ptr d 0, .undef, i64 q, i64 i], st, [obL st 113 (.ptr d 0) (.sl f 3 0 len fl), bo (ltN i len) = FF]) := by kernel_rfl
def addP (a b : Int) (v : AV) : Prop := binA E0 .add 3 (i64 a) (i64 b) = some v
def usO (d f len i j : Nat) (fl : Bool) (lv ov : AV) (x y : Int) (q z u : Int) (k : Nat) (st : St) : Ob :=
  [obL st 113 (.ptr d 0) (.sl f 3 0 len fl), bo (ltN i len) = TT, ∀ k ∈ [d, f, d, f], k < st.next, [d, f, d, f].contains d = true ∧ loadA E0 st 113 (.ptr d 0) = some (.sl f 3 0 len fl), indexAddrA E0 113 (.sl f 3 0 len fl) (i64 i) = some (.ptr f j), [d, f, d, f].contains f = true ∧ loadA E0 st 28 (.ptr f (j + 1)) = some lv, [d, f, d, f].contains d = true ∧ loadA E0 st 113 (.ptr d 0) = some (.sl f 3 0 len fl), indexAddrA E0 113 (.sl f 3 0 len fl) (i64 i) = some (.ptr f j), [d, f, d, f].contains f = true ∧ loadA E0 st 28 (.ptr f (j + 2)) = some ov, addP x y (i64 z), addP q z (i64 u), i64 (addN i 1) = i64 k]
section
variable (x y k : Nat) (g1 g2 : Bool) (z u : Int) (c1 c2 : List AV)
def usX (F lv ov pf : AV) (z u : Int) (k : Nat) : List Or := [.eff F id, TT, .eff F id, .eff pf id, .eff lv id, .eff F id, .eff pf id, .eff ov id, .eff (i64 z) id, .eff (i64 u) id, i64 k]
theorem us_II : usEv 3 (usT d q i) st (usX (.sl f 3 0 len fl) (.imm 1 x g1 c1) (.imm 1 y g2 c2) (.ptr f j) z u k) = some (.normal, 36, [.ptr d 0, .undef, i64 u, i64 k], st, usO d f len i j fl (.imm 1 x g1 c1) (.imm 1 y g2 c2) x y q z u k st) := by kernel_rfl
theorem us_NI : usEv 3 (usT d q i) st (usX (.sl f 3 0 len fl) .nils (.imm 1 y g2 c2) (.ptr f j) z u k) = some (.normal, 36, [.ptr d 0, .undef, i64 u, i64 k], st, usO d f len i j fl .nils (.imm 1 y g2 c2) 0 y q z u k st) := by kernel_rfl
theorem us_IN : usEv 3 (usT d q i) st (usX (.sl f 3 0 len fl) (.imm 1 x g1 c1) .nils (.ptr f j) z u k) = some (.normal, 36, [.ptr d 0, .undef, i64 u, i64 k], st, usO d f len i j fl (.imm 1 x g1 c1) .nils x 0 q z u k st) := by kernel_rfl
theorem us_NN : usEv 3 (usT d q i) st (usX (.sl f 3 0 len fl) .nils .nils (.ptr f j) z u k) = some (.normal, 36, [.ptr d 0, .undef, i64 u, i64 k], st, usO d f len i j fl .nils .nils 0 0 q z u k st) := by kernel_rfl
end
noncomputable def cuP (i : Nat) : Code := match Try.f76.body with
  | some (.seq r0 (.seq (.seq r1 (.block 0 (.loop b))) r6)) => [r0, r1, b, r6].getD i .skip
  | _ => .skip
theorem body76 : Try.f76.body = some (.seq (cuP 0) (.seq (.seq (cuP 1) (.block 0 (.loop (cuP 2)))) (cuP 3))) := by kernel_rfl
noncomputable def cuEv (i : Nat) (l : List (Nat × AV)) (st : St) (x : List Or) := (evS Try.prog E0 noOv noS 100000 [2010, 12, 17, 2022, 2024, 2025, 2026, 2027, 14, 5000] (cuP i) ⟨32, l, []⟩ st x).map fun q => (q.1, q.2.1.n, [q.2.1.get 0, q.2.1.get 1, q.2.1.get 4, q.2.1.get 5], q.2.2.1, q.2.2.2.2)
abbrev cuT (d k : Nat) (o : AV) (i : Nat) : List (Nat × AV) := [(0, .ptr d 0), (1, i64 k), (4, o), (5, i64 i)]
variable (k : Nat)
theorem cu_0 : cuEv 0 [(0, .ptr d 0), (1, i64 k)] st [] = some (.normal, 32, [.ptr d 0, i64 k, .nils, .undef], st, []) := by kernel_rfl
theorem cu_1 : cuEv 1 [(0, .ptr d 0), (1, i64 k), (4, .nils)] st [] = some (.normal, 32, [.ptr d 0, i64 k, .nils, i64 0], st, []) := by kernel_rfl
theorem cu_endN : cuEv 2 (cuT d k v i) st [.eff .nils id, FF] = some (.exit 0, 32, [.ptr d 0, i64 k, v, i64 i], st, [obL st 113 (.ptr d 0) .nils, bo (ltN i 0) = FF]) := by kernel_rfl
theorem cu_end : cuEv 2 (cuT d k v i) st [.eff (.sl f 3 0 len fl) id, FF] = some (.exit 0, 32, [.ptr d 0, i64 k, v, i64 i], st, [obL st 113 (.ptr d 0) (.sl f 3 0 len fl), bo (ltN i len) = FF]) := by kernel_rfl
theorem cu_skip : cuEv 2 (cuT d k v i) st [.eff (.sl f 3 0 len fl) id, TT, FF, i64 j] = some (.normal, 32, [.ptr d 0, i64 k, v, i64 j], st, [obL st 113 (.ptr d 0) (.sl f 3 0 len fl), bo (ltN i len) = TT, bo (neN i k) = FF, i64 (addN i 1) = i64 j]) := by kernel_rfl
theorem cu_take : cuEv 2 (cuT d k v i) st [.eff (.sl f 3 0 len fl) id, TT, TT, .eff (.sl f 3 0 len fl) id, .eff a id, .eff bs (fun _ => s1), .eff w (fun _ => s2), i64 j] = some (.normal, 32, [.ptr d 0, i64 k, w, i64 j], s2, [obL st 113 (.ptr d 0) (.sl f 3 0 len fl), bo (ltN i len) = TT, bo (neN i k) = TT, obL st 113 (.ptr d 0) (.sl f 3 0 len fl), 0 ≤ (i : Int) ∧ (i : Int) < len, obL st 121 (.ptr f (0 + i * 3)) a, buildSliceA E0 st 113 1 [(0, a)] = some (bs, s1), appendA E0 s1 113 113 v bs = some (w, s2), i64 (addN i 1) = i64 j]) := by kernel_rfl
theorem cu_3 : cuEv 3 [(0, .ptr d 0), (4, v)] st [.eff .undef (fun _ => s1)] = some (.normal, 32, [.ptr d 0, .undef, v, .undef], s1, [storeA E0 st 113 (.ptr d 0) v = some s1]) := by kernel_rfl
end
end
section
set_option maxRecDepth 4000
theorem rf_run {f : Nat} {args : List AV} {a : AV} {st st' : St} {o : List Or} {ob : Ob} (h : rfEv f args st o = some (a, st', ob)) (hob : ob.ok) : obC f args st a st' := by
  obtain ⟨⟨a1, s1, x1, o1⟩, h1, h2⟩ := Option.map_eq_some_iff.1 h
  simp only [Prod.mk.injEq] at h2
  obtain ⟨rfl, rfl, rfl⟩ := h2
  exact ACalls.run hE (ov := noOv) noOv_ok h1 hob
/-- the slice's objects -/
def fid : AV → List Nat
  | .sl f _ _ _ _ => [f]
  | _ => []
theorem FV.keep {st st' : St} {fv : AV} {F : List RF} (h : FV st fv F) (hk : ∀ i ∈ fid fv, ∀ o, st.get i = some o → st'.get i = some o) : FV st' fv F := by
  rcases h with h | ⟨h, f, fl, rfl, hg⟩
  · exact .inl h
  · exact .inr ⟨h, f, fl, rfl, hk f (by simp [fid]) _ hg⟩
theorem RD.rest {st st' : St} {d : Nat} {fv : AV} {s : RS} (h : RD st d fv s) {S : List Nat} (hr : Rest st st' S) (h1 : d ∉ S) (h2 : ∀ i ∈ fid fv, i ∉ S) : RD st' d fv s :=
  ⟨hr.keep _ _ h1 h.row, h.fv.keep fun i hi _ ho => hr.keep _ _ (h2 i hi) ho⟩
theorem row_ne {st : St} {a b : Nat} {v w : List AV} {t u : Nat} (h1 : st.get a = some (.row v t)) (h2 : st.get b = some (.row w u)) (h : t ≠ u) : a ≠ b := fun e => by
  rw [e, h2] at h1
  simp only [Option.some.injEq, AObj.row.injEq] at h1
  exact h h1.2.symm
theorem RD.ne {st : St} {d : Nat} {fv : AV} {s : RS} (h : RD st d fv s) : ∀ i ∈ fid fv, i ≠ d := fun i hi => by
  rcases h.fv with ⟨_, h⟩ | ⟨_, f, fl, e, hg⟩
  · rw [h] at hi; cases hi
  · rw [e] at hi
    obtain rfl := List.mem_singleton.1 hi
    exact row_ne hg h.row (by decide)
/-- the disk's row is written -/
theorem RD.set {st : St} {d : Nat} {fv : AV} {s s' : RS} (h : RD st d fv s) (hF : s'.F = s.F) : RD (st.set d (.row [fv, i64 s'.q, i64 s'.fu, bo s'.off] 115)) d fv s' :=
  ⟨by rw [St.get_set, if_pos rfl], by rw [hF]; exact h.fv.keep fun i hi o ho => by rw [St.get_set, if_neg (h.ne i hi)]; exact ho⟩
def rBurnt (s : RS) : RS := { s with fu := burnN s.fu, off := burnB s.fu }
theorem goes_ok {st : St} {d : Nat} {fv : AV} {s : RS} (hp : RD st d fv s) (hw : st.wf) (hl : st.lock = []) (hoff : s.off = false) (hf : 0 ≤ s.fu ∧ s.fu ≤ 9223372036854775807) :
    ∃ st', obC 71 [.ptr d 0] st (bo (burnB s.fu)) st' ∧ RD st' d fv (rBurnt s) ∧ Rest st st' [d] := by
  have hd := hw _ _ hp.row
  have o1 : obL st 3 (.ptr d 2) (i64 s.fu) := ⟨load_row hp.row (p3 rfl), rfl⟩
  obtain ⟨F, q, fu, off⟩ := s
  obtain rfl : off = false := hoff
  by_cases h0 : fu = 0
  · subst h0
    refine ⟨st, rf_run (go0 d 0 st) ?_, hp, .refl hw _⟩
    simp only [Ob.ok_cons, Ob.ok_nil, and_true]
    exact ⟨o1, ob_T rfl⟩
  · have hs1 := storeN hp.row hl (fu - 1)
    have g1 : (st.set d (.row [fv, i64 q, i64 (fu - 1), bo false] 115)).get d = some (.row [fv, i64 q, i64 (fu - 1), bo false] 115) := by rw [St.get_set, if_pos rfl]
    have hs2 := storeB g1 (by simpa using hl) (burnB fu)
    have h1 : RD (st.set d (.row [fv, i64 q, i64 (fu - 1), bo false] 115)) d fv ⟨F, q, fu - 1, false⟩ := hp.set (s' := ⟨F, q, fu - 1, false⟩) rfl
    have h2 := h1.set (s' := rBurnt ⟨F, q, fu, false⟩) rfl
    have e : burnN fu = fu - 1 := by rw [burnN, if_neg h0]
    refine ⟨_, rf_run (go1 d (burnB fu) fu (fu - 1) st (st.set d (.row [fv, i64 q, i64 (fu - 1), bo false] 115)) ((st.set d (.row [fv, i64 q, i64 (fu - 1), bo false] 115)).set d (.row [fv, i64 q, i64 (fu - 1), bo (burnB fu)] 115))) ?_, by simpa only [rBurnt, e] using h2, (Rest.set hw hd _ (by simp)).trans (Rest.set (set_wf hw hd _) hd _ (by simp))⟩
    simp only [Ob.ok_cons, Ob.ok_nil, and_true]
    simp only at hf
    refine ⟨o1, ob_F (by rw [eqN_eq, beq_eq_false_iff_ne]; exact h0), o1, by rw [subN_eq _ _ (by omega)], hs1, ⟨load_row g1 (p3 rfl), rfl⟩, ?_, hs2, ⟨load_row (by rw [St.get_set, if_pos rfl]) (p4 rfl), rfl⟩⟩
    rw [eqN_eq]
    refine congrArg bo ?_
    unfold burnB
    rw [Bool.eq_iff_iff, beq_iff_eq, beq_iff_eq]
    omega
/-- what there answers -/
def thE (s : RS) (n : ByteArray) : Int := if s.off = true then 8 else if ¬ mayS n then 1 else if hit n s.F = false then 6 else 0
theorem there_ok {st : St} {d : Nat} {fv : AV} {s : RS} (hp : RD st d fv s) (hw : st.wf) (hsz : s.F.length ≤ 1000000) {n : ByteArray} (hn : n.size ≤ 1000000000000) :
    obC 73 [.ptr d 0, str n] st (.tup [i64 (if thE s n = 0 then pos n s.F else 0), i64 (thE s n)]) st := by
  have o1 : obL st 4 (.ptr d 3) (bo s.off) := ⟨load_row hp.row (p4 rfl), rfl⟩
  have o2 := refMay_ok n hn st
  have o3 := at_ok hp hw hsz n
  cases hoff : s.off with
  | true =>
    have e : thE s n = 8 := by unfold thE; rw [if_pos hoff]
    rw [e]
    exact rf_run (thOff d n st) (by simp only [Ob.ok_cons, Ob.ok_nil, and_true]; rw [hoff] at o1; exact o1)
  | false =>
    rw [hoff] at o1
    by_cases hm : mayS n
    · rw [decide_eq_true hm] at o2
      cases hh : hit n s.F with
      | false =>
        have e : thE s n = 6 := by unfold thE; rw [if_neg (by rw [hoff]; decide), if_neg (fun h => h hm), if_pos hh]
        rw [e]
        rw [hh] at o3
        exact rf_run (thMiss d (pos n s.F) n st) (by simp only [Ob.ok_cons, Ob.ok_nil, and_true]; exact ⟨o1, o2, o3⟩)
      | true =>
        have e : thE s n = 0 := by unfold thE; rw [if_neg (by rw [hoff]; decide), if_neg (fun h => h hm), if_neg (by rw [hh]; decide)]
        rw [e, if_pos rfl]
        rw [hh] at o3
        exact rf_run (thHit d (pos n s.F) n st) (by simp only [Ob.ok_cons, Ob.ok_nil, and_true]; exact ⟨o1, o2, o3⟩)
    · rw [decide_eq_false hm] at o2
      have e : thE s n = 1 := by unfold thE; rw [if_neg (by rw [hoff]; decide), if_pos hm]
      rw [e]
      exact rf_run (thBad d n st) (by simp only [Ob.ok_cons, Ob.ok_nil, and_true]; exact ⟨o1, o2⟩)
theorem rnew_ok {st : St} (hw : st.wf) (q : Int) : (q < 0 → obC 36 [i64 q] st (.tup [.nilp, i64 1]) st) ∧ (0 ≤ q → ∃ st', obC 36 [i64 q] st (.tup [.ptr st.next 0, i64 0]) st' ∧ RD st' st.next .nils ⟨[], q, 0, false⟩ ∧ Rest st st' []) :=
  ⟨fun h => rf_run (rnewBad q st) (by simp only [Ob.ok_cons, Ob.ok_nil, and_true]; exact lt_T h), fun h => ⟨_, rf_run (rnewOk q st) (by simp only [Ob.ok_cons, Ob.ok_nil, and_true]; exact lt_F h), ⟨by rw [St.get_push, if_pos rfl]; rfl, .inl ⟨rfl, rfl⟩⟩, Rest.push hw _ _⟩⟩
theorem rquota_ok {st : St} {d : Nat} {fv : AV} {s : RS} (hp : RD st d fv s) (hw : st.wf) (hl : st.lock = []) (k : Int) : ∃ st', obC 44 [.ptr d 0, i64 k] st (.tup []) st' ∧ RD st' d fv { s with q := nn k } ∧ Rest st st' [d] := by
  have hd := hw _ _ hp.row
  have hs1 := storeQ hp.row hl k
  have h1 : RD (st.set d (.row [fv, i64 k, i64 s.fu, bo s.off] 115)) d fv { s with q := k } := hp.set (s' := { s with q := k }) rfl
  have R1 := Rest.set hw hd (.row [fv, i64 k, i64 s.fu, bo s.off] 115) (S := [d]) (by simp)
  by_cases h : k < 0
  · have hs2 := storeQ h1.row (by simpa using hl) 0
    have e : nn k = 0 := by unfold nn; rw [if_pos h]
    rw [e]
    exact ⟨_, rf_run (rquT d k st _ _) (by simp only [Ob.ok_cons, Ob.ok_nil, and_true]; exact ⟨hs1, lt_T h, hs2⟩), h1.set (s' := { s with q := 0 }) rfl, R1.trans (Rest.set R1.wf hd _ (by simp))⟩
  · have e : nn k = k := by unfold nn; rw [if_neg h]
    rw [e]
    exact ⟨_, rf_run (rquF d k st _) (by simp only [Ob.ok_cons, Ob.ok_nil, and_true]; exact ⟨hs1, lt_F (by omega)⟩), h1, R1⟩
theorem rfuse_ok {st : St} {d : Nat} {fv : AV} {s : RS} (hp : RD st d fv s) (hw : st.wf) (hl : st.lock = []) (k : Int) : ∃ st', obC 45 [.ptr d 0, i64 k] st (.tup []) st' ∧ RD st' d fv { s with fu := nn k } ∧ Rest st st' [d] := by
  have hd := hw _ _ hp.row
  have hs1 := storeN hp.row hl k
  have h1 : RD (st.set d (.row [fv, i64 s.q, i64 k, bo s.off] 115)) d fv { s with fu := k } := hp.set (s' := { s with fu := k }) rfl
  have R1 := Rest.set hw hd (.row [fv, i64 s.q, i64 k, bo s.off] 115) (S := [d]) (by simp)
  by_cases h : k < 0
  · have hs2 := storeN h1.row (by simpa using hl) 0
    have e : nn k = 0 := by unfold nn; rw [if_pos h]
    rw [e]
    exact ⟨_, rf_run (rfuT d k st _ _) (by simp only [Ob.ok_cons, Ob.ok_nil, and_true]; exact ⟨hs1, lt_T h, hs2⟩), h1.set (s' := { s with fu := 0 }) rfl, R1.trans (Rest.set R1.wf hd _ (by simp))⟩
  · have e : nn k = k := by unfold nn; rw [if_neg h]
    rw [e]
    exact ⟨_, rf_run (rfuF d k st _) (by simp only [Ob.ok_cons, Ob.ok_nil, and_true]; exact ⟨hs1, lt_F (by omega)⟩), h1, R1⟩
end
section
set_option maxRecDepth 4000
/-- a slice that is bytes, or nil -/
def BV (v : AV) (bs : List Int) : Prop := (bs = [] ∧ v = .nils) ∨ ∃ fl, v = .imm 1 bs.length fl (bs.map u8)
theorem BV.cells {v : AV} {bs : List Int} (h : BV v bs) (st : St) : sliceCells st v = some (bs.length, bs.map u8) := by
  rcases h with ⟨h1, h2⟩ | ⟨fl, h2⟩
  · rw [h2, h1]; rfl
  · rw [h2]; rfl
def RGood (F : List RF) : Prop := ∀ f ∈ F, BV f.lv f.lb ∧ BV f.ov f.ob
def usedR (F : List RF) : Nat := (F.map fun f => f.lb.length + f.ob.length).sum
theorem addP_ok {a b : Int} (h : 0 ≤ a + b ∧ a + b ≤ 9223372036854775807) : addP a b (i64 (a + b)) := by
  have : addP a b (i64 (a + b)) = (some (i64 (addN a b)) = some (i64 (a + b))) := rfl
  rw [this, addN_eq _ _ h]
theorem usedR_take {F : List RF} {i : Nat} {f : RF} (h : F[i]? = some f) : usedR (F.take (i + 1)) = usedR (F.take i) + (f.lb.length + f.ob.length) := by
  obtain ⟨h1, h2⟩ := List.getElem?_eq_some_iff.1 h
  unfold usedR
  rw [List.take_add_one, h]
  simp
theorem usedR_le {F : List RF} (i : Nat) : usedR (F.take i) ≤ usedR F := by
  have : usedR F = usedR (F.take i) + usedR (F.drop i) := by
    unfold usedR
    conv => lhs; rw [← List.take_append_drop i F]
    rw [List.map_append, List.sum_append]
  omega
theorem us_turn {d f len i : Nat} {fl : Bool} {q : Int} {lv ov : AV} {x y : List Int} (hx : BV lv x) (hy : BV ov y) {z u : Int} {k : Nat} {st : St} (hob : (usO d f len i (i * 3) fl lv ov x.length y.length q z u k st).ok) :
    usEv 3 (usT d q i) st (usX (.sl f 3 0 len fl) lv ov (.ptr f (i * 3)) z u k) = some (.normal, 36, [.ptr d 0, .undef, i64 u, i64 k], st, usO d f len i (i * 3) fl lv ov x.length y.length q z u k st) := by
  rcases hx with ⟨rfl, rfl⟩ | ⟨g1, rfl⟩ <;> rcases hy with ⟨rfl, rfl⟩ | ⟨g2, rfl⟩
  · exact us_NN d f len i (i * 3) fl q st k z u
  · exact us_NI d f len i (i * 3) fl q st _ k g2 z u _
  · exact us_IN d f len i (i * 3) fl q st _ k g1 z u _
  · exact us_II d f len i (i * 3) fl q st _ _ k g1 g2 z u _ _
def GU (T : Tm) : List AV := [T.get 0, T.get 2, T.get 3, T.get 4]
theorem p28' {vs : List AV} {off : Nat} {a : AV} (h : vs[off]? = some a) : partA E0 28 vs off = some a := plainT ty28 rfl h
theorem us_loop {d : Nat} {fv : AV} {s : RS} {T : Tm} {st : St} (hr : RD st d fv s) (hw : st.wf) (hg : RGood s.F) (hsz : s.F.length ≤ 1000000) (hu : usedR s.F < 1000000000) (hn : T.n = 36) (h0 : T.get 0 = .ptr d 0) (h3 : T.get 3 = i64 0) (h4 : T.get 4 = i64 0) :
    AW Try.prog (.loop (usP 3)) (fun e T' st' => e = .exit 0 ∧ T'.n = 36 ∧ st' = st ∧ T'.get 3 = i64 (usedR s.F)) T st := by
  refine .loop (fun k T st' => ∃ i : Nat, i ≤ s.F.length ∧ k = s.F.length - i ∧ st' = st ∧ T.n = 36 ∧ T.get 0 = .ptr d 0 ∧ T.get 3 = i64 (usedR (s.F.take i)) ∧ T.get 4 = i64 i) s.F.length ⟨0, by omega, rfl, rfl, hn, h0, h3, h4⟩ fun k T st' hI => ?_
  obtain ⟨i, hi, rfl, rfl, hn, h0, h3, h4⟩ := hI
  have hT := conz (P := fun p => T.get p.1 = p.2) (p := (0, .ptr d 0)) h0 (conz (p := (3, i64 (usedR (s.F.take i)))) h3 (one (p := (4, i64 i)) h4))
  have o1 : obL st' 113 (.ptr d 0) fv := ⟨hr.load, rfl⟩
  have hd := hw _ _ hr.row
  cases hf : s.F[i]? with
  | none =>
    have hl : s.F.length ≤ i := List.getElem?_eq_none_iff.1 hf
    have ht : s.F.take i = s.F := List.take_of_length_le hl
    rcases hr.fv with ⟨h2, rfl⟩ | ⟨_, f, fl, rfl, h3⟩
    · refine (any_run (G := GU) (us_endN d i _ st') (by simp only [Ob.ok_cons, Ob.ok_nil, and_true]; exact ⟨o1, lt_F (by omega)⟩) hn hT).mono fun e T' st2 ⟨he, hn', hF, hst⟩ => ?_
      subst he; subst hst
      simp only [GU, List.cons.injEq, and_true] at hF
      exact ⟨rfl, hn', rfl, by rw [hF.2.2.1, ht]⟩
    · refine (any_run (G := GU) (us_end d f s.F.length i fl _ st') (by simp only [Ob.ok_cons, Ob.ok_nil, and_true]; exact ⟨o1, lt_F (by omega)⟩) hn hT).mono fun e T' st2 ⟨he, hn', hF, hst⟩ => ?_
      subst he; subst hst
      simp only [GU, List.cons.injEq, and_true] at hF
      exact ⟨rfl, hn', rfl, by rw [hF.2.2.1, ht]⟩
  | some g =>
    obtain ⟨f, fl, rfl, hgf⟩ := hr.fv.of hf
    have hl : i < s.F.length := (List.getElem?_eq_some_iff.1 hf).1
    obtain ⟨hx, hy⟩ := hg g (List.mem_of_getElem? hf)
    have hfn := hw _ _ hgf
    have hc := cells_at _ _ _ hf
    have ht := usedR_take hf
    have hle := usedR_le (F := s.F) (i + 1)
    have hob : (usO d f s.F.length i (i * 3) fl g.lv g.ov g.lb.length g.ob.length (usedR (s.F.take i)) ((g.lb.length : Int) + g.ob.length) ((usedR (s.F.take i) : Int) + ((g.lb.length : Int) + g.ob.length)) (i + 1) st').ok := by
      unfold usO
      simp only [Ob.ok_cons, Ob.ok_nil, and_true]
      refine ⟨o1, lt_T (by omega), ?_, ⟨by simp, hr.load⟩, iA113 hl, ⟨by simp, load_row hgf (p28' hc.2.1)⟩, ⟨by simp, hr.load⟩, iA113 hl, ⟨by simp, load_row hgf (p28' hc.2.2)⟩, addP_ok (by omega), addP_ok (by omega), by rw [addN_eq _ _ (by omega)]; rfl⟩
      simp only [List.mem_cons, List.not_mem_nil, or_false]
      rintro k (rfl | rfl | rfl | rfl) <;> assumption
    refine (any_run (G := GU) (us_turn hx hy hob) hob hn hT).mono fun e T' st2 ⟨he, hn', hF, hst⟩ => ?_
    subst he; subst hst
    simp only [GU, List.cons.injEq, and_true] at hF
    exact ⟨s.F.length - (i + 1), by omega, i + 1, by omega, rfl, rfl, hn', hF.1, by rw [hF.2.2.1, ht]; norm_cast, hF.2.2.2⟩
theorem rused_ok {d : Nat} {fv : AV} {s : RS} {st : St} (hr : RD st d fv s) (hw : st.wf) (hg : RGood s.F) (hsz : s.F.length ≤ 1000000) (hu : usedR s.F < 1000000000) : obC 74 [.ptr d 0] st (i64 (usedR s.F)) st := by
  refine ACalls.body (E := E0) hE Try.func74 body74 ?_
  refine .seq ((any_run (G := GU) (us_0 d st) Ob.ok_nil rfl (one rfl)).mono fun e T1 s1 ⟨he, n1, F1, hst⟩ => ?_)
  subst he; subst hst
  simp only [GU, List.cons.injEq] at F1
  simp only [thenA]
  refine .seq ((any_run (G := GU) (us_1 d s1) Ob.ok_nil n1 (one F1.1)).mono fun e T2 s2 ⟨he, n2, F2, hst⟩ => ?_)
  subst he; subst hst
  simp only [GU, List.cons.injEq] at F2
  simp only [thenA]
  refine .seq (.seq ((any_run (G := GU) (us_2 d 0 s2) Ob.ok_nil n2 (conz F2.1 (one F2.2.2.1))).mono fun e T3 s3 ⟨he, n3, F3, hst⟩ => ?_))
  subst he; subst hst
  simp only [GU, List.cons.injEq, and_true] at F3
  simp only [thenA]
  refine .block ((us_loop hr hw hg hsz hu n3 F3.1 F3.2.2.1 F3.2.2.2).mono fun e T4 s4 ⟨he, n4, hst, h3⟩ => ?_)
  subst he; subst hst
  simp only [blockA, if_true, thenA]
  refine .seq ((any_run (G := GU) (us_6 (usedR s.F) s4) Ob.ok_nil n4 (one h3)).mono fun e T5 s5 ⟨he, n5, F5, hst⟩ => ?_)
  subst he; subst hst
  simp only [GU, List.cons.injEq] at F5
  simp only [thenA]
  exact .ret ⟨[T5.get 2], rfl, by simp only [oneOrTup]; rw [F5.2.1], rfl⟩
end
section
set_option maxRecDepth 4000
theorem cells_append : ∀ (F G : List RF), cells (F ++ G) = cells F ++ cells G
  | [], G => rfl
  | f :: r, G => by simp only [List.cons_append, cells, cells_append r G]
theorem cells_take : ∀ (F : List RF) (i : Nat), (cells F).take (i * 3) = cells (F.take i)
  | [], i => by simp [cells]
  | f :: r, 0 => rfl
  | f :: r, i + 1 => by
    have e : (i + 1) * 3 = i * 3 + 1 + 1 + 1 := by omega
    rw [e]
    simp only [cells, List.take_succ_cons, cells_take r i]
theorem cells_drop : ∀ (F : List RF) (i : Nat), (cells F).drop (i * 3) = cells (F.drop i)
  | [], i => by simp [cells]
  | f :: r, 0 => rfl
  | f :: r, i + 1 => by
    have e : (i + 1) * 3 = i * 3 + 1 + 1 + 1 := by omega
    rw [e]
    simp only [cells, List.drop_succ_cons, cells_drop r i]
theorem cells_ne {F : List RF} (h : F ≠ []) : 0 < F.length := List.length_pos_iff.2 h
theorem el113 : ∃ ti z, elemA E0 113 = some (121, ti, z) ∧ ti.size = 3 ∧ ti.bytes = 64 := by
  have h : (elemA E0 113).map (fun q => (q.1, q.2.1.size, q.2.1.bytes)) = some (121, 3, 64) := by kernel_rfl
  obtain ⟨⟨a, ti, z⟩, h1, h2⟩ := Option.map_eq_some_iff.1 h
  simp only [Prod.mk.injEq] at h2
  obtain ⟨rfl, h3, h4⟩ := h2
  exact ⟨ti, z, h1, h3, h4⟩
theorem str113 : isStrTy E0 113 = false := by kernel_rfl
theorem src113 {st : St} {x : AV} : srcA E0 st 113 x = sliceCells st x := by simp only [srcA, ty113]
/-- files in a slice of one's own -/
def OwnF (st : St) (v : AV) (F : List RF) : Prop := (F = [] ∧ v = .nils) ∨ (F ≠ [] ∧ ∃ i, v = .sl i 3 0 F.length false ∧ st.get i = some (.row (cells F) 121))
theorem OwnF.fv {st : St} {v : AV} {F : List RF} (h : OwnF st v F) : FV st v F := by
  rcases h with h | ⟨h, i, h2⟩
  · exact .inl h
  · exact .inr ⟨h, i, false, h2⟩
theorem OwnF.cell {st : St} {v : AV} {F : List RF} (h : OwnF st v F) : avCells v = some [v] := by
  rcases h with ⟨_, rfl⟩ | ⟨_, i, rfl, _⟩ <;> rfl
theorem FV.cell {st : St} {v : AV} {F : List RF} (h : FV st v F) : avCells v = some [v] := by
  rcases h with ⟨_, rfl⟩ | ⟨_, i, fl, rfl, _⟩ <;> rfl
theorem appF {st : St} {v x : AV} {F G : List RF} (hv : OwnF st v F) (hw : st.wf) (hl : st.lock = []) (hx : sliceCells st x = some (G.length, cells G)) (hb : F.length + G.length ≤ 1000000) :
    ∃ v' st', appendA E0 st 113 113 v x = some (v', st') ∧ OwnF st' v' (F ++ G) ∧ Rest st st' (fid v) ∧ (v' = v ∧ st' = st ∨ ∃ l f, v' = .sl st.next 3 0 l f) := by
  obtain ⟨ti, z, he, h3, h64⟩ := el113
  by_cases h0 : G.length = 0
  · have hG : G = [] := List.eq_nil_of_length_eq_zero h0
    subst hG
    refine ⟨v, st, ?_, by simpa using hv, Rest.refl hw _, .inl ⟨rfl, rfl⟩⟩
    rcases hv with ⟨_, rfl⟩ | ⟨_, i, rfl, _⟩ <;> simp only [appendA, he, src113, hx, str113, h3]
    · rw [if_pos ⟨rfl, fun h => by cases h⟩, if_pos h0]
    · rw [if_pos ⟨rfl, fun h => by cases h⟩, if_neg (fun h => h rfl), if_pos h0]
  have hne : F ++ G ≠ [] := fun e => h0 (by rw [(List.append_eq_nil_iff.1 e).2]; rfl)
  rcases hv with ⟨rfl, rfl⟩ | ⟨hF, i, rfl, hg⟩
  · refine ⟨.sl st.next 3 0 G.length false, st.push (.row (cells G) 121), ?_, .inr ⟨hne, st.next, by simp, by rw [St.get_push, if_pos rfl]; rfl⟩, Rest.push hw _ _, .inr ⟨_, _, rfl⟩⟩
    simp only [appendA, he, src113, hx, str113, h3, h64]
    rw [if_pos ⟨by rw [cells_length], fun h => by cases h⟩, if_neg h0, if_pos (by simp only [List.length_nil] at hb; omega)]
  · have hdw : (st.del i).wf := fun j p h => by
      rw [St.get_del] at h
      split at h
      · cases h
      · exact hw _ _ h
    refine ⟨.sl st.next 3 0 (F.length + G.length) false, (st.del i).push (.row (cells F ++ cells G) 121), ?_, .inr ⟨hne, st.next, by simp, by rw [St.get_push, if_pos (by simp), cells_append]⟩, ⟨fun j o hj ho => ?_, by simp, rfl, rfl, push_wf hdw _⟩, .inr ⟨_, _, rfl⟩⟩
    · simp only [appendA, he, src113, hx, str113, h3, h64, hg, hl]
      rw [if_pos ⟨by rw [cells_length], fun h => by cases h⟩, if_neg (fun h => h rfl), if_neg h0, if_pos (by omega), if_pos ⟨trivial, by rw [cells_length]; omega⟩, if_neg (by simp), if_pos ⟨by rw [cells_length]; omega, by simp⟩]
      rfl
    · have := hw _ _ ho
      rw [St.get_push, if_neg (by simp; omega), St.get_del, if_neg (fun e => hj (by simp [fid, e]))]; exact ho
theorem Rest.old {a b c : St} {S : List Nat} (h : Rest a b []) (k : Rest b c S) (hS : ∀ i ∈ S, a.next ≤ i) (hw : a.wf) : Rest a c [] :=
  ⟨fun i o _ ho => k.keep i o (fun hi => by have := hS i hi; have := hw _ _ ho; omega) (h.keep i o (by simp) ho), Nat.le_trans h.next k.next, k.lock.trans h.lock, k.gl.trans h.gl, k.wf⟩
theorem natLe_ok {i len : Nat} (h : i ≤ len) : natLe (i64 i) len = some i := by
  show (if 0 ≤ (i : Int) ∧ (i : Int) ≤ len then some (i : Int).toNat else none) = some i
  rw [if_pos ⟨by omega, by omega⟩]; rfl
theorem boundsA_hi (len i : Nat) (h : i ≤ len) : boundsA len len none (some (i64 i)) none = some (0, i, len) := by
  delta boundsA
  simp only [natLe_ok h]
theorem boundsA_lo (len i : Nat) (h : i ≤ len) : boundsA len len (some (i64 i)) none none = some (i, len, len) := by
  delta boundsA
  simp only [natLe_ok h]
theorem sl_hi {st : St} {fv : AV} {F : List RF} (h : FV st fv F) {i : Nat} (hi : i ≤ F.length) : ∃ c, sliceA E0 st 113 fv none (some (i64 i)) none = some c ∧ sliceCells st c = some ((F.take i).length, cells (F.take i)) := by
  rcases h with ⟨rfl, rfl⟩ | ⟨hF, f, fl, rfl, hg⟩
  · have : i = 0 := by simpa using hi
    subst this
    exact ⟨.nils, by kernel_rfl, rfl⟩
  · simp only [sliceA, ty113, size121, if_true, boundsA_hi _ _ hi]
    by_cases h0 : i = 0
    · subst h0
      exact ⟨.imm 3 0 false [], rfl, rfl⟩
    · rw [if_neg h0]
      refine ⟨_, rfl, ?_⟩
      simp only [sliceCells, hg]
      rw [if_pos (by rw [cells_length]; omega)]
      simp only [Nat.zero_mul, Nat.add_zero, Nat.sub_zero, List.drop_zero, cells_take, List.length_take]
      rw [Nat.min_eq_left hi]
theorem sl_lo {st : St} {fv : AV} {F : List RF} (h : FV st fv F) {i : Nat} (hi : i ≤ F.length) : ∃ c, sliceA E0 st 113 fv (some (i64 i)) none none = some c ∧ sliceCells st c = some ((F.drop i).length, cells (F.drop i)) := by
  rcases h with ⟨rfl, rfl⟩ | ⟨hF, f, fl, rfl, hg⟩
  · have : i = 0 := by simpa using hi
    subst this
    exact ⟨.nils, by kernel_rfl, rfl⟩
  · simp only [sliceA, ty113, size121, if_true, boundsA_lo _ _ hi]
    by_cases h0 : F.length = i
    · subst h0
      rw [if_pos rfl]
      exact ⟨.imm 3 0 false [], rfl, by simp [sliceCells, cells]⟩
    · rw [if_neg h0]
      refine ⟨_, rfl, ?_⟩
      simp only [sliceCells, hg]
      rw [if_pos (by rw [cells_length]; omega)]
      simp only [Nat.zero_add, cells_drop, List.length_drop]
      rw [List.take_of_length_le (by rw [cells_length, List.length_drop]; omega)]
theorem bs113 (st : St) (x y z : AV) : buildSliceA E0 st 113 1 [(0, .agg [x, y, z])] = some (.sl st.next 3 0 1 true, st.push (.row [x, y, z] 121)) := by kernel_rfl
theorem p121 {x y z : AV} : partA E0 121 [x, y, z] 0 = some (.agg [x, y, z]) := by
  have h : (E0.ty 121).map (fun i => (isAggD i.desc, i.size)) = some (true, 3) := by kernel_rfl
  obtain ⟨i, h1, h2⟩ := Option.map_eq_some_iff.1 h
  simp only [Prod.mk.injEq] at h2
  simp only [partA, h1, h2.1, h2.2]
  rfl
/-- a file, written over another -/
theorem cells_set {F : List RF} {i : Nat} {f : RF} (hi : i < F.length) : (cells F).take (i * 3) ++ [str f.name, f.lv, f.ov] ++ (cells F).drop (i * 3 + 3) = cells (F.set i f) := by
  have e : i * 3 + 3 = (i + 1) * 3 := by omega
  rw [e, cells_take, cells_drop, List.set_eq_take_append_cons_drop, if_pos hi, cells_append]
  simp [cells]
theorem store121 {st : St} {r i : Nat} {F : List RF} (hg : st.get r = some (.row (cells F) 121)) (hl : st.lock = []) (hi : i < F.length) (f : RF) : storeA E0 st 121 (.ptr r (i * 3)) (.agg [str f.name, f.lv, f.ov]) = some (st.set r (.row (cells (F.set i f)) 121)) := by
  have hwg := St.wget_of hg (show r ∉ st.lock by rw [hl]; simp)
  simp only [storeA, avCells, hwg, size121, List.length_cons, List.length_nil]
  rw [if_pos ⟨trivial, by rw [cells_length]; omega⟩, ← cells_set hi]
theorem size113 : tySize E0 113 = some 1 := by kernel_rfl
theorem store113 {st : St} {d : Nat} {a b c e v : AV} {ty : Nat} (hg : st.get d = some (.row [a, b, c, e] ty)) (hl : st.lock = []) (hv : avCells v = some [v]) : storeA E0 st 113 (.ptr d 0) v = some (st.set d (.row [v, b, c, e] ty)) := by
  have hwg := St.wget_of hg (show d ∉ st.lock by rw [hl]; simp)
  simp [storeA, hv, size113, hwg]
end
section
set_option maxRecDepth 4000
theorem d121 : ∃ i, E0.ty 121 = some i ∧ isAggD i.desc = true ∧ i.size = 3 := by
  have h : (E0.ty 121).map (fun i => (isAggD i.desc, i.size)) = some (true, 3) := by kernel_rfl
  obtain ⟨i, h1, h2⟩ := Option.map_eq_some_iff.1 h
  simp only [Prod.mk.injEq] at h2
  exact ⟨i, h1, h2.1, h2.2⟩
def agg (f : RF) : AV := .agg [str f.name, f.lv, f.ov]
theorem p121' {F : List RF} {i : Nat} {f : RF} (hf : F[i]? = some f) : partA E0 121 (cells F) (i * 3) = some (agg f) := by
  obtain ⟨t, h1, h2, h3⟩ := d121
  have hi := (List.getElem?_eq_some_iff.1 hf).1
  simp only [partA, h1, h2, h3, if_true]
  rw [if_pos (by rw [cells_length]; omega), cells_drop, drop_at hf]
  rfl
def putF (F : List RF) (f : RF) : List RF := if hit f.name F = true then F.set (pos f.name F) f else F.take (pos f.name F) ++ f :: F.drop (pos f.name F)
theorem hit_lt {n : ByteArray} {F : List RF} (h : hit n F = true) : pos n F < F.length := by
  unfold hit at h
  split at h
  · rename_i f hf; exact (List.getElem?_eq_some_iff.1 hf).1
  · cases h
theorem one_cells (st : St) (f : RF) : sliceCells (st.push (.row [str f.name, f.lv, f.ov] 121)) (.sl st.next 3 0 1 true) = some ([f].length, cells [f]) := by
  simp only [sliceCells, St.get_push, if_true]
  rfl
theorem put_ok' {st : St} {d : Nat} {fv : AV} {s : RS} (hp : RD st d fv s) (hw : st.wf) (hl : st.lock = []) (hsz : s.F.length + 1 ≤ 1000000) (f : RF) :
    ∃ st' fv', obC 72 [.ptr d 0, agg f] st (.tup []) st' ∧ RD st' d fv' { s with F := putF s.F f } ∧ Rest st st' (d :: fid fv) := by
  have hd := hw _ _ hp.row
  have R1 : Rest st (st.push (.row [str f.name, f.lv, f.ov] 121)) [] := Rest.push hw _ _
  have hp1 := hp.rest R1 (by simp) (by simp)
  have l1 : (st.push (.row [str f.name, f.lv, f.ov] 121)).lock = [] := by simpa using hl
  have gp : (st.push (.row [str f.name, f.lv, f.ov] 121)).get st.next = some (.row [str f.name, f.lv, f.ov] 121) := by rw [St.get_push, if_pos rfl]
  have n1 : (st.push (.row [str f.name, f.lv, f.ov] 121)).next = st.next + 1 := rfl
  have hbox : boxA st 121 (agg f) = some (.ptr st.next 0, st.push (.row [str f.name, f.lv, f.ov] 121)) := rfl
  have hat := at_ok hp1 R1.wf (by omega) f.name
  have onm : obL (st.push (.row [str f.name, f.lv, f.ov] 121)) 9 (.ptr st.next 0) (str f.name) := ⟨load_row gp (p9 rfl), rfl⟩
  have oag : loadA E0 (st.push (.row [str f.name, f.lv, f.ov] 121)) 121 (.ptr st.next 0) = some (agg f) := load_row gp p121
  generalize st.push (.row [str f.name, f.lv, f.ov] 121) = s1 at *
  unfold putF
  cases hh : hit f.name s.F with
  | true =>
    rw [if_pos rfl]
    rw [hh] at hat
    have hlt := hit_lt hh
    obtain ⟨r, fl, rfl, hg⟩ := hp1.fv.of (List.getElem?_eq_getElem hlt)
    have hst := store121 hg l1 hlt f
    have hr := R1.wf _ _ hg
    have hrd : r ≠ d := hp1.ne r (by simp [fid])
    refine ⟨s1.set r (.row (cells (s.F.set (pos f.name s.F) f)) 121), .sl r 3 0 s.F.length fl, rf_run (putHit d r s.F.length (pos f.name s.F) (pos f.name s.F * 3) st.next fl f.name (agg f) (agg f) st s1 _) ?_, ⟨?_, .inr ⟨?_, r, fl, by simp, by rw [St.get_set, if_pos rfl]⟩⟩, (R1.weak (by simp)).trans (Rest.set R1.wf hr _ (by simp [fid]))⟩
    · simp only [Ob.ok_cons, Ob.ok_nil, and_true]
      refine ⟨hbox, onm, hat, ?_, ⟨by simp, hp1.load⟩, ⟨by simp, oag⟩, iA113 hlt, (fun h => (by cases h)), hst⟩
      simp only [List.mem_cons, List.not_mem_nil, or_false]
      rintro k (rfl | rfl) <;> omega
    · rw [St.get_set, if_neg hrd.symm]; exact hp1.row
    · intro e
      have : (s.F.set (pos f.name s.F) f).length = 0 := by rw [show s.F.set (pos f.name s.F) f = [] from e]; rfl
      rw [List.length_set] at this; omega
  | false =>
    rw [if_neg (by decide)]
    rw [hh] at hat
    have hle := pos_le f.name s.F
    generalize pos f.name s.F = i at *
    obtain ⟨c, c1, c2⟩ := sl_hi hp1.fv hle
    obtain ⟨o1, s2, a1, a2, a3, a4⟩ := appF (v := .nils) (F := []) (.inl ⟨rfl, rfl⟩) R1.wf l1 c2 (by simp; omega)
    have f1 : ∀ j ∈ fid o1, st.next ≤ j := by
      rcases a4 with ⟨rfl, _⟩ | ⟨_, _, rfl⟩
      · intro j hj; cases hj
      · intro j hj; simp only [fid, List.mem_singleton] at hj; omega
    have R2 : Rest st s2 [] := R1.trans a3
    have R3 : Rest s2 (s2.push (.row [str f.name, f.lv, f.ov] 121)) [] := Rest.push a3.wf _ _
    have hown : OwnF (s2.push (.row [str f.name, f.lv, f.ov] 121)) o1 ([] ++ s.F.take i) := by
      rcases a2 with h | ⟨h, j, rfl, hg⟩
      · exact .inl h
      · exact .inr ⟨h, j, rfl, R3.keep _ _ (by simp) hg⟩
    have l2 : s2.lock = [] := a3.lock.trans l1
    have l3 : (s2.push (.row [str f.name, f.lv, f.ov] 121)).lock = [] := by simpa using l2
    obtain ⟨o2, s4, b1, b2, b3, b4⟩ := appF hown R3.wf l3 (one_cells s2 f) (by simp; omega)
    have R4 : Rest st s4 [] := (R2.trans R3).old b3 f1 hw
    have f2 : ∀ j ∈ fid o2, st.next ≤ j := by
      rcases b4 with ⟨rfl, _⟩ | ⟨_, _, rfl⟩
      · exact f1
      · intro j hj
        simp only [fid, List.mem_singleton] at hj
        have := (R2.trans R3).next
        omega
    have hp4 := hp.rest R4 (by simp) (by simp)
    obtain ⟨c', c3, c4⟩ := sl_lo hp4.fv hle
    have l4 : s4.lock = [] := b3.lock.trans l3
    obtain ⟨o3, s5, e1, e2, e3, e4⟩ := appF b2 R4.wf l4 c4 (by simp; omega)
    have R5 : Rest st s5 [] := R4.old e3 f2 hw
    have hp5 := hp.rest R5 (by simp) (by simp)
    have hst := store113 hp5.row (R5.lock.trans hl) e2.cell
    have hd5 := R5.wf _ _ hp5.row
    have hp2 := hp.rest R2 (by simp) (by simp)
    have oag2 : obL s2 121 (.ptr st.next 0) (agg f) := by
      refine ⟨?_, rfl⟩
      have : s2.get st.next = s1.get st.next := by
        rw [gp]; exact a3.keep _ _ (by simp [fid]) gp
      simp only [loadA, this]
      simpa only [loadA] using oag
    refine ⟨s5.set d (.row [o3, i64 s.q, i64 s.fu, bo s.off] 115), o3, rf_run (putNew d i st.next f.name fv (agg f) (agg f) c o1 o2 o3 c' (.sl s2.next 3 0 1 true) st s1 s2 (s2.push (.row [str f.name, f.lv, f.ov] 121)) s4 s5 _) ?_, ⟨by rw [St.get_set, if_pos rfl], ?_⟩, (R5.weak (by simp)).trans (Rest.set R5.wf hd5 _ (by simp))⟩
    · simp only [Ob.ok_cons, Ob.ok_nil, and_true]
      exact ⟨hbox, onm, hat, ⟨hp1.load, rfl⟩, c1, a1, oag2, bs113 _ _ _ _, b1, ⟨hp4.load, rfl⟩, c3, e1, hst⟩
    · have hx : OwnF s5 o3 (s.F.take i ++ f :: s.F.drop i) := by simpa using e2
      refine hx.fv.keep fun j hj o ho => ?_
      rw [St.get_set, if_neg fun e => ?_]
      · exact ho
      · rcases hx with ⟨_, rfl⟩ | ⟨_, r, rfl, hg⟩
        · cases hj
        · simp only [fid, List.mem_singleton] at hj
          exact row_ne hg hp5.row (by decide) (hj.symm.trans e)
end
section
set_option maxRecDepth 4000
def GC (T : Tm) : List AV := [T.get 0, T.get 1, T.get 4, T.get 5]
theorem er_take {F : List RF} {i : Nat} {f : RF} (h : F[i]? = some f) (k : Nat) : (F.take (i + 1)).eraseIdx k = if i = k then (F.take i).eraseIdx k else if i < k then (F.take i).eraseIdx k ++ [f] else (F.take i).eraseIdx k ++ [f] := by
  have hi := (List.getElem?_eq_some_iff.1 h).1
  rw [List.take_add_one, h]
  simp only [Option.toList_some]
  have hl : (F.take i).length = i := by simp; omega
  rcases Nat.lt_trichotomy i k with h1 | h1 | h1
  · rw [if_neg (by omega), if_pos h1, List.eraseIdx_of_length_le (by simp; omega), List.eraseIdx_of_length_le (by omega)]
  · rw [if_pos h1, List.eraseIdx_append_of_length_le (by omega), hl, ← h1, Nat.sub_self]
    rw [List.eraseIdx_of_length_le (l := F.take i) (by omega)]
    simp
  · rw [if_neg (by omega), if_neg (by omega), List.eraseIdx_append_of_lt_length (by omega)]
/-- what the loop makes, turn by turn -/
noncomputable def cuS (st : St) (F : List RF) (k : Nat) : Nat → AV × St
  | 0 => (.nils, st)
  | i + 1 => match F[i]? with
    | some g => if i = k then cuS st F k i else (appendA E0 ((cuS st F k i).2.push (.row [str g.name, g.lv, g.ov] 121)) 113 113 (cuS st F k i).1 (.sl (cuS st F k i).2.next 3 0 1 true)).getD (cuS st F k i)
    | none => cuS st F k i
theorem cuS_ok {st : St} {F : List RF} {k : Nat} (hw : st.wf) (hl : st.lock = []) (hsz : F.length ≤ 1000000) : ∀ i, i ≤ F.length → Rest st (cuS st F k i).2 [] ∧ OwnF (cuS st F k i).2 (cuS st F k i).1 ((F.take i).eraseIdx k) ∧ (∀ j ∈ fid (cuS st F k i).1, st.next ≤ j) ∧
    ∀ g, F[i]? = some g → i ≠ k → appendA E0 ((cuS st F k i).2.push (.row [str g.name, g.lv, g.ov] 121)) 113 113 (cuS st F k i).1 (.sl (cuS st F k i).2.next 3 0 1 true) = some (cuS st F k (i + 1)) := by
  have next : ∀ i, i ≤ F.length → Rest st (cuS st F k i).2 [] → OwnF (cuS st F k i).2 (cuS st F k i).1 ((F.take i).eraseIdx k) → ∀ g, F[i]? = some g → i ≠ k → ∃ w s2, appendA E0 ((cuS st F k i).2.push (.row [str g.name, g.lv, g.ov] 121)) 113 113 (cuS st F k i).1 (.sl (cuS st F k i).2.next 3 0 1 true) = some (w, s2) ∧ cuS st F k (i + 1) = (w, s2) ∧ OwnF s2 w ((F.take i).eraseIdx k ++ [g]) ∧ Rest ((cuS st F k i).2.push (.row [str g.name, g.lv, g.ov] 121)) s2 (fid (cuS st F k i).1) ∧ (w = (cuS st F k i).1 ∧ s2 = ((cuS st F k i).2.push (.row [str g.name, g.lv, g.ov] 121)) ∨ ∃ l f, w = .sl ((cuS st F k i).2.push (.row [str g.name, g.lv, g.ov] 121)).next 3 0 l f) := fun i hi R hv g hfi hik => by
    have R3 : Rest (cuS st F k i).2 ((cuS st F k i).2.push (.row [str g.name, g.lv, g.ov] 121)) [] := Rest.push R.wf _ _
    have hown : OwnF ((cuS st F k i).2.push (.row [str g.name, g.lv, g.ov] 121)) (cuS st F k i).1 ((F.take i).eraseIdx k) := by
      rcases hv with h | ⟨h, j, hv, hg⟩
      · exact .inl h
      · exact .inr ⟨h, j, hv, R3.keep _ _ (by simp) hg⟩
    have hlen : ((F.take i).eraseIdx k).length ≤ i := by
      have := List.length_eraseIdx_le (F.take i) k
      simp at this; omega
    have hlt := (List.getElem?_eq_some_iff.1 hfi).1
    obtain ⟨w, s2, b1, b2, b3, b4⟩ := appF hown R3.wf (by simpa using R.lock.trans hl) (one_cells (cuS st F k i).2 g) (by simp; omega)
    refine ⟨w, s2, b1, ?_, b2, b3, b4⟩
    rw [cuS, hfi]
    simp only
    rw [if_neg hik, b1]; rfl
  intro i
  induction i with
  | zero => exact fun _ => ⟨Rest.refl hw _, .inl ⟨by simp, rfl⟩, (fun j hj => (by cases hj)), fun g hg hik => by
      obtain ⟨w, s2, b1, b2, _⟩ := next 0 (by omega) (Rest.refl hw _) (.inl ⟨by simp, rfl⟩) g hg hik
      rw [b1, b2]⟩
  | succ i ih =>
    intro hi
    obtain ⟨R, hv, hf, hs⟩ := ih (by omega)
    have hlt : i < F.length := hi
    have hfi := List.getElem?_eq_getElem hlt
    have he := er_take hfi k
    have key : Rest st (cuS st F k (i + 1)).2 [] ∧ OwnF (cuS st F k (i + 1)).2 (cuS st F k (i + 1)).1 ((F.take (i + 1)).eraseIdx k) ∧ (∀ j ∈ fid (cuS st F k (i + 1)).1, st.next ≤ j) := by
      by_cases hik : i = k
      · rw [if_pos hik] at he
        have e : cuS st F k (i + 1) = cuS st F k i := by
          rw [cuS, hfi]
          simp only
          rw [if_pos hik]
        rw [e, he]
        exact ⟨R, hv, hf⟩
      · rw [if_neg hik, ite_self] at he
        obtain ⟨w, s2, b1, b2, b3, b4, b5⟩ := next i (by omega) R hv _ hfi hik
        rw [b2, he]
        refine ⟨(R.trans (Rest.push R.wf _ _)).old b4 hf hw, b3, ?_⟩
        rcases b5 with ⟨rfl, _⟩ | ⟨_, _, rfl⟩
        · exact hf
        · intro j hj
          simp only [fid, List.mem_singleton] at hj
          have := R.next
          simp at hj
          omega
    refine ⟨key.1, key.2.1, key.2.2, fun g hg hik => ?_⟩
    obtain ⟨w, s2, b1, b2, _⟩ := next (i + 1) hi key.1 key.2.1 g hg hik
    rw [b1, b2]
theorem cut_loop {d k : Nat} {fv : AV} {s : RS} {T : Tm} {st : St} (hr : RD st d fv s) (hw : st.wf) (hl : st.lock = []) (hsz : s.F.length ≤ 1000000) (hn : T.n = 32) (h0 : T.get 0 = .ptr d 0) (h1 : T.get 1 = i64 k) (h4 : T.get 4 = .nils) (h5 : T.get 5 = i64 0) :
    AW Try.prog (.loop (cuP 2)) (fun e T' st' => e = .exit 0 ∧ T'.n = 32 ∧ T'.get 0 = .ptr d 0 ∧ T'.get 4 = (cuS st s.F k s.F.length).1 ∧ st' = (cuS st s.F k s.F.length).2) T st := by
  refine .loop (fun m T st' => ∃ i : Nat, i ≤ s.F.length ∧ m = s.F.length - i ∧ st' = (cuS st s.F k i).2 ∧ T.n = 32 ∧ T.get 0 = .ptr d 0 ∧ T.get 1 = i64 k ∧ T.get 4 = (cuS st s.F k i).1 ∧ T.get 5 = i64 i) s.F.length ⟨0, by omega, rfl, rfl, hn, h0, h1, h4, h5⟩ fun m T st' hI => ?_
  obtain ⟨i, hi, rfl, rfl, hn, h0, h1, h4, h5⟩ := hI
  obtain ⟨R, hv, _, hs⟩ := cuS_ok (k := k) hw hl hsz i hi
  have hT := conz (P := fun p => T.get p.1 = p.2) (p := (0, .ptr d 0)) h0 (conz (p := (1, i64 k)) h1 (conz (p := (4, (cuS st s.F k i).1)) h4 (one (p := (5, i64 i)) h5)))
  have hr' := hr.rest R (by simp) (by simp)
  have o1 : obL (cuS st s.F k i).2 113 (.ptr d 0) fv := ⟨hr'.load, rfl⟩
  cases hfi : s.F[i]? with
  | none =>
    have hle : s.F.length ≤ i := List.getElem?_eq_none_iff.1 hfi
    obtain rfl : i = s.F.length := by omega
    rcases hr'.fv with ⟨h2, rfl⟩ | ⟨_, f, fl, rfl, h3⟩
    · refine (any_run (G := GC) (cu_endN d s.F.length (cuS st s.F k s.F.length).1 (cuS st s.F k s.F.length).2 k) (by simp only [Ob.ok_cons, Ob.ok_nil, and_true]; exact ⟨o1, lt_F (by omega)⟩) hn hT).mono fun e T' st2 ⟨he, hn', hF, hst⟩ => ?_
      subst he; subst hst
      simp only [GC, List.cons.injEq, and_true] at hF
      exact ⟨rfl, hn', hF.1, hF.2.2.1, rfl⟩
    · refine (any_run (G := GC) (cu_end d f s.F.length s.F.length fl (cuS st s.F k s.F.length).1 (cuS st s.F k s.F.length).2 k) (by simp only [Ob.ok_cons, Ob.ok_nil, and_true]; exact ⟨o1, lt_F (by omega)⟩) hn hT).mono fun e T' st2 ⟨he, hn', hF, hst⟩ => ?_
      subst he; subst hst
      simp only [GC, List.cons.injEq, and_true] at hF
      exact ⟨rfl, hn', hF.1, hF.2.2.1, rfl⟩
  | some g =>
    obtain ⟨f, fl, rfl, hgf⟩ := hr'.fv.of hfi
    have hlt : i < s.F.length := (List.getElem?_eq_some_iff.1 hfi).1
    have hadd : i64 (addN i 1) = i64 ((i + 1 : Nat) : Int) := by rw [addN_eq _ _ (by omega)]; rfl
    by_cases hik : i = k
    · refine (any_run (G := GC) (cu_skip d f s.F.length i (i + 1) fl (cuS st s.F k i).1 (cuS st s.F k i).2 k) (by simp only [Ob.ok_cons, Ob.ok_nil, and_true]; exact ⟨o1, lt_T (by omega), ob_F (by show (_ != _) = false; simp [hik]), hadd⟩) hn hT).mono fun e T' st2 ⟨he', hn', hF, hst⟩ => ?_
      subst he'; subst hst
      simp only [GC, List.cons.injEq, and_true] at hF
      have e : cuS st s.F k (i + 1) = cuS st s.F k i := by
        rw [cuS, hfi]
        simp only
        rw [if_pos hik]
      exact ⟨s.F.length - (i + 1), by omega, i + 1, by omega, rfl, by rw [e], hn', hF.1, hF.2.1, by rw [e]; exact hF.2.2.1, hF.2.2.2⟩
    · have oag : obL (cuS st s.F k i).2 121 (.ptr f (0 + i * 3)) (agg g) := ⟨by rw [Nat.zero_add]; exact load_row hgf (p121' hfi), rfl⟩
      refine (any_run (G := GC) (cu_take d f s.F.length i (i + 1) fl (cuS st s.F k i).1 (cuS st s.F k (i + 1)).1 (agg g) (.sl (cuS st s.F k i).2.next 3 0 1 true) (cuS st s.F k i).2 ((cuS st s.F k i).2.push (.row [str g.name, g.lv, g.ov] 121)) (cuS st s.F k (i + 1)).2 k) (by simp only [Ob.ok_cons, Ob.ok_nil, and_true]; exact ⟨o1, lt_T (by omega), ob_T (by show (_ != _) = true; simp; omega), o1, by omega, oag, bs113 _ _ _ _, hs g hfi hik, hadd⟩) hn hT).mono fun e T' st2 ⟨he', hn', hF, hst⟩ => ?_
      subst he'; subst hst
      simp only [GC, List.cons.injEq, and_true] at hF
      exact ⟨s.F.length - (i + 1), by omega, i + 1, by omega, rfl, rfl, hn', hF.1, hF.2.1, hF.2.2.1, hF.2.2.2⟩
/-- a slice of files that the store has anew -/
theorem OwnF.set {st : St} {d : Nat} {v : AV} {F : List RF} (h : OwnF st v F) {vs : List AV} (hd : st.get d = some (.row vs 115)) (o : AObj) : FV (st.set d o) v F := by
  refine h.fv.keep fun j hj p hp => ?_
  rw [St.get_set, if_neg fun e => ?_]
  · exact hp
  · rcases h with ⟨_, rfl⟩ | ⟨_, r, rfl, hg⟩
    · cases hj
    · simp only [fid, List.mem_singleton] at hj
      exact row_ne hg hd (by decide) (hj.symm.trans e)
theorem cut_ok {st : St} {d : Nat} {fv : AV} {s : RS} (hp : RD st d fv s) (hw : st.wf) (hl : st.lock = []) (hsz : s.F.length ≤ 1000000) (k : Nat) :
    ∃ st' fv', obC 76 [.ptr d 0, i64 k] st (.tup []) st' ∧ RD st' d fv' { s with F := s.F.eraseIdx k } ∧ Rest st st' [d] ∧ ∀ i ∈ fid fv', st.next ≤ i := by
  obtain ⟨R, hv, hfid, _⟩ := cuS_ok (k := k) hw hl hsz s.F.length (Nat.le_refl _)
  rw [List.take_length] at hv
  have hp3 := hp.rest R (by simp) (by simp)
  have hd3 := R.wf _ _ hp3.row
  have hst := store113 hp3.row (R.lock.trans hl) hv.cell
  have run := fun T hn h0 h1 h4 h5 => cut_loop (T := T) (k := k) hp hw hl hsz hn h0 h1 h4 h5
  generalize (cuS st s.F k s.F.length).1 = v at *
  generalize (cuS st s.F k s.F.length).2 = s3 at *
  refine ⟨s3.set d (.row [v, i64 s.q, i64 s.fu, bo s.off] 115), v, ?_, ⟨by rw [St.get_set, if_pos rfl], hv.set hp3.row _⟩, (R.weak (by simp)).trans (Rest.set R.wf hd3 _ (by simp)), hfid⟩
  refine ACalls.body (E := E0) hE Try.func76 body76 ?_
  refine .seq ((any_run (G := GC) (cu_0 d st k) Ob.ok_nil rfl (conz rfl (one rfl))).mono fun e T1 s1 ⟨he, n1, F1, hst⟩ => ?_)
  subst he; subst hst
  simp only [GC, List.cons.injEq] at F1
  simp only [thenA]
  refine .seq (.seq ((any_run (G := GC) (cu_1 d s1 k) Ob.ok_nil n1 (conz F1.1 (conz F1.2.1 (one F1.2.2.1)))).mono fun e T2 s2 ⟨he, n2, F2, hst⟩ => ?_))
  subst he; subst hst
  simp only [GC, List.cons.injEq, and_true] at F2
  simp only [thenA]
  refine .block ((run _ n2 F2.1 F2.2.1 F2.2.2.1 F2.2.2.2).mono fun e T3 s4 ⟨he, n3, h0, h4, hst3⟩ => ?_)
  subst he; subst hst3
  simp only [blockA, if_true, thenA]
  refine (any_run (G := GC) (cu_3 d v s4 (s4.set d (.row [v, i64 s.q, i64 s.fu, bo s.off] 115))) (by simp only [Ob.ok_cons, Ob.ok_nil, and_true]; exact hst) n3 (conz h0 (one h4))).mono fun e T4 s5 ⟨he, n4, F4, hst'⟩ => ?_
  subst he; subst hst'
  exact ⟨[], rfl, rfl, rfl⟩
end
section
set_option maxRecDepth 100000
def sitesQ : Nat → List Nat
  | 37 => [2010, 6069, 6070, 2026, 28, 6071, 6072]
  | 41 => [6073, 14, 6071, 6076]
  | 40 => [2013, 6069, 6070, 6071, 2035, 2037, 2038, 5000, 6076, 2045, 6072]
  | 39 => [6073, 14, 6071, 2028, 6075, 2037, 8000, 2041, 2046, 2048, 5000]
  | 38 => [6073, 16, 2020, 6074, 2026, 2031, 8000, 6071, 2045, 6075, 2051]
  | 42 => [6073, 15, 2022, 2031, 6075, 8000]
  | 43 => [6073, 15, 2020, 2022, 2024]
  | _ => []
noncomputable def rqEv (f : Nat) (args : List AV) (st : St) (o : List Or) := (evCallS Try.prog E0 noOv sitesQ 100000 f args st o).map fun q => (q.1, q.2.1, q.2.2.2)
section
variable (d f len i j : Nat) (fl : Bool) (n n2 : ByteArray) (e q u y : Int) (v a x o1 o2 lv ov : AV) (st s1 s2 s3 s4 s5 s6 : St)
def obT (d : Nat) (n : ByteArray) (i : Nat) (e : Int) (st : St) : Prop := obC 73 [.ptr d 0, str n] st (.tup [i64 i, i64 e]) st
theorem rcOff : rqEv 37 [.ptr d 0, str n] st [.eff TT id] = some (i64 8, st, [obL st 4 (.ptr d 3) TT]) := by kernel_rfl
theorem rcBad : rqEv 37 [.ptr d 0, str n] st [.eff FF id, .eff FF id] = some (i64 1, st, [obL st 4 (.ptr d 3) FF, obC 69 [str n] st FF st]) := by kernel_rfl
theorem rcFull : rqEv 37 [.ptr d 0, str n] st [.eff FF id, .eff TT id, .eff (.tup [i64 i, FF]) id, .eff (.sl f 3 0 len fl) id, TT] = some (i64 7, st, [obL st 4 (.ptr d 3) FF, obC 69 [str n] st TT st, obC 70 [.ptr d 0, str n] st (.tup [i64 i, FF]) st, obL st 113 (.ptr d 0) (.sl f 3 0 len fl), bo (geN len 4096) = TT]) := by kernel_rfl
theorem rcBurnT : rqEv 37 [.ptr d 0, str n] st [.eff FF id, .eff TT id, .eff (.tup [i64 i, TT]) id, .eff TT (fun _ => s1)] = some (i64 8, s1, [obL st 4 (.ptr d 3) FF, obC 69 [str n] st TT st, obC 70 [.ptr d 0, str n] st (.tup [i64 i, TT]) st, obC 71 [.ptr d 0] st TT s1]) := by kernel_rfl
theorem rcOkT : rqEv 37 [.ptr d 0, str n] st [.eff FF id, .eff TT id, .eff (.tup [i64 i, TT]) id, .eff FF (fun _ => s1), .eff (.tup []) (fun _ => s2)] = some (i64 0, s2, [obL st 4 (.ptr d 3) FF, obC 69 [str n] st TT st, obC 70 [.ptr d 0, str n] st (.tup [i64 i, TT]) st, obC 71 [.ptr d 0] st FF s1, obC 72 [.ptr d 0, .agg [str n, .nils, .nils]] s1 (.tup []) s2]) := by kernel_rfl
theorem rcBurnN : rqEv 37 [.ptr d 0, str n] st [.eff FF id, .eff TT id, .eff (.tup [i64 i, FF]) id, .eff .nils id, FF, .eff TT (fun _ => s1)] = some (i64 8, s1, [obL st 4 (.ptr d 3) FF, obC 69 [str n] st TT st, obC 70 [.ptr d 0, str n] st (.tup [i64 i, FF]) st, obL st 113 (.ptr d 0) .nils, bo (geN 0 4096) = FF, obC 71 [.ptr d 0] st TT s1]) := by kernel_rfl
theorem rcBurnS : rqEv 37 [.ptr d 0, str n] st [.eff FF id, .eff TT id, .eff (.tup [i64 i, FF]) id, .eff (.sl f 3 0 len fl) id, FF, .eff TT (fun _ => s1)] = some (i64 8, s1, [obL st 4 (.ptr d 3) FF, obC 69 [str n] st TT st, obC 70 [.ptr d 0, str n] st (.tup [i64 i, FF]) st, obL st 113 (.ptr d 0) (.sl f 3 0 len fl), bo (geN len 4096) = FF, obC 71 [.ptr d 0] st TT s1]) := by kernel_rfl
theorem rcOkN : rqEv 37 [.ptr d 0, str n] st [.eff FF id, .eff TT id, .eff (.tup [i64 i, FF]) id, .eff .nils id, FF, .eff FF (fun _ => s1), .eff (.tup []) (fun _ => s2)] = some (i64 0, s2, [obL st 4 (.ptr d 3) FF, obC 69 [str n] st TT st, obC 70 [.ptr d 0, str n] st (.tup [i64 i, FF]) st, obL st 113 (.ptr d 0) .nils, bo (geN 0 4096) = FF, obC 71 [.ptr d 0] st FF s1, obC 72 [.ptr d 0, .agg [str n, .nils, .nils]] s1 (.tup []) s2]) := by kernel_rfl
theorem rcOkS : rqEv 37 [.ptr d 0, str n] st [.eff FF id, .eff TT id, .eff (.tup [i64 i, FF]) id, .eff (.sl f 3 0 len fl) id, FF, .eff FF (fun _ => s1), .eff (.tup []) (fun _ => s2)] = some (i64 0, s2, [obL st 4 (.ptr d 3) FF, obC 69 [str n] st TT st, obC 70 [.ptr d 0, str n] st (.tup [i64 i, FF]) st, obL st 113 (.ptr d 0) (.sl f 3 0 len fl), bo (geN len 4096) = FF, obC 71 [.ptr d 0] st FF s1, obC 72 [.ptr d 0, .agg [str n, .nils, .nils]] s1 (.tup []) s2]) := by kernel_rfl
theorem rrNot : rqEv 41 [.ptr d 0, str n] st [.eff (.tup [i64 i, i64 e]) id, TT] = some (i64 e, st, [obT d n i e st, bo (neN e 0) = TT]) := by kernel_rfl
theorem rrBurn : rqEv 41 [.ptr d 0, str n] st [.eff (.tup [i64 i, i64 0]) id, FF, .eff TT (fun _ => s1)] = some (i64 8, s1, [obT d n i 0 st, bo (neN 0 0) = FF, obC 71 [.ptr d 0] st TT s1]) := by kernel_rfl
theorem rrOk : rqEv 41 [.ptr d 0, str n] st [.eff (.tup [i64 i, i64 0]) id, FF, .eff FF (fun _ => s1), .eff (.tup []) (fun _ => s2)] = some (i64 0, s2, [obT d n i 0 st, bo (neN 0 0) = FF, obC 71 [.ptr d 0] st FF s1, obC 76 [.ptr d 0, i64 i] s1 (.tup []) s2]) := by kernel_rfl
theorem rmvOff : rqEv 40 [.ptr d 0, str n, str n2] st [.eff TT id] = some (i64 8, st, [obL st 4 (.ptr d 3) TT]) := by kernel_rfl
theorem rmvBad1 : rqEv 40 [.ptr d 0, str n, str n2] st [.eff FF id, .eff FF id] = some (i64 1, st, [obL st 4 (.ptr d 3) FF, obC 69 [str n] st FF st]) := by kernel_rfl
theorem rmvBad2 : rqEv 40 [.ptr d 0, str n, str n2] st [.eff FF id, .eff TT id, .eff FF id] = some (i64 1, st, [obL st 4 (.ptr d 3) FF, obC 69 [str n] st TT st, obC 69 [str n2] st FF st]) := by kernel_rfl
theorem rmvMiss : rqEv 40 [.ptr d 0, str n, str n2] st [.eff FF id, .eff TT id, .eff TT id, .eff (.tup [i64 i, FF]) id] = some (i64 6, st, [obL st 4 (.ptr d 3) FF, obC 69 [str n] st TT st, obC 69 [str n2] st TT st, obC 70 [.ptr d 0, str n] st (.tup [i64 i, FF]) st]) := by kernel_rfl
theorem rmvBurn : rqEv 40 [.ptr d 0, str n, str n2] st [.eff FF id, .eff TT id, .eff TT id, .eff (.tup [i64 i, TT]) id, .eff TT (fun _ => s1)] = some (i64 8, s1, [obL st 4 (.ptr d 3) FF, obC 69 [str n] st TT st, obC 69 [str n2] st TT st, obC 70 [.ptr d 0, str n] st (.tup [i64 i, TT]) st, obC 71 [.ptr d 0] st TT s1]) := by kernel_rfl
def zR (st : St) : St := st.push (.row [.val (.string ⟨#[]⟩), .nils, .nils] 121)
theorem rmvOk : rqEv 40 [.ptr d 0, str n, str n2] st [.eff FF id, .eff TT id, .eff TT id, .eff (.tup [i64 i, TT]) id, .eff FF (fun _ => s1), .eff (.sl f 3 0 len fl) id, .eff v id, .eff .undef (fun _ => s2), .eff (.tup []) (fun _ => s3), .eff .undef (fun _ => s4), .eff a id, .eff (.tup []) (fun _ => s5)] = some (i64 0, s5,
  [obL st 4 (.ptr d 3) FF, obC 69 [str n] st TT st, obC 69 [str n2] st TT st, obC 70 [.ptr d 0, str n] st (.tup [i64 i, TT]) st, obC 71 [.ptr d 0] st FF s1, obL s1 113 (.ptr d 0) (.sl f 3 0 len fl), 0 ≤ (i : Int) ∧ (i : Int) < len, obL s1 121 (.ptr f (0 + i * 3)) v, storeA E0 (zR s1) 121 (.ptr s1.next 0) v = some s2, obC 76 [.ptr d 0, i64 i] s2 (.tup []) s3, storeA E0 s3 9 (.ptr s1.next 0) (str n2) = some s4, obL s4 121 (.ptr s1.next 0) a, obC 72 [.ptr d 0, a] s4 (.tup []) s5]) := by kernel_rfl
theorem rsNot : rqEv 39 [.ptr d 0, str n] st [.eff (.tup [i64 i, i64 e]) id, TT] = some (i64 e, st, [obT d n i e st, bo (neN e 0) = TT]) := by kernel_rfl
theorem rsBurn : rqEv 39 [.ptr d 0, str n] st [.eff (.tup [i64 i, i64 0]) id, FF, .eff TT (fun _ => s1)] = some (i64 8, s1, [obT d n i 0 st, bo (neN 0 0) = FF, obC 71 [.ptr d 0] st TT s1]) := by kernel_rfl
/-- a file's bytes, in a slice of their own, with others behind -/
def obOwn (I : List Nat) (st s2 s3 : St) (lv x o1 o2 : AV) : Ob := [(true = true → I.all (fun k => (st.get k).isSome) = true), obC 75 [lv] (st.hide I) o1 s2, (true = true → I.all (fun k => ((s2.show st I).get k).isSome) = true), appendA E0 ((s2.show st I).hide I) 28 28 o1 x = some (o2, s3)]
def shw (I : List Nat) (st s2 s3 : St) : St := s3.show (s2.show st I) I
theorem rsOk : rqEv 39 [.ptr d 0, str n] st [.eff (.tup [i64 i, i64 0]) id, FF, .eff FF (fun _ => s1), .eff (.sl f 3 0 len fl) id, .eff (.sl f 3 0 len fl) id, .eff (.ptr f j) id, .eff lv id, .eff (.sl f 3 0 len fl) id, .eff (.ptr f j) id, .eff ov id, .eff o1 (fun _ => s2), .eff o2 (fun _ => s3), .eff (.ptr f j) id, .eff .undef (fun _ => s4), .eff (.sl f 3 0 len fl) id, .eff .undef (fun _ => s5)] = some (i64 0, s5,
  [obT d n i 0 st, bo (neN 0 0) = FF, obC 71 [.ptr d 0] st FF s1, ∀ k ∈ [d, d, f, d, f], k < s1.next, [d, d, f, d, f].contains d = true ∧ loadA E0 s1 113 (.ptr d 0) = some (.sl f 3 0 len fl), [d, d, f, d, f].contains d = true ∧ loadA E0 s1 113 (.ptr d 0) = some (.sl f 3 0 len fl), indexAddrA E0 113 (.sl f 3 0 len fl) (i64 i) = some (.ptr f j), [d, d, f, d, f].contains f = true ∧ loadA E0 s1 28 (.ptr f (j + 1)) = some lv,
   [d, d, f, d, f].contains d = true ∧ loadA E0 s1 113 (.ptr d 0) = some (.sl f 3 0 len fl), indexAddrA E0 113 (.sl f 3 0 len fl) (i64 i) = some (.ptr f j), [d, d, f, d, f].contains f = true ∧ loadA E0 s1 28 (.ptr f (j + 2)) = some ov] ++ obOwn [d, d, f, d, f] s1 s2 s3 lv ov o1 o2 ++
  [indexAddrA E0 113 (.sl f 3 0 len fl) (i64 i) = some (.ptr f j), (false = true → [d, d, f, d, f].all (fun k => ((shw [d, d, f, d, f] s1 s2 s3).get k).isSome) = true), storeA E0 (shw [d, d, f, d, f] s1 s2 s3) 28 (.ptr f (j + 1)) o2 = some s4, obL s4 113 (.ptr d 0) (.sl f 3 0 len fl), 0 ≤ (i : Int) ∧ (i : Int) < len, storeA E0 s4 28 (.ptr f (0 + i * 3 + 2)) .nils = some s5]) := by kernel_rfl
theorem rapNot : rqEv 38 [.ptr d 0, str n, x] st [.eff (.tup [i64 i, i64 e]) id, TT] = some (i64 e, st, [obT d n i e st, bo (neN e 0) = TT]) := by kernel_rfl
def gtQ (a b : Int) (v : AV) : Prop := binA E0 .gtr 3 (i64 a) (i64 b) = some v
def obRm (d : Nat) (len : Nat) (q u y : Int) (st s2 : St) (r : AV) : Ob := [∀ k ∈ [d], k < st.next, gtQ len 0 TT, [d].contains d = true ∧ loadA E0 st 3 (.ptr d 1) = some (i64 q), (true = true → [d].all (fun k => (st.get k).isSome) = true), obC 74 [.ptr d 0] (st.hide [d]) (i64 u) s2, addP u len (i64 y), gtQ y q r]
def obNoR (len : Nat) (st : St) : Ob := [∀ k ∈ ([] : List Nat), k < st.next, gtQ len 0 FF]
def obTl (d f len i j : Nat) (fl : Bool) (x o1 o2 ov : AV) (sb s3 s4 s5 s6 : St) : Ob := [obC 71 [.ptr d 0] sb FF s3, ∀ k ∈ [d, d, f], k < s3.next, [d, d, f].contains d = true ∧ loadA E0 s3 113 (.ptr d 0) = some (.sl f 3 0 len fl), [d, d, f].contains d = true ∧ loadA E0 s3 113 (.ptr d 0) = some (.sl f 3 0 len fl), indexAddrA E0 113 (.sl f 3 0 len fl) (i64 i) = some (.ptr f j), [d, d, f].contains f = true ∧ loadA E0 s3 28 (.ptr f (j + 2)) = some ov] ++ obOwn [d, d, f] s3 s4 s5 ov x o1 o2 ++
  [indexAddrA E0 113 (.sl f 3 0 len fl) (i64 i) = some (.ptr f j), (false = true → [d, d, f].all (fun k => ((shw [d, d, f] s3 s4 s5).get k).isSome) = true), storeA E0 (shw [d, d, f] s3 s4 s5) 28 (.ptr f (j + 2)) o2 = some s6]
def tlX (F pf ov o1 o2 : AV) (s3 s4 s5 s6 : St) : List Or := [.eff FF (fun _ => s3), .eff F id, .eff F id, .eff pf id, .eff ov id, .eff o1 (fun _ => s4), .eff o2 (fun _ => s5), .eff pf id, .eff .undef (fun _ => s6)]
section
variable (c : List AV) (g : Bool) (k : Nat)
theorem rapFull : rqEv 38 [.ptr d 0, str n, .imm 1 k g c] st [.eff (.tup [i64 i, i64 0]) id, FF, .eff TT id, .eff (i64 q) id, .eff (i64 u) (fun _ => s2), .eff (i64 y) id, .eff TT id] = some (i64 7, s2.show st [d], [obT d n i 0 st, bo (neN 0 0) = FF] ++ obRm d k q u y st s2 TT) := by kernel_rfl
theorem rapBurn : rqEv 38 [.ptr d 0, str n, .imm 1 k g c] st [.eff (.tup [i64 i, i64 0]) id, FF, .eff TT id, .eff (i64 q) id, .eff (i64 u) (fun _ => s2), .eff (i64 y) id, .eff FF id, .eff TT (fun _ => s3)] = some (i64 8, s3, [obT d n i 0 st, bo (neN 0 0) = FF] ++ obRm d k q u y st s2 FF ++ [obC 71 [.ptr d 0] (s2.show st [d]) TT s3]) := by kernel_rfl
theorem rapOk : rqEv 38 [.ptr d 0, str n, .imm 1 k g c] st (([.eff (.tup [i64 i, i64 0]) id, FF, .eff TT id, .eff (i64 q) id, .eff (i64 u) (fun _ => s2), .eff (i64 y) id, .eff FF id] : List Or) ++ tlX (.sl f 3 0 len fl) (.ptr f j) ov o1 o2 s3 s4 s5 s6) = some (i64 0, s6, [obT d n i 0 st, bo (neN 0 0) = FF] ++ obRm d k q u y st s2 FF ++ obTl d f len i j fl (.imm 1 k g c) o1 o2 ov (s2.show st [d]) s3 s4 s5 s6) := by kernel_rfl
theorem rapBurn0I : rqEv 38 [.ptr d 0, str n, .imm 1 k g c] st [.eff (.tup [i64 i, i64 0]) id, FF, .eff FF id, .eff TT (fun _ => s3)] = some (i64 8, s3, [obT d n i 0 st, bo (neN 0 0) = FF] ++ obNoR k st ++ [obC 71 [.ptr d 0] st TT s3]) := by kernel_rfl
theorem rapBurn0N : rqEv 38 [.ptr d 0, str n, .nils] st [.eff (.tup [i64 i, i64 0]) id, FF, .eff FF id, .eff TT (fun _ => s3)] = some (i64 8, s3, [obT d n i 0 st, bo (neN 0 0) = FF] ++ obNoR 0 st ++ [obC 71 [.ptr d 0] st TT s3]) := by kernel_rfl
theorem rapOk0I : rqEv 38 [.ptr d 0, str n, .imm 1 k g c] st (([.eff (.tup [i64 i, i64 0]) id, FF, .eff FF id] : List Or) ++ tlX (.sl f 3 0 len fl) (.ptr f j) ov o1 o2 s3 s4 s5 s6) = some (i64 0, s6, [obT d n i 0 st, bo (neN 0 0) = FF] ++ obNoR k st ++ obTl d f len i j fl (.imm 1 k g c) o1 o2 ov st s3 s4 s5 s6) := by kernel_rfl
theorem rapOk0N : rqEv 38 [.ptr d 0, str n, .nils] st (([.eff (.tup [i64 i, i64 0]) id, FF, .eff FF id] : List Or) ++ tlX (.sl f 3 0 len fl) (.ptr f j) ov o1 o2 s3 s4 s5 s6) = some (i64 0, s6, [obT d n i 0 st, bo (neN 0 0) = FF] ++ obNoR 0 st ++ obTl d f len i j fl .nils o1 o2 ov st s3 s4 s5 s6) := by kernel_rfl
theorem rreNot : rqEv 42 [.ptr d 0, str n] st [.eff (.tup [i64 i, i64 e]) id, TT] = some (.tup [.nils, i64 e], st, [obT d n i e st, bo (neN e 0) = TT]) := by kernel_rfl
theorem rreOk : rqEv 42 [.ptr d 0, str n] st [.eff (.tup [i64 i, i64 0]) id, FF, .eff (.sl f 3 0 len fl) id, .eff (.ptr f j) id, .eff lv id, .eff (.sl f 3 0 len fl) id, .eff (.ptr f j) id, .eff ov id, .eff o1 (fun _ => s2), .eff o2 (fun _ => s3)] = some (.tup [o2, i64 0], shw [d, f, d, f] st s2 s3,
  [obT d n i 0 st, bo (neN 0 0) = FF, ∀ k ∈ [d, f, d, f], k < st.next, [d, f, d, f].contains d = true ∧ loadA E0 st 113 (.ptr d 0) = some (.sl f 3 0 len fl), indexAddrA E0 113 (.sl f 3 0 len fl) (i64 i) = some (.ptr f j), [d, f, d, f].contains f = true ∧ loadA E0 st 28 (.ptr f (j + 1)) = some lv,
   [d, f, d, f].contains d = true ∧ loadA E0 st 113 (.ptr d 0) = some (.sl f 3 0 len fl), indexAddrA E0 113 (.sl f 3 0 len fl) (i64 i) = some (.ptr f j), [d, f, d, f].contains f = true ∧ loadA E0 st 28 (.ptr f (j + 2)) = some ov] ++ obOwn [d, f, d, f] st s2 s3 lv ov o1 o2) := by kernel_rfl
theorem rloNot : rqEv 43 [.ptr d 0, str n] st [.eff (.tup [i64 i, i64 e]) id, TT] = some (.tup [i64 0, i64 e], st, [obT d n i e st, bo (neN e 0) = TT]) := by kernel_rfl
theorem rloI : rqEv 43 [.ptr d 0, str n] st [.eff (.tup [i64 i, i64 0]) id, FF, .eff (.sl f 3 0 len fl) id, .eff (.imm 1 k g c) id] = some (.tup [i64 k, i64 0], st, [obT d n i 0 st, bo (neN 0 0) = FF, obL st 113 (.ptr d 0) (.sl f 3 0 len fl), 0 ≤ (i : Int) ∧ (i : Int) < len, obL st 28 (.ptr f (0 + i * 3 + 2)) (.imm 1 k g c)]) := by kernel_rfl
theorem rloN : rqEv 43 [.ptr d 0, str n] st [.eff (.tup [i64 i, i64 0]) id, FF, .eff (.sl f 3 0 len fl) id, .eff .nils id] = some (.tup [i64 0, i64 0], st, [obT d n i 0 st, bo (neN 0 0) = FF, obL st 113 (.ptr d 0) (.sl f 3 0 len fl), 0 ≤ (i : Int) ∧ (i : Int) < len, obL st 28 (.ptr f (0 + i * 3 + 2)) .nils]) := by kernel_rfl
end
end
end
section
set_option maxRecDepth 4000
theorem show_rest {st s' : St} {I S : List Nat} (h : Rest (st.hide I) s' S) (hI : ∀ i ∈ I, i ∉ S) : Rest st (s'.show st I) S ∧ ∀ k, (s'.show st I).get k = s'.get k := by
  have hg : ∀ k, (s'.show st I).get k = s'.get k := fun k => by
    rw [St.show_get]
    split
    · rename_i hk
      obtain ⟨o, ho⟩ := Option.isSome_iff_exists.1 hk.2
      rw [ho, h.keep k o (hI k hk.1) ho]
    · rfl
  have hn : (s'.show st I).next = s'.next := by
    show (St.show1 _ _ _).next = _
    rw [St.show1_next]
  refine ⟨⟨fun i o hi ho => by rw [hg]; exact h.keep i o hi ho, by rw [hn]; exact h.next, rfl, ?_, fun i o ho => ?_⟩, hg⟩
  · show (St.show1 _ _ _).gl = _
    rw [St.show1_gl]; exact h.gl
  · rw [hg] at ho
    show i < (s'.show st I).next
    rw [hn]; exact h.wf _ _ ho
theorem OwnB.of_get {st st' : St} {v : AV} {bs : List Int} (h : OwnB st v bs) (hk : ∀ i ∈ fid v, ∀ o, st.get i = some o → st'.get i = some o) : OwnB st' v bs := by
  rcases h with h | ⟨h, i, rfl, hg⟩ | ⟨h, i, rfl, hg⟩
  · exact .inl h
  · exact .inr (.inl ⟨h, i, rfl, hk i (by simp [fid]) _ hg⟩)
  · exact .inr (.inr ⟨h, i, rfl, hk i (by simp [fid]) _ hg⟩)
theorem app_row2 {st : St} {id len n : Nat} {vs c : List AV} {x : AV} (hg : st.get id = some (.row vs 5)) (hl : id ∉ st.lock) (ho : len = vs.length) (hx : sliceCells st x = some (n, c)) (hc : c.length = n) (h0 : n ≠ 0) (hb : len + n ≤ big) :
    appendA E0 st 28 28 (.sl id 1 0 len false) x = some (.sl st.next 1 0 (len + n) false, (st.del id).push (.row (vs ++ c) 5)) := by
  unfold big at hb
  simp only [appendA, el28, src28, hx, str28, hg, Nat.mul_one]
  rw [if_pos ⟨hc, fun h => by cases h⟩, if_neg (fun h => h rfl), if_neg h0, if_pos ⟨by omega, by omega⟩, if_pos ⟨trivial, by omega⟩, if_neg (by simp), if_pos ⟨by omega, hl⟩, List.drop_zero]
/-- append behind one's own bytes, some objects locked -/
theorem app_own2 {st : St} {v x : AV} {bs c : List Int} (hv : OwnB st v bs) (hw : st.wf) (hl : ∀ i ∈ fid v, i ∉ st.lock) (hx : sliceCells st x = some (c.length, c.map u8)) (hb : bs.length + c.length ≤ big) :
    ∃ v' st', appendA E0 st 28 28 v x = some (v', st') ∧ OwnB st' v' (bs ++ c) ∧ Rest st st' (fid v) ∧ (v' = v ∧ st' = st ∨ ∃ l f, v' = .sl st.next 1 0 l f) := by
  by_cases h0 : c.length = 0
  · have hc : c = [] := List.eq_nil_of_length_eq_zero h0
    subst hc
    exact ⟨v, st, app_zero hv.kind hx rfl, by simpa using hv, Rest.refl hw _, .inl ⟨rfl, rfl⟩⟩
  have hne : bs ++ c ≠ [] := fun e => h0 (by rw [(List.append_eq_nil_iff.1 e).2]; rfl)
  rcases hv with ⟨rfl, rfl⟩ | ⟨rfl, i, rfl, hg⟩ | ⟨hbs, i, rfl, hg⟩
  · exact ⟨_, _, app_nil hx (by simp) h0 (by simpa using hb), .inr (.inr ⟨hne, st.next, by simp, by rw [St.get_push, if_pos rfl]; simp⟩), Rest.push hw _ _, .inr ⟨_, _, rfl⟩⟩
  · exact ⟨_, _, app_full hg (by simp) hx (by simp) h0 (by simpa using hb), .inr (.inr ⟨hne, st.next, by simp, by rw [St.get_push, if_pos rfl]; simp⟩), Rest.push hw _ _, .inr ⟨_, _, rfl⟩⟩
  · have hdw : (st.del i).wf := fun j p h => by
      rw [St.get_del] at h
      split at h
      · cases h
      · exact hw _ _ h
    refine ⟨_, _, app_row2 hg (hl i (by simp [fid])) (by simp) hx (by simp) h0 hb, .inr (.inr ⟨hne, st.next, by simp, by rw [St.get_push, if_pos (by simp)]; simp⟩), ⟨fun j p hj h => ?_, by simp, rfl, rfl, push_wf hdw _⟩, .inr ⟨_, _, rfl⟩⟩
    have := hw _ _ h
    rw [St.get_push, if_neg (by simp; omega), St.get_del, if_neg (fun e => hj (by simp [fid, e]))]; exact h
/-- bytes that are one's own alone: not an empty row -/
theorem own_ok {st : St} {v : AV} {bs : List Int} (hv : BV v bs) (hw : st.wf) (hb : bs.length ≤ big) : ∃ o st', obC 75 [v] st o st' ∧ OwnB st' o bs ∧ Rest st st' [] ∧ ∀ i ∈ fid o, st.next ≤ i := by
  obtain ⟨o, st', h1, h2, h3, h4⟩ := app_own2 (st := st) (v := .nils) (bs := []) (.inl ⟨rfl, rfl⟩) hw (fun i hi => by cases hi) (hv.cells st) (by simpa using hb)
  refine ⟨o, st', rf_run (ownRun v o st st') (by simp only [Ob.ok_cons, Ob.ok_nil, and_true]; exact h1), h2, h3, fun i hi => ?_⟩
  rcases h4 with ⟨rfl, _⟩ | ⟨l, g, rfl⟩
  · cases hi
  · simp only [fid, List.mem_singleton] at hi; omega
theorem hide_wf {st : St} (hw : st.wf) (I : List Nat) : (st.hide I).wf := fun i o h => hw i o h
theorem ownApp_ok {I : List Nat} {st : St} {lv x : AV} {lb c : List Int} (hw : st.wf) (hl : st.lock = []) (hI : ∀ k ∈ I, (st.get k).isSome = true) (hv : BV lv lb) (hx : BV x c) (hb : lb.length + c.length ≤ big) :
    ∃ o1 o2 s2 s3, (obOwn I st s2 s3 lv x o1 o2).ok ∧ OwnB (shw I st s2 s3) o2 (lb ++ c) ∧ Rest st (shw I st s2 s3) [] ∧ ∀ i ∈ fid o2, st.next ≤ i := by
  obtain ⟨o1, s2, a1, a2, a3, a4⟩ := own_ok (st := st.hide I) hv (hide_wf hw I) (by omega)
  obtain ⟨R2, g2⟩ := show_rest a3 (by simp)
  have hin : ∀ k ∈ I, k < st.next := fun k hk => by
    obtain ⟨o, ho⟩ := Option.isSome_iff_exists.1 (hI k hk)
    exact hw _ _ ho
  have hown : OwnB ((s2.show st I).hide I) o1 lb := a2.of_get fun i _ o ho => by rw [St.hide_get, g2]; exact ho
  have hlock : ∀ i ∈ fid o1, i ∉ ((s2.show st I).hide I).lock := fun i hi hm => by
    have h1 := a4 i hi
    have e : ((s2.show st I).hide I).lock = I := by
      show I ++ (s2.show st I).lock = I
      rw [R2.lock, hl, List.append_nil]
    rw [e] at hm
    have := hin i hm
    simp only [St.hide_next] at h1
    omega
  obtain ⟨o2, s3, b1, b2, b3, b4⟩ := app_own2 hown (hide_wf R2.wf I) hlock (hx.cells _) hb
  obtain ⟨R3, g3⟩ := show_rest b3 (fun i hi hf => by
    have := hin i hi
    have := a4 i hf
    simp only [St.hide_next] at this
    omega)
  refine ⟨o1, o2, s2, s3, ?_, b2.of_get fun i _ o ho => by unfold shw; rw [g3]; exact ho, R2.old R3 (fun i hi => a4 i hi) hw, fun i hi => ?_⟩
  · unfold obOwn
    simp only [Ob.ok_cons, Ob.ok_nil, and_true]
    refine ⟨fun _ => List.all_eq_true.2 hI, a1, fun _ => List.all_eq_true.2 fun k hk => ?_, b1⟩
    obtain ⟨o, ho⟩ := Option.isSome_iff_exists.1 (hI k hk)
    rw [R2.keep _ _ (by simp) ho]; rfl
  · rcases b4 with ⟨rfl, _⟩ | ⟨l, g, rfl⟩
    · exact a4 i hi
    · simp only [fid, List.mem_singleton] at hi
      have := R2.next
      simp only [St.hide_next] at hi
      omega
theorem frz_bv {id : Nat} {vs : List AV} {v : AV} {bs : List Int} (h : BV v bs) : frz id vs v = v := frz_dv (f := ⟨⟨#[]⟩, v, bs, 0⟩) h
def frzF (id : Nat) (vs : List AV) (f : RF) : RF := { f with lv := frz id vs f.lv, ov := frz id vs f.ov }
theorem frz_cells (id : Nat) (vs : List AV) : ∀ F : List RF, frzL id vs (cells F) = cells (F.map (frzF id vs))
  | [] => rfl
  | f :: r => by simp only [cells, List.map_cons, frzL, frz_cells id vs r]; rfl
theorem frzF_good {F : List RF} (h : RGood F) (id : Nat) (vs : List AV) : F.map (frzF id vs) = F := by
  conv => rhs; rw [← List.map_id F]
  refine List.map_congr_left fun f hf => ?_
  obtain ⟨h1, h2⟩ := h f hf
  simp only [frzF, frz_bv h1, frz_bv h2]
  rfl
theorem freeze_ref {st s8 : St} {d j : Nat} {fv a : AV} {s : RS} {S : List Nat} {vs : List AV} {args : List AV} {f : Nat} (h : obC f args st a s8) (ha : frz j vs a = a) (hp : RD s8 d fv s) (hr : Rest st s8 S) (hw : st.wf) (hl : st.lock = []) (hj : s8.get j = some (.row vs 5)) (hjn : st.next ≤ j) :
    ∃ st', obC f args st a st' ∧ RD st' d fv { s with F := s.F.map (frzF j vs) } ∧ RestF st st' S := by
  have hF := frzSt_ok (id := j) (vs := vs) hr.wf
  have hjd : d ≠ j := row_ne hp.row hj (by decide)
  refine ⟨frzSt j vs s8, ?_, ⟨?_, ?_⟩, ⟨fun i o hi ho hs => ?_, hr.next, hr.lock, hr.gl, frz_wf hr.wf⟩⟩
  · refine ACalls.freeze h fun b s' ⟨e1, e2⟩ _ _ => ⟨j, vs, 5, by rw [e2]; exact hj, by rw [e2]; exact hr.lock.trans hl, by rw [e1]; exact ha, by rw [e2]⟩
  · rw [hF.get, if_neg hjd, hp.row]
    simp only [Option.map_some, frzO, frzL]
    rcases hp.fv with ⟨_, e⟩ | ⟨_, r, fl, e, hg⟩
    · rw [e]; rfl
    · have hjr : r ≠ j := row_ne hg hj (by decide)
      rw [e]
      simp only [frz, if_neg hjr]
      rfl
  · rcases hp.fv with ⟨e1, e⟩ | ⟨h0, r, fl, e, hg⟩
    · exact .inl ⟨by show s.F.map _ = []; rw [e1]; rfl, e⟩
    · have hjr : r ≠ j := row_ne hg hj (by decide)
      refine .inr ⟨by simpa using h0, r, fl, by simpa using e, ?_⟩
      rw [hF.get, if_neg hjr, hg]
      simp only [Option.map_some, frzO, frz_cells]
  · have := hr.keep i o hi ho
    have hii := hw _ _ ho
    rw [hF.get, if_neg (by omega), this, Option.map_some, hs j _ hjn]
end
section
set_option maxRecDepth 4000
theorem rq_run {f : Nat} {args : List AV} {a : AV} {st st' : St} {o : List Or} {ob : Ob} (h : rqEv f args st o = some (a, st', ob)) (hob : ob.ok) : obC f args st a st' := by
  obtain ⟨⟨a1, s1, x1, o1⟩, h1, h2⟩ := Option.map_eq_some_iff.1 h
  simp only [Prod.mk.injEq] at h2
  obtain ⟨rfl, rfl, rfl⟩ := h2
  exact ACalls.run hE (ov := noOv) noOv_ok h1 hob
theorem neN_T {a : Int} (h : a ≠ 0) : bo (neN a 0) = TT := ob_T (by show (a != 0) = true; simpa using h)
theorem neN_F : bo (neN 0 0) = FF := ob_F rfl
def rCreate (s : RS) (n : ByteArray) : Int × RS :=
  if s.off = true then (8, s) else if ¬ mayS n then (1, s) else if hit n s.F = false ∧ 4096 ≤ s.F.length then (7, s) else
  if burnB s.fu = true then (8, rBurnt s) else (0, { rBurnt s with F := putF s.F ⟨n, .nils, .nils, [], []⟩ })
theorem rcreate_ok {st : St} {d : Nat} {fv : AV} {s : RS} (hp : RD st d fv s) (hw : st.wf) (hl : st.lock = []) (hsz : s.F.length + 1 ≤ 1000000) (hf : 0 ≤ s.fu ∧ s.fu ≤ 9223372036854775807) {n : ByteArray} (hn : n.size ≤ 1000000000000) :
    ∃ st' fv', obC 37 [.ptr d 0, str n] st (i64 (rCreate s n).1) st' ∧ RD st' d fv' (rCreate s n).2 ∧ Rest st st' (d :: fid fv) := by
  have o1 : obL st 4 (.ptr d 3) (bo s.off) := ⟨load_row hp.row (p4 rfl), rfl⟩
  have o2 := refMay_ok n hn st
  have o3 := at_ok hp hw (by omega) n
  unfold rCreate
  cases hoff : s.off with
  | true =>
    rw [if_pos rfl]
    rw [hoff] at o1
    exact ⟨st, fv, rq_run (rcOff d n st) (by simp only [Ob.ok_cons, Ob.ok_nil, and_true]; exact o1), hp, Rest.refl hw _⟩
  | false =>
    rw [if_neg (by decide)]
    rw [hoff] at o1
    by_cases hm : mayS n
    · rw [if_neg (fun h => h hm)]
      rw [decide_eq_true hm] at o2
      obtain ⟨s1, b1, b2, b3⟩ := goes_ok hp hw hl hoff hf
      have R1 : Rest st s1 (d :: fid fv) := b3.weak (by simp)
      have tail : ∃ s2 fv', obC 72 [.ptr d 0, .agg [str n, .nils, .nils]] s1 (.tup []) s2 ∧ RD s2 d fv' { rBurnt s with F := putF s.F ⟨n, .nils, .nils, [], []⟩ } ∧ Rest st s2 (d :: fid fv) := by
        obtain ⟨s2, fv', c1, c2, c3⟩ := put_ok' b2 b3.wf (b3.lock.trans hl) hsz ⟨n, .nils, .nils, [], []⟩
        exact ⟨s2, fv', c1, c2, R1.trans c3⟩
      obtain ⟨s2, fv', c1, c2, c3⟩ := tail
      cases hh : hit n s.F with
      | true =>
        rw [hh] at o3
        rw [if_neg (fun h => by cases h.1)]
        by_cases hb : burnB s.fu = true
        · rw [if_pos hb]
          rw [hb] at b1
          exact ⟨s1, fv, rq_run (rcBurnT d (pos n s.F) n st s1) (by simp only [Ob.ok_cons, Ob.ok_nil, and_true]; exact ⟨o1, o2, o3, b1⟩), b2, R1⟩
        · rw [if_neg hb]
          rw [Bool.not_eq_true] at hb
          rw [hb] at b1
          exact ⟨s2, fv', rq_run (rcOkT d (pos n s.F) n st s1 s2) (by simp only [Ob.ok_cons, Ob.ok_nil, and_true]; exact ⟨o1, o2, o3, b1, c1⟩), c2, c3⟩
      | false =>
        rw [hh] at o3
        have o4 : obL st 113 (.ptr d 0) fv := ⟨hp.load, rfl⟩
        rcases hp.fv with ⟨h2, rfl⟩ | ⟨h0, f, fl, rfl, hg⟩
        · have hlen : ¬ (false = false ∧ 4096 ≤ s.F.length) := by rw [h2]; simp
          rw [if_neg hlen]
          have hge : bo (geN 0 4096) = FF := by kernel_rfl
          by_cases hb : burnB s.fu = true
          · rw [if_pos hb]
            rw [hb] at b1
            exact ⟨s1, .nils, rq_run (rcBurnN d (pos n s.F) n st s1) (by simp only [Ob.ok_cons, Ob.ok_nil, and_true]; exact ⟨o1, o2, o3, o4, hge, b1⟩), b2, R1⟩
          · rw [if_neg hb]
            rw [Bool.not_eq_true] at hb
            rw [hb] at b1
            exact ⟨s2, fv', rq_run (rcOkN d (pos n s.F) n st s1 s2) (by simp only [Ob.ok_cons, Ob.ok_nil, and_true]; exact ⟨o1, o2, o3, o4, hge, b1, c1⟩), c2, c3⟩
        · by_cases hlen : 4096 ≤ s.F.length
          · rw [if_pos ⟨rfl, hlen⟩]
            exact ⟨st, _, rq_run (rcFull d f s.F.length (pos n s.F) fl n st) (by simp only [Ob.ok_cons, Ob.ok_nil, and_true]; exact ⟨o1, o2, o3, o4, ob_T (by rw [geN_eq]; simp; omega)⟩), hp, Rest.refl hw _⟩
          · rw [if_neg (fun h => hlen h.2)]
            have hge : bo (geN s.F.length 4096) = FF := ob_F (by rw [geN_eq]; simp; omega)
            by_cases hb : burnB s.fu = true
            · rw [if_pos hb]
              rw [hb] at b1
              exact ⟨s1, _, rq_run (rcBurnS d f s.F.length (pos n s.F) fl n st s1) (by simp only [Ob.ok_cons, Ob.ok_nil, and_true]; exact ⟨o1, o2, o3, o4, hge, b1⟩), b2, R1⟩
            · rw [if_neg hb]
              rw [Bool.not_eq_true] at hb
              rw [hb] at b1
              exact ⟨s2, fv', rq_run (rcOkS d f s.F.length (pos n s.F) fl n st s1 s2) (by simp only [Ob.ok_cons, Ob.ok_nil, and_true]; exact ⟨o1, o2, o3, o4, hge, b1, c1⟩), c2, c3⟩
    · rw [if_pos hm]
      rw [decide_eq_false hm] at o2
      exact ⟨st, fv, rq_run (rcBad d n st) (by simp only [Ob.ok_cons, Ob.ok_nil, and_true]; exact ⟨o1, o2⟩), hp, Rest.refl hw _⟩
def rRemove (s : RS) (n : ByteArray) : Int × RS :=
  if thE s n ≠ 0 then (thE s n, s) else if burnB s.fu = true then (8, rBurnt s) else (0, { rBurnt s with F := s.F.eraseIdx (pos n s.F) })
theorem thE_off {s : RS} {n : ByteArray} (h : thE s n = 0) : s.off = false ∧ mayS n ∧ hit n s.F = true := by
  unfold thE at h
  split at h
  · cases h
  · rename_i h1
    split at h
    · cases h
    · rename_i h2
      split at h
      · cases h
      · rename_i h3
        exact ⟨by simpa using h1, Classical.not_not.1 h2, by simpa using h3⟩
theorem rremove_ok {st : St} {d : Nat} {fv : AV} {s : RS} (hp : RD st d fv s) (hw : st.wf) (hl : st.lock = []) (hsz : s.F.length ≤ 1000000) (hf : 0 ≤ s.fu ∧ s.fu ≤ 9223372036854775807) {n : ByteArray} (hn : n.size ≤ 1000000000000) :
    ∃ st' fv', obC 41 [.ptr d 0, str n] st (i64 (rRemove s n).1) st' ∧ RD st' d fv' (rRemove s n).2 ∧ Rest st st' (d :: fid fv) := by
  have o1 := there_ok hp hw hsz hn
  unfold rRemove
  by_cases hr : thE s n ≠ 0
  · rw [if_pos hr]
    rw [if_neg hr] at o1
    exact ⟨st, fv, rq_run (rrNot d 0 n (thE s n) st) (by simp only [Ob.ok_cons, Ob.ok_nil, and_true]; exact ⟨o1, neN_T hr⟩), hp, Rest.refl hw _⟩
  · rw [if_neg hr]
    have h0 : thE s n = 0 := by simpa using hr
    rw [h0, if_pos rfl] at o1
    obtain ⟨hoff, hm, hh⟩ := thE_off h0
    obtain ⟨s1, b1, b2, b3⟩ := goes_ok hp hw hl hoff hf
    have R1 : Rest st s1 (d :: fid fv) := b3.weak (by simp)
    by_cases hb : burnB s.fu = true
    · rw [if_pos hb]
      rw [hb] at b1
      exact ⟨s1, fv, rq_run (rrBurn d (pos n s.F) n st s1) (by simp only [Ob.ok_cons, Ob.ok_nil, and_true]; exact ⟨o1, neN_F, b1⟩), b2, R1⟩
    · rw [if_neg hb]
      rw [Bool.not_eq_true] at hb
      rw [hb] at b1
      obtain ⟨s2, fv', c1, c2, c3, _⟩ := cut_ok b2 b3.wf (b3.lock.trans hl) hsz (pos n s.F)
      exact ⟨s2, fv', rq_run (rrOk d (pos n s.F) n st s1 s2) (by simp only [Ob.ok_cons, Ob.ok_nil, and_true]; exact ⟨o1, neN_F, b1, c1⟩), c2, R1.trans (c3.weak (by simp))⟩
def rRename (s : RS) (n n2 : ByteArray) : Int × RS :=
  if s.off = true then (8, s) else if ¬ mayS n ∨ ¬ mayS n2 then (1, s) else if hit n s.F = false then (6, s) else
  if burnB s.fu = true then (8, rBurnt s) else match s.F[pos n s.F]? with
    | some g => (0, { rBurnt s with F := putF (s.F.eraseIdx (pos n s.F)) { g with name := n2 } })
    | none => (0, rBurnt s)
theorem hit_get {n : ByteArray} {F : List RF} (h : hit n F = true) : ∃ f, F[pos n F]? = some f ∧ eqS f.name n = true := by
  unfold hit at h
  split at h
  · rename_i f hf; exact ⟨f, hf, h⟩
  · cases h
theorem store9 {st : St} {a : Nat} {x y z : AV} {ty : Nat} (hg : st.get a = some (.row [x, y, z] ty)) (hl : st.lock = []) (n : ByteArray) : storeA E0 st 9 (.ptr a 0) (str n) = some (st.set a (.row [str n, y, z] ty)) := by
  have hwg := St.wget_of hg (show a ∉ st.lock by rw [hl]; simp)
  have sz : tySize E0 9 = some 1 := by kernel_rfl
  simp [storeA, avCells, oneA, sz, hwg]
theorem Rest.old2 {a b c : St} {S S' : List Nat} (h : Rest a b S) (k : Rest b c S') (hS : ∀ i ∈ S', i ∈ S ∨ a.next ≤ i) (hw : a.wf) : Rest a c S :=
  ⟨fun i o hi ho => k.keep i o (fun hi' => by
      rcases hS i hi' with h1 | h1
      · exact hi h1
      · have := hw _ _ ho; omega) (h.keep i o hi ho), Nat.le_trans h.next k.next, k.lock.trans h.lock, k.gl.trans h.gl, k.wf⟩
theorem rrename_ok {st : St} {d : Nat} {fv : AV} {s : RS} (hp : RD st d fv s) (hw : st.wf) (hl : st.lock = []) (hsz : s.F.length + 1 ≤ 1000000) (hf : 0 ≤ s.fu ∧ s.fu ≤ 9223372036854775807) {n n2 : ByteArray} (hn : n.size ≤ 1000000000000) (hn2 : n2.size ≤ 1000000000000) :
    ∃ st' fv', obC 40 [.ptr d 0, str n, str n2] st (i64 (rRename s n n2).1) st' ∧ RD st' d fv' (rRename s n n2).2 ∧ Rest st st' (d :: fid fv) := by
  have o1 : obL st 4 (.ptr d 3) (bo s.off) := ⟨load_row hp.row (p4 rfl), rfl⟩
  have o2 := refMay_ok n hn st
  have o2' := refMay_ok n2 hn2 st
  have o3 := at_ok hp hw (by omega) n
  unfold rRename
  cases hoff : s.off with
  | true =>
    rw [if_pos rfl]
    rw [hoff] at o1
    exact ⟨st, fv, rq_run (rmvOff d n n2 st) (by simp only [Ob.ok_cons, Ob.ok_nil, and_true]; exact o1), hp, Rest.refl hw _⟩
  | false =>
    rw [if_neg (by decide)]
    rw [hoff] at o1
    by_cases hm : mayS n
    · rw [decide_eq_true hm] at o2
      by_cases hm2 : mayS n2
      · rw [decide_eq_true hm2] at o2'
        rw [if_neg (fun h => h.elim (fun h => h hm) (fun h => h hm2))]
        cases hh : hit n s.F with
        | false =>
          rw [hh] at o3
          rw [if_pos rfl]
          exact ⟨st, fv, rq_run (rmvMiss d (pos n s.F) n n2 st) (by simp only [Ob.ok_cons, Ob.ok_nil, and_true]; exact ⟨o1, o2, o2', o3⟩), hp, Rest.refl hw _⟩
        | true =>
          rw [hh] at o3
          rw [if_neg (by decide)]
          obtain ⟨s1, b1, b2, b3⟩ := goes_ok hp hw hl hoff hf
          have R1 : Rest st s1 (d :: fid fv) := b3.weak (by simp)
          by_cases hb : burnB s.fu = true
          · rw [if_pos hb]
            rw [hb] at b1
            exact ⟨s1, fv, rq_run (rmvBurn d (pos n s.F) n n2 st s1) (by simp only [Ob.ok_cons, Ob.ok_nil, and_true]; exact ⟨o1, o2, o2', o3, b1⟩), b2, R1⟩
          · rw [if_neg hb]
            rw [Bool.not_eq_true] at hb
            rw [hb] at b1
            obtain ⟨g, hg, _⟩ := hit_get hh
            have hlt := (List.getElem?_eq_some_iff.1 hg).1
            obtain ⟨f, fl, rfl, hgf⟩ := b2.fv.of hg
            simp only [hg]
            have l1 : s1.lock = [] := b3.lock.trans hl
            -- the local file
            have gz : (zR s1).get s1.next = some (.row [.val (.string ⟨#[]⟩), .nils, .nils] 121) := by unfold zR; rw [St.get_push, if_pos rfl]
            have lz : (zR s1).lock = [] := l1
            have Rz : Rest s1 (zR s1) [] := Rest.push b3.wf _ _
            have hwg := St.wget_of gz (by rw [lz]; simp)
            have hs2 : storeA E0 (zR s1) 121 (.ptr s1.next 0) (agg g) = some ((zR s1).set s1.next (.row [str g.name, g.lv, g.ov] 121)) := by
              simp only [storeA, agg, avCells, hwg, size121, List.length_cons, List.length_nil]
              rfl
            have hnz : s1.next < (zR s1).next := by show s1.next < s1.next + 1; omega
            have old : ∀ {s' : St} (o : AObj), Rest s1 s' [] → s1.next < s'.next → Rest s1 (s'.set s1.next o) [] := fun {s'} o h h2 => h.old (Rest.set h.wf h2 o (S := [s1.next]) (by simp)) (by simp) b3.wf
            have R2 := old (.row [str g.name, g.lv, g.ov] 121) Rz hnz
            have g2 : ((zR s1).set s1.next (.row [str g.name, g.lv, g.ov] 121)).get s1.next = some (.row [str g.name, g.lv, g.ov] 121) := by rw [St.get_set, if_pos rfl]
            have n2' : ((zR s1).set s1.next (.row [str g.name, g.lv, g.ov] 121)).next = s1.next + 1 := rfl
            generalize (zR s1).set s1.next (.row [str g.name, g.lv, g.ov] 121) = s2 at *
            have hd1 := b3.wf _ _ b2.row
            obtain ⟨s3, fv3, c1, c2, c3, c4⟩ := cut_ok (b2.rest R2 (by simp) (by simp)) R2.wf (R2.lock.trans l1) (by show s.F.length ≤ _; omega) (pos n s.F)
            have hdn : s1.next ∉ [d] := by simp; omega
            have g3 : s3.get s1.next = some (.row [str g.name, g.lv, g.ov] 121) := c3.keep _ _ hdn g2
            have l3 : s3.lock = [] := c3.lock.trans (R2.lock.trans l1)
            have hs4 := store9 g3 l3 n2
            have w4 := set_wf c3.wf (c3.wf _ _ g3) (.row [str n2, g.lv, g.ov] 121)
            have R4 : Rest s3 (s3.set s1.next (.row [str n2, g.lv, g.ov] 121)) [s1.next] := Rest.set c3.wf (c3.wf _ _ g3) _ (by simp)
            have hp4 := c2.rest R4 (by simp; omega) (fun i hi => by
              have := c4 i hi
              simp; omega)
            have g4 : (s3.set s1.next (.row [str n2, g.lv, g.ov] 121)).get s1.next = some (.row [str n2, g.lv, g.ov] 121) := by rw [St.get_set, if_pos rfl]
            have oag : obL s1 121 (.ptr f (0 + pos n s.F * 3)) (agg g) := ⟨by rw [Nat.zero_add]; exact load_row hgf (p121' hg), rfl⟩
            generalize s3.set s1.next (.row [str n2, g.lv, g.ov] 121) = s4 at *
            have hle : (s.F.eraseIdx (pos n s.F)).length + 1 ≤ 1000000 := by
              have := List.length_eraseIdx_le s.F (pos n s.F)
              omega
            obtain ⟨s5, fv5, e1, e2, e3⟩ := put_ok' hp4 w4 (R4.lock.trans l3) hle { g with name := n2 }
            refine ⟨s5, fv5, rq_run (rmvOk d f s.F.length (pos n s.F) fl n n2 (agg g) (agg { g with name := n2 }) st s1 s2 s3 s4 s5) ?_, e2, R1.trans ((((((R2.weak (S' := [d]) (by simp)).trans c3).old2 R4 (by simp) b3.wf).old2 e3 (fun i hi => ?_) b3.wf)).weak (by simp))⟩
            · simp only [Ob.ok_cons, Ob.ok_nil, and_true]
              exact ⟨o1, o2, o2', o3, b1, ⟨b2.load, rfl⟩, by omega, oag, hs2, c1, hs4, ⟨load_row g4 p121, rfl⟩, e1⟩
            · rcases List.mem_cons.1 hi with rfl | hi
              · exact .inl (by simp)
              · have := c4 i hi
                exact .inr (by omega)
      · rw [decide_eq_false hm2] at o2'
        rw [if_pos (.inr hm2)]
        exact ⟨st, fv, rq_run (rmvBad2 d n n2 st) (by simp only [Ob.ok_cons, Ob.ok_nil, and_true]; exact ⟨o1, o2, o2'⟩), hp, Rest.refl hw _⟩
    · rw [if_pos (.inl hm)]
      rw [decide_eq_false hm] at o2
      exact ⟨st, fv, rq_run (rmvBad1 d n n2 st) (by simp only [Ob.ok_cons, Ob.ok_nil, and_true]; exact ⟨o1, o2⟩), hp, Rest.refl hw _⟩
end
section
set_option maxRecDepth 4000
theorem cells_split {F : List RF} {i : Nat} {g : RF} (hg : F[i]? = some g) : cells F = cells (F.take i) ++ ([str g.name, g.lv, g.ov] ++ cells (F.drop (i + 1))) := by
  have hlt := (List.getElem?_eq_some_iff.1 hg).1
  conv => lhs; rw [← List.take_append_drop i F, cells_append, drop_at hg]
  rfl
theorem cells_put {F : List RF} {i : Nat} (hi : i < F.length) (f : RF) : cells (F.set i f) = cells (F.take i) ++ ([str f.name, f.lv, f.ov] ++ cells (F.drop (i + 1))) := by
  rw [List.set_eq_take_append_cons_drop, if_pos hi, cells_append]
  rfl
theorem take_len {F : List RF} {i : Nat} (hi : i < F.length) : (cells (F.take i)).length = i * 3 := by
  rw [cells_length, List.length_take, Nat.min_eq_left (by omega)]
theorem size28' : tySize E0 28 = some 1 := by kernel_rfl
theorem storeL {st : St} {r i : Nat} {F : List RF} {g : RF} {v : AV} (hg : st.get r = some (.row (cells F) 121)) (hl : st.lock = []) (hF : F[i]? = some g) (hv : avCells v = some [v]) : storeA E0 st 28 (.ptr r (i * 3 + 1)) v = some (st.set r (.row (cells (F.set i { g with lv := v })) 121)) := by
  have hwg := St.wget_of hg (show r ∉ st.lock by rw [hl]; simp)
  have hlt := (List.getElem?_eq_some_iff.1 hF).1
  simp only [storeA, hv, hwg, size28', List.length_cons, List.length_nil]
  rw [if_pos ⟨trivial, by rw [cells_length]; omega⟩, cells_put hlt, cells_split hF]
  have h1 : i * 3 + 1 = (cells (F.take i)).length + 1 := by rw [take_len hlt]
  have h2 : i * 3 + 1 + (0 + 1) = (cells (F.take i)).length + 2 := by rw [take_len hlt]
  rw [h2, h1, List.take_length_add_append, List.drop_length_add_append]
  simp
theorem storeO {st : St} {r i : Nat} {F : List RF} {g : RF} {v : AV} (hg : st.get r = some (.row (cells F) 121)) (hl : st.lock = []) (hF : F[i]? = some g) (hv : avCells v = some [v]) : storeA E0 st 28 (.ptr r (i * 3 + 2)) v = some (st.set r (.row (cells (F.set i { g with ov := v })) 121)) := by
  have hwg := St.wget_of hg (show r ∉ st.lock by rw [hl]; simp)
  have hlt := (List.getElem?_eq_some_iff.1 hF).1
  simp only [storeA, hv, hwg, size28', List.length_cons, List.length_nil]
  rw [if_pos ⟨trivial, by rw [cells_length]; omega⟩, cells_put hlt, cells_split hF]
  have h1 : i * 3 + 2 = (cells (F.take i)).length + 2 := by rw [take_len hlt]
  have h2 : i * 3 + 2 + (0 + 1) = (cells (F.take i)).length + 3 := by rw [take_len hlt]
  rw [h2, h1, List.take_length_add_append, List.drop_length_add_append]
  simp
theorem settle_ref {st s8 : St} {d i : Nat} {fv a o2 : AV} {s : RS} {g' : RF} {bs : List Int} {S : List Nat} {args : List AV} {f : Nat} (h : obC f args st a s8) (ha : ∀ j vs, frz j vs a = a) (hp : RD s8 d fv { s with F := s.F.set i g' }) (hg : RGood s.F) (hr : Rest st s8 S) (hw : st.wf) (hl : st.lock = [])
    (hlv : BV g'.lv g'.lb ∨ (g'.lv = o2 ∧ g'.lb = bs)) (hov : BV g'.ov g'.ob ∨ (g'.ov = o2 ∧ g'.ob = bs)) (ho : OwnB s8 o2 bs) (hn : ∀ i ∈ fid o2, st.next ≤ i) :
    ∃ st' g'', obC f args st a st' ∧ g''.name = g'.name ∧ g''.lb = g'.lb ∧ g''.ob = g'.ob ∧ BV g''.lv g''.lb ∧ BV g''.ov g''.ob ∧ RD st' d fv { s with F := s.F.set i g'' } ∧ RestF st st' S := by
  have main : ∀ j fl, o2 = .sl j 1 0 bs.length fl → s8.get j = some (.row (bs.map u8) 5) → ∃ st' g'', obC f args st a st' ∧ g''.name = g'.name ∧ g''.lb = g'.lb ∧ g''.ob = g'.ob ∧ BV g''.lv g''.lb ∧ BV g''.ov g''.ob ∧ RD st' d fv { s with F := s.F.set i g'' } ∧ RestF st st' S := fun j fl e hj => by
    obtain ⟨st', h1, h2, h3⟩ := freeze_ref h (ha j _) hp hr hw hl hj (hn j (by rw [e]; simp [fid]))
    have hb : ∀ {v : AV} {b : List Int}, BV v b ∨ (v = o2 ∧ b = bs) → BV (frz j (bs.map u8) v) b := fun {v b} hv => by
      rcases hv with hv | ⟨rfl, rfl⟩
      · rw [frz_bv hv]; exact hv
      · refine .inr ⟨fl, ?_⟩
        rw [e]
        simp only [frz, if_true]
        rw [if_pos (by simp)]
        simp
        exact List.take_of_length_le (by simp)
    refine ⟨st', frzF j (bs.map u8) g', h1, rfl, rfl, rfl, hb hlv, hb hov, ?_, h3⟩
    simp only [List.map_set, frzF_good hg] at h2
    exact h2
  rcases ho with ⟨rfl, rfl⟩ | ⟨rfl, j, rfl, hj⟩ | ⟨_, j, rfl, hj⟩
  · refine ⟨s8, g', h, rfl, rfl, rfl, ?_, ?_, hp, hr.f⟩
    · rcases hlv with h | ⟨h, h'⟩
      · exact h
      · exact .inl ⟨h', h⟩
    · rcases hov with h | ⟨h, h'⟩
      · exact h
      · exact .inl ⟨h', h⟩
  · exact main j true rfl hj
  · exact main j false rfl hj
theorem get_in {F : List RF} (hg : RGood F) {i : Nat} {g : RF} (h : F[i]? = some g) : BV g.lv g.lb ∧ BV g.ov g.ob := hg g (List.mem_of_getElem? h)
theorem used_get {F : List RF} {i : Nat} {g : RF} (h : F[i]? = some g) : g.lb.length + g.ob.length ≤ usedR F := le_sum (List.mem_map.2 ⟨g, List.mem_of_getElem? h, rfl⟩)
def rLoose (s : RS) (n : ByteArray) : Int := if thE s n ≠ 0 then 0 else match s.F[pos n s.F]? with
  | some g => (g.ob.length : Int)
  | none => 0
theorem rloose_ok {st : St} {d : Nat} {fv : AV} {s : RS} (hp : RD st d fv s) (hw : st.wf) (hg : RGood s.F) (hsz : s.F.length ≤ 1000000) {n : ByteArray} (hn : n.size ≤ 1000000000000) :
    obC 43 [.ptr d 0, str n] st (.tup [i64 (rLoose s n), i64 (thE s n)]) st := by
  have o1 := there_ok hp hw hsz hn
  unfold rLoose
  by_cases hr : thE s n ≠ 0
  · rw [if_pos hr]
    rw [if_neg hr] at o1
    exact rq_run (rloNot d 0 n (thE s n) st) (by simp only [Ob.ok_cons, Ob.ok_nil, and_true]; exact ⟨o1, neN_T hr⟩)
  · rw [if_neg hr]
    have h0 : thE s n = 0 := by simpa using hr
    rw [h0, if_pos rfl] at o1
    obtain ⟨hoff, hm, hh⟩ := thE_off h0
    obtain ⟨g, hF, _⟩ := hit_get hh
    have hlt := (List.getElem?_eq_some_iff.1 hF).1
    obtain ⟨f, fl, rfl, hgf⟩ := hp.fv.of hF
    have ol : obL st 28 (.ptr f (0 + pos n s.F * 3 + 2)) g.ov := ⟨load_row hgf (p28' (by rw [Nat.zero_add]; exact (cells_at _ _ _ hF).2.2)), rfl⟩
    simp only [hF]
    rw [h0]
    rcases (get_in hg hF).2 with ⟨h1, h2⟩ | ⟨g2, h2⟩
    · rw [h2] at ol
      rw [h1]
      exact rq_run (rloN d f s.F.length (pos n s.F) fl n st) (by simp only [Ob.ok_cons, Ob.ok_nil, and_true]; exact ⟨o1, neN_F, ⟨hp.load, rfl⟩, by omega, ol⟩)
    · rw [h2] at ol
      exact rq_run (rloI d f s.F.length (pos n s.F) fl n st _ _ _) (by simp only [Ob.ok_cons, Ob.ok_nil, and_true]; exact ⟨o1, neN_F, ⟨hp.load, rfl⟩, by omega, ol⟩)
theorem rread_ok {st : St} {d : Nat} {fv : AV} {s : RS} (hp : RD st d fv s) (hw : st.wf) (hl : st.lock = []) (hg : RGood s.F) (hu : usedR s.F ≤ big) (hsz : s.F.length ≤ 1000000) {n : ByteArray} (hn : n.size ≤ 1000000000000) :
    ∃ v st', obC 42 [.ptr d 0, str n] st (.tup [v, i64 (thE s n)]) st' ∧ Rest st st' [] ∧ ((thE s n ≠ 0 ∧ v = .nils) ∨ (thE s n = 0 ∧ ∃ g, s.F[pos n s.F]? = some g ∧ OwnB st' v (g.lb ++ g.ob))) ∧ ∀ i ∈ fid v, st.next ≤ i := by
  have o1 := there_ok hp hw hsz hn
  by_cases hr : thE s n ≠ 0
  · rw [if_neg hr] at o1
    exact ⟨.nils, st, rq_run (rreNot d 0 n (thE s n) st) (by simp only [Ob.ok_cons, Ob.ok_nil, and_true]; exact ⟨o1, neN_T hr⟩), Rest.refl hw _, .inl ⟨hr, rfl⟩, fun i hi => by cases hi⟩
  · have h0 : thE s n = 0 := by simpa using hr
    rw [h0, if_pos rfl] at o1
    obtain ⟨hoff, hm, hh⟩ := thE_off h0
    obtain ⟨g, hF, _⟩ := hit_get hh
    have hlt := (List.getElem?_eq_some_iff.1 hF).1
    obtain ⟨f, fl, rfl, hgf⟩ := hp.fv.of hF
    obtain ⟨b1, b2⟩ := get_in hg hF
    have hc := cells_at _ _ _ hF
    have hd := hw _ _ hp.row
    have hf := hw _ _ hgf
    obtain ⟨o1', o2, s2, s3, c1, c2, c3, c4⟩ := ownApp_ok (I := [d, f, d, f]) hw hl (fun k hk => by
      simp only [List.mem_cons, List.not_mem_nil, or_false] at hk
      rcases hk with rfl | rfl | rfl | rfl <;> simp [hp.row, hgf]) b1 b2 (Nat.le_trans (used_get hF) hu)
    rw [h0]
    refine ⟨o2, _, rq_run (rreOk d f s.F.length (pos n s.F) (pos n s.F * 3) fl n o1' o2 g.lv g.ov st s2 s3) ?_, c3, .inr ⟨rfl, g, hF, c2⟩, c4⟩
    rw [Ob.ok_append]
    refine ⟨?_, c1⟩
    simp only [Ob.ok_cons, Ob.ok_nil, and_true]
    refine ⟨o1, neN_F, ?_, ⟨by simp, hp.load⟩, iA113 hlt, ⟨by simp, load_row hgf (p28' hc.2.1)⟩, ⟨by simp, hp.load⟩, iA113 hlt, ⟨by simp, load_row hgf (p28' hc.2.2)⟩⟩
    simp only [List.mem_cons, List.not_mem_nil, or_false]
    rintro k (rfl | rfl | rfl | rfl) <;> assumption
end
section
set_option maxRecDepth 4000
theorem OwnB.cell2 {st : St} {v : AV} {bs : List Int} (h : OwnB st v bs) : avCells v = some [v] := h.cell
theorem OwnB.set_row {st : St} {v : AV} {bs : List Int} (h : OwnB st v bs) {r : Nat} {vs : List AV} {ty : Nat} (hg : st.get r = some (.row vs ty)) (ht : ty ≠ 5) (o : AObj) : OwnB (st.set r o) v bs :=
  h.of_get fun i hi p hp => by
    rw [St.get_set, if_neg fun e => ?_]
    · exact hp
    · rcases h with ⟨_, rfl⟩ | ⟨_, j, rfl, hj⟩ | ⟨_, j, rfl, hj⟩
      · cases hi
      · simp only [fid, List.mem_singleton] at hi
        rw [← e, hi, hj] at hg
        simp only [Option.some.injEq, AObj.row.injEq] at hg
        exact ht hg.2.symm
      · simp only [fid, List.mem_singleton] at hi
        rw [← e, hi, hj] at hg
        simp only [Option.some.injEq, AObj.row.injEq] at hg
        exact ht hg.2.symm
/-- the files' row is written -/
theorem RD.setF {st : St} {d r : Nat} {fl : Bool} {s : RS} {F2 : List RF} (h : RD st d (.sl r 3 0 s.F.length fl) s) (hl : F2.length = s.F.length) (h0 : F2 ≠ []) : RD (st.set r (.row (cells F2) 121)) d (.sl r 3 0 s.F.length fl) { s with F := F2 } := by
  have hrd : r ≠ d := h.ne r (by simp [fid])
  exact ⟨by rw [St.get_set, if_neg hrd.symm]; exact h.row, .inr ⟨h0, r, fl, by rw [hl], by rw [St.get_set, if_pos rfl]⟩⟩
theorem frz_i64 (j : Nat) (vs : List AV) (e : Int) : frz j vs (i64 e) = i64 e := rfl
def rSyncE (s : RS) (n : ByteArray) : Int := if thE s n ≠ 0 then thE s n else if burnB s.fu = true then 8 else 0
def RSync (s : RS) (n : ByteArray) (s' : RS) : Prop :=
  if thE s n ≠ 0 then s' = s else if burnB s.fu = true then s' = rBurnt s else ∃ g g', s.F[pos n s.F]? = some g ∧ g'.name = g.name ∧ g'.lb = g.lb ++ g.ob ∧ g'.ob = [] ∧ BV g'.lv g'.lb ∧ BV g'.ov g'.ob ∧ s' = { rBurnt s with F := s.F.set (pos n s.F) g' }
theorem set_ne {F : List RF} {i : Nat} {g : RF} (h : i < F.length) : F.set i g ≠ [] := fun e => by
  have : (F.set i g).length = 0 := by rw [e]; rfl
  rw [List.length_set] at this; omega
theorem rsync_ok {st : St} {d : Nat} {fv : AV} {s : RS} (hp : RD st d fv s) (hw : st.wf) (hl : st.lock = []) (hg : RGood s.F) (hu : usedR s.F ≤ big) (hsz : s.F.length ≤ 1000000) (hf : 0 ≤ s.fu ∧ s.fu ≤ 9223372036854775807) {n : ByteArray} (hn : n.size ≤ 1000000000000) :
    ∃ st' s', obC 39 [.ptr d 0, str n] st (i64 (rSyncE s n)) st' ∧ RD st' d fv s' ∧ RestF st st' (d :: fid fv) ∧ RSync s n s' := by
  have o1 := there_ok hp hw hsz hn
  unfold rSyncE RSync
  by_cases hr : thE s n ≠ 0
  · simp only [if_pos hr]
    rw [if_neg hr] at o1
    exact ⟨st, s, rq_run (rsNot d 0 n (thE s n) st) (by simp only [Ob.ok_cons, Ob.ok_nil, and_true]; exact ⟨o1, neN_T hr⟩), hp, (Rest.refl hw _).f, rfl⟩
  · simp only [if_neg hr]
    have h0 : thE s n = 0 := by simpa using hr
    rw [h0, if_pos rfl] at o1
    obtain ⟨hoff, hm, hh⟩ := thE_off h0
    obtain ⟨s1, b1, b2, b3⟩ := goes_ok hp hw hl hoff hf
    have R1 : Rest st s1 (d :: fid fv) := b3.weak (by simp)
    by_cases hb : burnB s.fu = true
    · simp only [if_pos hb]
      rw [hb] at b1
      exact ⟨s1, rBurnt s, rq_run (rsBurn d (pos n s.F) n st s1) (by simp only [Ob.ok_cons, Ob.ok_nil, and_true]; exact ⟨o1, neN_F, b1⟩), b2, R1.f, rfl⟩
    · simp only [if_neg hb]
      rw [Bool.not_eq_true] at hb
      rw [hb] at b1
      obtain ⟨g, hF, _⟩ := hit_get hh
      have hF' : (rBurnt s).F[pos n s.F]? = some g := hF
      have hlt := (List.getElem?_eq_some_iff.1 hF).1
      obtain ⟨f, fl, hfv, hgf⟩ := b2.fv.of hF'
      have hfv' : fv = .sl f 3 0 s.F.length fl := hfv
      subst hfv'
      have hgf : s1.get f = some (.row (cells s.F) 121) := hgf
      obtain ⟨v1, v2⟩ := get_in hg hF
      have hc := cells_at _ _ _ hF
      have w1 := b3.wf
      have l1 : s1.lock = [] := b3.lock.trans hl
      have hd := w1 _ _ b2.row
      have hfn := w1 _ _ hgf
      obtain ⟨o1', o2, s2, s3, c1, c2, c3, c4⟩ := ownApp_ok (I := [d, d, f, d, f]) w1 l1 (fun k hk => by
        simp only [List.mem_cons, List.not_mem_nil, or_false] at hk
        rcases hk with rfl | rfl | rfl | rfl | rfl <;> simp [b2.row, hgf]) v1 v2 (Nat.le_trans (used_get hF) hu)
      have p3 := b2.rest c3 (by simp) (by simp)
      have g3 := c3.keep _ _ (by simp) hgf
      have l3 : (shw [d, d, f, d, f] s1 s2 s3).lock = [] := c3.lock.trans l1
      have w3 := c3.wf
      have all3 : [d, d, f, d, f].all (fun k => ((shw [d, d, f, d, f] s1 s2 s3).get k).isSome) = true := by simp [p3.row, g3]
      generalize hsh : shw [d, d, f, d, f] s1 s2 s3 = s3' at *
      have t1 := storeL g3 l3 hF c2.cell
      have p4 : RD (s3'.set f (.row (cells (s.F.set (pos n s.F) { g with lv := o2 })) 121)) d (.sl f 3 0 s.F.length fl) { rBurnt s with F := s.F.set (pos n s.F) { g with lv := o2 } } := RD.setF (s := rBurnt s) p3 (by simp [rBurnt]) (set_ne hlt)
      have g4 : (s3'.set f (.row (cells (s.F.set (pos n s.F) { g with lv := o2 })) 121)).get f = some (.row (cells (s.F.set (pos n s.F) { g with lv := o2 })) 121) := by rw [St.get_set, if_pos rfl]
      have w4 := set_wf w3 (w3 _ _ g3) (.row (cells (s.F.set (pos n s.F) { g with lv := o2 })) 121)
      have own4 := c2.set_row g3 (by decide) (.row (cells (s.F.set (pos n s.F) { g with lv := o2 })) 121)
      have R4 : Rest st (s3'.set f (.row (cells (s.F.set (pos n s.F) { g with lv := o2 })) 121)) (d :: fid (.sl f 3 0 s.F.length fl)) := (R1.trans (c3.weak (by simp))).trans (Rest.set w3 (w3 _ _ g3) _ (by simp [fid]))
      have l4 : (s3'.set f (.row (cells (s.F.set (pos n s.F) { g with lv := o2 })) 121)).lock = [] := l3
      generalize s3'.set f (.row (cells (s.F.set (pos n s.F) { g with lv := o2 })) 121) = s4 at *
      have hF4 : (s.F.set (pos n s.F) { g with lv := o2 })[pos n s.F]? = some { g with lv := o2 } := by rw [List.getElem?_set_self hlt]
      have t2 := storeO (v := .nils) g4 l4 hF4 rfl
      have ec : cells (s.F.set (pos n s.F) { g with lv := o2, ov := .nils }) = cells (s.F.set (pos n s.F) ⟨g.name, o2, .nils, g.lb ++ g.ob, []⟩) := by rw [cells_put hlt, cells_put hlt]
      rw [List.set_set, ec] at t2
      have p5 : RD (s4.set f (.row (cells (s.F.set (pos n s.F) ⟨g.name, o2, .nils, g.lb ++ g.ob, []⟩)) 121)) d (.sl f 3 0 s.F.length fl) { rBurnt s with F := (rBurnt s).F.set (pos n s.F) ⟨g.name, o2, .nils, g.lb ++ g.ob, []⟩ } := by
        have hrd : f ≠ d := p4.ne f (by simp [fid])
        exact ⟨by rw [St.get_set, if_neg hrd.symm]; exact p4.row, .inr ⟨set_ne hlt, f, fl, by simp [rBurnt], by rw [St.get_set, if_pos rfl]; rfl⟩⟩
      have own5 := own4.set_row g4 (by decide) (.row (cells (s.F.set (pos n s.F) ⟨g.name, o2, .nils, g.lb ++ g.ob, []⟩)) 121)
      have R5 : Rest st (s4.set f (.row (cells (s.F.set (pos n s.F) ⟨g.name, o2, .nils, g.lb ++ g.ob, []⟩)) 121)) (d :: fid (.sl f 3 0 s.F.length fl)) := R4.trans (Rest.set w4 (w4 _ _ g4) _ (by simp [fid]))
      generalize s4.set f (.row (cells (s.F.set (pos n s.F) ⟨g.name, o2, .nils, g.lb ++ g.ob, []⟩)) 121) = s5 at *
      have hcall : obC 39 [.ptr d 0, str n] st (i64 0) s5 := by
        refine rq_run (rsOk d f s.F.length (pos n s.F) (pos n s.F * 3) fl n o1' o2 g.lv g.ov st s1 s2 s3 s4 s5) ?_
        rw [Ob.ok_append, Ob.ok_append]
        refine ⟨⟨?_, c1⟩, ?_⟩
        · simp only [Ob.ok_cons, Ob.ok_nil, and_true]
          refine ⟨o1, neN_F, b1, ?_, ⟨by simp, b2.load⟩, ⟨by simp, b2.load⟩, iA113 hlt, ⟨by simp, load_row hgf (p28' hc.2.1)⟩, ⟨by simp, b2.load⟩, iA113 hlt, ⟨by simp, load_row hgf (p28' hc.2.2)⟩⟩
          simp only [List.mem_cons, List.not_mem_nil, or_false]
          rintro k (rfl | rfl | rfl | rfl | rfl) <;> assumption
        · simp only [Ob.ok_cons, Ob.ok_nil, and_true]
          rw [hsh]
          exact ⟨iA113 hlt, (fun h => (by cases h)), t1, ⟨p4.load, rfl⟩, by omega, by rw [Nat.zero_add]; exact t2⟩
      obtain ⟨st', g'', e1, e2, e3, e4, e5, e6, e7, e8⟩ := settle_ref (s := rBurnt s) (bs := g.lb ++ g.ob) hcall (fun j vs => rfl) p5 hg R5 hw hl (.inr ⟨rfl, rfl⟩) (.inl (.inl ⟨rfl, rfl⟩)) own5 (fun i hi => Nat.le_trans b3.next (c4 i hi))
      exact ⟨st', _, e1, e7, e8, g, g'', hF, e2, e3, e4, e5, e6, rfl⟩
end
section
set_option maxRecDepth 4000
theorem gtQ_T {a b : Int} (h : b < a) : gtQ a b TT := gtP_T h
theorem gtQ_F {a b : Int} (h : a ≤ b) : gtQ a b FF := gtP_F h
def rAppE (s : RS) (n : ByteArray) (c : List Int) : Int := if thE s n ≠ 0 then thE s n else if 0 < c.length ∧ s.q < usedR s.F + c.length then 7 else if burnB s.fu = true then 8 else 0
def RApp (s : RS) (n : ByteArray) (c : List Int) (s' : RS) : Prop :=
  if thE s n ≠ 0 then s' = s else if 0 < c.length ∧ s.q < usedR s.F + c.length then s' = s else if burnB s.fu = true then s' = rBurnt s else
  ∃ g g', s.F[pos n s.F]? = some g ∧ g'.name = g.name ∧ g'.lb = g.lb ∧ g'.ob = g.ob ++ c ∧ BV g'.lv g'.lb ∧ BV g'.ov g'.ob ∧ s' = { rBurnt s with F := s.F.set (pos n s.F) g' }
theorem hide_RD {st : St} {d : Nat} {fv : AV} {s : RS} (h : RD st d fv s) (I : List Nat) : RD (st.hide I) d fv s := ⟨h.row, h.fv.keep fun _ _ _ ho => ho⟩
/-- the file is laid longer -/
theorem tail_ok {sb : St} {d : Nat} {fv x : AV} {s : RS} {i : Nat} {g : RF} {c : List Int} (hp : RD sb d fv s) (hoff : s.off = false) (hw : sb.wf) (hl : sb.lock = []) (hg : RGood s.F) (hf : 0 ≤ s.fu ∧ s.fu ≤ 9223372036854775807) (hF : s.F[i]? = some g) (hx : BV x c) (hb : g.ob.length + c.length ≤ big) (hbn : burnB s.fu = false) :
    ∃ f fl o1 o2 s3 s4 s5 s6, fv = .sl f 3 0 s.F.length fl ∧ (obTl d f s.F.length i (i * 3) fl x o1 o2 g.ov sb s3 s4 s5 s6).ok ∧ RD s6 d fv { rBurnt s with F := (rBurnt s).F.set i ⟨g.name, g.lv, o2, g.lb, g.ob ++ c⟩ } ∧ Rest sb s6 (d :: fid fv) ∧ OwnB s6 o2 (g.ob ++ c) ∧ ∀ i ∈ fid o2, sb.next ≤ i := by
  obtain ⟨s3, b1, b2, b3⟩ := goes_ok hp hw hl hoff hf
  rw [hbn] at b1
  have hF' : (rBurnt s).F[i]? = some g := hF
  have hlt := (List.getElem?_eq_some_iff.1 hF).1
  obtain ⟨f, fl, hfv, hgf⟩ := b2.fv.of hF'
  have hfv' : fv = .sl f 3 0 s.F.length fl := hfv
  subst hfv'
  have hgf : s3.get f = some (.row (cells s.F) 121) := hgf
  obtain ⟨v1, v2⟩ := get_in hg hF
  have hc := cells_at _ _ _ hF
  have w3 := b3.wf
  have l3 : s3.lock = [] := b3.lock.trans hl
  have hd := w3 _ _ b2.row
  have hfn := w3 _ _ hgf
  obtain ⟨o1, o2, s4, s5, c1, c2, c3, c4⟩ := ownApp_ok (I := [d, d, f]) w3 l3 (fun k hk => by
    simp only [List.mem_cons, List.not_mem_nil, or_false] at hk
    rcases hk with rfl | rfl | rfl <;> simp [b2.row, hgf]) v2 hx hb
  have p5 := b2.rest c3 (by simp) (by simp)
  have g5 := c3.keep _ _ (by simp) hgf
  have l5 : (shw [d, d, f] s3 s4 s5).lock = [] := c3.lock.trans l3
  have w5 := c3.wf
  generalize hsh : shw [d, d, f] s3 s4 s5 = s5' at *
  have t1 := storeO g5 l5 hF c2.cell
  have ec : cells (s.F.set i { g with ov := o2 }) = cells (s.F.set i ⟨g.name, g.lv, o2, g.lb, g.ob ++ c⟩) := by rw [cells_put hlt, cells_put hlt]
  rw [ec] at t1
  refine ⟨f, fl, o1, o2, s3, s4, s5, s5'.set f (.row (cells (s.F.set i ⟨g.name, g.lv, o2, g.lb, g.ob ++ c⟩)) 121), rfl, ?_, RD.setF (s := rBurnt s) p5 (by simp [rBurnt]) (set_ne hlt), ((b3.weak (by simp)).trans (c3.weak (by simp))).trans (Rest.set w5 (w5 _ _ g5) _ (by simp [fid])), c2.set_row g5 (by decide) _, fun i hi => Nat.le_trans b3.next (c4 i hi)⟩
  unfold obTl
  rw [Ob.ok_append, Ob.ok_append]
  refine ⟨⟨?_, c1⟩, ?_⟩
  · simp only [Ob.ok_cons, Ob.ok_nil, and_true]
    refine ⟨b1, ?_, ⟨by simp, b2.load⟩, ⟨by simp, b2.load⟩, iA113 hlt, ⟨by simp, load_row hgf (p28' hc.2.2)⟩⟩
    simp only [List.mem_cons, List.not_mem_nil, or_false]
    rintro k (rfl | rfl | rfl) <;> assumption
  · simp only [Ob.ok_cons, Ob.ok_nil, and_true]
    rw [hsh]
    exact ⟨iA113 hlt, (fun h => (by cases h)), t1⟩
theorem roomR_ok {st : St} {d : Nat} {fv : AV} {s : RS} (hp : RD st d fv s) (hw : st.wf) (hg : RGood s.F) (hu : usedR s.F < 1000000000) (hsz : s.F.length ≤ 1000000) {k : Nat} (hk : 0 < k) (hk2 : k < 1000000000) {r : AV} (hr : gtQ ((usedR s.F : Int) + k) s.q r) :
    (obRm d k s.q (usedR s.F) ((usedR s.F : Int) + k) st (st.hide [d]) r).ok ∧ Rest st ((st.hide [d]).show st [d]) [] := by
  have hd := hw _ _ hp.row
  refine ⟨?_, (show_rest (Rest.refl (hide_wf hw [d]) []) (by simp)).1⟩
  unfold obRm
  simp only [Ob.ok_cons, Ob.ok_nil, and_true]
  refine ⟨fun i hi => ?_, gtQ_T (by omega), ⟨by simp, load_row hp.row (p3 rfl)⟩, fun _ => by simp [hp.row], rused_ok (hide_RD hp [d]) (hide_wf hw [d]) hg hsz hu, addP_ok (by omega), hr⟩
  obtain rfl := List.mem_singleton.1 hi; exact hd
theorem rappend_ok {st : St} {d : Nat} {fv : AV} {s : RS} (hp : RD st d fv s) (hw : st.wf) (hl : st.lock = []) (hg : RGood s.F) (hu : usedR s.F < 1000000000) (hsz : s.F.length ≤ 1000000) (hf : 0 ≤ s.fu ∧ s.fu ≤ 9223372036854775807) {n : ByteArray} (hn : n.size ≤ 1000000000000) {x : AV} {c : List Int} (hx : BV x c) (hc : c.length < 1000000000) :
    ∃ st' s', obC 38 [.ptr d 0, str n, x] st (i64 (rAppE s n c)) st' ∧ RD st' d fv s' ∧ RestF st st' (d :: fid fv) ∧ RApp s n c s' := by
  have o1 := there_ok hp hw hsz hn
  unfold rAppE RApp
  by_cases hr : thE s n ≠ 0
  · simp only [if_pos hr]
    rw [if_neg hr] at o1
    exact ⟨st, s, rq_run (rapNot d 0 n (thE s n) x st) (by simp only [Ob.ok_cons, Ob.ok_nil, and_true]; exact ⟨o1, neN_T hr⟩), hp, (Rest.refl hw _).f, rfl⟩
  simp only [if_neg hr]
  have h0 : thE s n = 0 := by simpa using hr
  rw [h0, if_pos rfl] at o1
  obtain ⟨hoff, hm, hh⟩ := thE_off h0
  obtain ⟨g, hF, _⟩ := hit_get hh
  have hug := used_get hF
  have pre : Ob.ok [obT d n (pos n s.F) 0 st, bo (neN 0 0) = FF] := by simp only [Ob.ok_cons, Ob.ok_nil, and_true]; exact ⟨o1, neN_F⟩
  have main : ∀ {sb : St}, Rest st sb [] → (∀ {s3 : St}, obC 71 [.ptr d 0] sb TT s3 → obC 38 [.ptr d 0, str n, x] st (i64 8) s3) → (∀ {f : Nat} {fl : Bool} {o1 o2 : AV} {s3 s4 s5 s6 : St}, (obTl d f s.F.length (pos n s.F) (pos n s.F * 3) fl x o1 o2 g.ov sb s3 s4 s5 s6).ok → obC 38 [.ptr d 0, str n, x] st (i64 0) s6) →
      ∃ st' s', obC 38 [.ptr d 0, str n, x] st (i64 (if burnB s.fu = true then 8 else 0)) st' ∧ RD st' d fv s' ∧ RestF st st' (d :: fid fv) ∧ (if burnB s.fu = true then s' = rBurnt s else ∃ g g', s.F[pos n s.F]? = some g ∧ g'.name = g.name ∧ g'.lb = g.lb ∧ g'.ob = g.ob ++ c ∧ BV g'.lv g'.lb ∧ BV g'.ov g'.ob ∧ s' = { rBurnt s with F := s.F.set (pos n s.F) g' }) := fun {sb} rb hbT hok => by
    have pb := hp.rest rb (by simp) (by simp)
    have lb := rb.lock.trans hl
    by_cases hb : burnB s.fu = true
    · simp only [if_pos hb]
      obtain ⟨s3, b1, b2, b3⟩ := goes_ok pb rb.wf lb hoff hf
      rw [hb] at b1
      exact ⟨s3, rBurnt s, hbT b1, b2, ((rb.weak (by simp)).trans (b3.weak (by simp))).f, rfl⟩
    · simp only [if_neg hb]
      rw [Bool.not_eq_true] at hb
      obtain ⟨f, fl, p1, p2, s3, s4, s5, s6, rfl, c1, c2, c3, c4, c5⟩ := tail_ok pb hoff rb.wf lb hg hf hF hx (by unfold big; omega) hb
      obtain ⟨st', g'', e1, e2, e3, e4, e5, e6, e7, e8⟩ := settle_ref (s := rBurnt s) (bs := g.ob ++ c) (hok c1) (fun j vs => rfl) c2 hg ((rb.weak (by simp)).trans c3) hw hl (.inl (get_in hg hF).1) (.inr ⟨rfl, rfl⟩) c4 (fun i hi => Nat.le_trans rb.next (c5 i hi))
      exact ⟨st', _, e1, e7, e8, g, g'', hF, e2, e3, e4, e5, e6, rfl⟩
  by_cases hc0 : 0 < c.length
  · have hxi : ∃ fl, x = .imm 1 c.length fl (c.map u8) := by
      rcases hx with ⟨rfl, _⟩ | h
      · simp at hc0
      · exact h
    obtain ⟨gx, rfl⟩ := hxi
    by_cases hroom : s.q < usedR s.F + c.length
    · simp only [if_pos (show 0 < c.length ∧ s.q < (usedR s.F : Int) + (c.length : Int) from ⟨hc0, hroom⟩)]
      obtain ⟨r1, r2⟩ := roomR_ok hp hw hg hu hsz hc0 hc (gtQ_T hroom)
      refine ⟨_, s, rq_run (rapFull d (pos n s.F) n s.q (usedR s.F) ((usedR s.F : Int) + (c.length : Int)) st (st.hide [d]) _ gx _) ?_, hp.rest r2 (by simp) (by simp), (r2.weak (by simp)).f, rfl⟩
      rw [Ob.ok_append]
      exact ⟨pre, r1⟩
    · simp only [if_neg (show ¬ (0 < c.length ∧ s.q < (usedR s.F : Int) + (c.length : Int)) from fun h => hroom h.2)]
      obtain ⟨r1, r2⟩ := roomR_ok hp hw hg hu hsz hc0 hc (gtQ_F (show (usedR s.F : Int) + c.length ≤ s.q by omega))
      refine main r2 (fun h => rq_run (rapBurn d (pos n s.F) n s.q (usedR s.F) ((usedR s.F : Int) + (c.length : Int)) st (st.hide [d]) _ _ gx _) ?_) (fun {f fl p1 p2 s3 s4 s5 s6} h => rq_run (rapOk d f s.F.length (pos n s.F) (pos n s.F * 3) fl n s.q (usedR s.F) ((usedR s.F : Int) + (c.length : Int)) p1 p2 g.ov st (st.hide [d]) s3 s4 s5 s6 (c.map u8) gx c.length) ?_)
      · rw [Ob.ok_append, Ob.ok_append]
        simp only [Ob.ok_cons, Ob.ok_nil, and_true] at pre ⊢
        exact ⟨⟨pre, r1⟩, h⟩
      · rw [Ob.ok_append, Ob.ok_append]
        exact ⟨⟨pre, r1⟩, h⟩
  · simp only [if_neg (show ¬ (0 < c.length ∧ s.q < (usedR s.F : Int) + (c.length : Int)) from fun h => hc0 h.1)]
    have hlen : c.length = 0 := by omega
    have hno : (obNoR c.length st).ok := by
      unfold obNoR
      simp only [Ob.ok_cons, Ob.ok_nil, and_true]
      exact ⟨fun k hk => (by cases hk), gtQ_F (by omega)⟩
    refine main (Rest.refl hw []) (fun h => ?_) (fun {f fl p1 p2 s3 s4 s5 s6} h => ?_)
    · rcases hx with ⟨rfl, rfl⟩ | ⟨gx, rfl⟩
      · refine rq_run (rapBurn0N d (pos n s.F) n st _) ?_
        rw [Ob.ok_append, Ob.ok_append]
        simp only [Ob.ok_cons, Ob.ok_nil, and_true] at pre ⊢
        exact ⟨⟨pre, hno⟩, h⟩
      · refine rq_run (rapBurn0I d (pos n s.F) n st _ _ gx _) ?_
        rw [Ob.ok_append, Ob.ok_append]
        simp only [Ob.ok_cons, Ob.ok_nil, and_true] at pre ⊢
        exact ⟨⟨pre, hno⟩, h⟩
    · rcases hx with ⟨rfl, rfl⟩ | ⟨gx, rfl⟩
      · refine rq_run (rapOk0N d f s.F.length (pos n s.F) (pos n s.F * 3) fl n p1 p2 g.ov st s3 s4 s5 s6) ?_
        rw [Ob.ok_append, Ob.ok_append]
        exact ⟨⟨pre, hno⟩, h⟩
      · refine rq_run (rapOk0I d f s.F.length (pos n s.F) (pos n s.F * 3) fl n p1 p2 g.ov st s3 s4 s5 s6 _ gx _) ?_
        rw [Ob.ok_append, Ob.ok_append]
        exact ⟨⟨pre, hno⟩, h⟩
end
end Go.Proofs.Ytniaiciabfdbnaa.E
