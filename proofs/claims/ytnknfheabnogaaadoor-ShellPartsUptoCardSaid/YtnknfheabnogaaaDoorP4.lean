/- Part 4 of the proof, over the abstract machine: contracts of the functions that the statement reaches, joined out of several texts. Condition: none beyond those that the lemmas name. -/
import Derived.Test.YtnknfheabnogaaaDoorP3
import Derived.Lib.ItoaLen
namespace Go.Proofs.YtnknfheabnogaaaDoor.E
open Go Go.Proofs
section
set_option maxRecDepth 100000
open Go.RowKit Go.Sort Go.Shelf
/-! ### strconv.Itoa, by the shelf's contract -/
theorem itoaC (n : Int) (h0 : -9223372036854775808 ≤ n) (h1 : n ≤ 9223372036854775807) (w : World) (htab : Lib.TabIs Tryd.prog w "internal/strconv.uint64pow10" .u64 Lib.pow10Tab) :
    Calls Tryd.prog 30 #[.int .i64 n] w fun e w' => e = .returned (.string ⟨(Lib.itoa n).toArray⟩) ∧ ∃ k os, w' = grow (w.drewN k) os := Any.strconv_Itoa Tryd.itoa30 n h0 h1 w htab
theorem below_grow (w : World) (k : Nat) (os : Array Obj) : Below w.heap.size w (grow (w.drewN k) os) := by
  refine ⟨rfl, rfl, rfl, ?_, fun b hb => ?_⟩
  · show w.heap.size ≤ ((w.drewN k).heap ++ os).size
    rw [Array.size_append]; exact Nat.le_add_right _ _
  · show ((w.drewN k).heap ++ os)[b]? = w.heap[b]?
    rw [Array.getElem?_append_left (by exact hb)]
    rfl
/-- what a listed table holds, as the shelf says it -/
theorem tab_is {g : G} {st : St} {w : World} (hok : OK g st w) (hgl : Tabs st) : Lib.TabIs Tryd.prog w "internal/strconv.uint64pow10" .u64 Lib.pow10Tab := by
  have hp : (1, intsAV .u64 zs10) ∈ st.gl := hgl _ (by simp [stTab, tabsD])
  obtain ⟨h1, h23, _⟩ := hok.glob _ hp
  obtain ⟨h2, h3⟩ := h23 (by simp [intsAV, zs10])
  obtain ⟨cs, T, fr, h4, h5⟩ := hok.imm 1 h2
  have hcs : cs.toList = zs10.map fun z => Value.int .u64 z := by
    cases h1 with
    | iptr _ us A hu hx h1 hA =>
      obtain ⟨_, hpre⟩ := hA
      have hpre : us <+: (g.M 1).drop 0 := hpre
      rw [List.drop_zero] at hpre
      have hlen : us.length = (g.M 1).length := by rw [hu]; exact h3.symm
      have he : us = g.M 1 := hpre.eq_of_length hlen
      rw [← h5, ← he]
      apply List.ext_getElem?
      intro i
      by_cases hi : i < us.length
      · have hz : i < zs10.length := by have : us.length = zs10.length := by rw [hu]; rfl
                                        omega
        have := hx i (by rw [← hu]; exact hi)
        have e1 : (intsAV .u64 zs10).getD i .undef = .val (.int .u64 zs10[i]) := by
          simp [intsAV, List.getD_eq_getElem?_getD, List.getElem?_eq_getElem hz]
        rw [e1] at this
        have e2 := this.val_inv
        rw [List.getD_eq_getElem?_getD, List.getElem?_eq_getElem hi] at e2
        rw [List.getElem?_eq_getElem hi, List.getElem?_map, List.getElem?_eq_getElem hz]
        simp only [Option.getD_some] at e2
        rw [e2]; rfl
      · rw [List.getElem?_eq_none (by omega), List.getElem?_eq_none]
        rw [List.length_map]
        have : us.length = zs10.length := by rw [hu]; rfl
        omega
  have hg : Tryd.prog.globalNamed "internal/strconv.uint64pow10" = some 1 := by kernel_rfl
  unfold Lib.TabIs World.var?
  rw [hg]
  simp only [Option.bind_some, h4]
  congr 1
  have : cs = (zs10.map fun z => Value.int .u64 z).toArray := by
    apply Array.ext'
    rw [hcs]
  rw [this]
  rfl
theorem itoa_ok {st : St} (hgl : Tabs st) {n : Int} (h0 : -9223372036854775808 ≤ n) (h1 : n ≤ 9223372036854775807) : obC 30 [i64 n] st (sb (Lib.itoa n)) st := by
  intro g w us hok hv
  rw [vals1 hv]
  exact (itoaC n h0 h1 w (tab_is hok hgl)).mono fun e w' ⟨he, k, os, hw⟩ => by
    subst hw
    exact ⟨g, st, _, _, he, step_below hok (below_grow w k os), .val _ rfl, rfl, rfl⟩
/-! ### parts, a blank between each -/
theorem line2 {σ : St} {a b : List UInt8} (h : a.length + b.length ≤ 100000000000) : obC 29 [.sl σ.next 1 0 2 true] (σ.push (.row [sb a, sb b] 9)) (sb (a ++ 32 :: b)) (σ.push (.row [sb a, sb b] 9)) := by
  have hx : sliceCells (σ.push (.row [sb a, sb b] 9)) (.sl σ.next 1 0 2 true) = some ([(⟨a.toArray⟩ : ByteArray), ⟨b.toArray⟩].length, strsB [⟨a.toArray⟩, ⟨b.toArray⟩]) := by
    simp only [sliceCells, St.get_push, if_true]
    rfl
  have e : Lib.join ([(⟨a.toArray⟩ : ByteArray), ⟨b.toArray⟩].map (·.data.toList)) (⟨#[32]⟩ : ByteArray).data.toList = a ++ 32 :: b := by simp [Lib.join]
  have := join_ok (sep := ⟨#[32]⟩) hx (by simp) (by rw [e]; simp only [List.length_append, List.length_cons]; omega)
  rw [e] at this
  exact f29 this
theorem line3 {σ : St} {a b c : List UInt8} (h : a.length + b.length + c.length ≤ 100000000000) : obC 29 [.sl σ.next 1 0 3 true] (σ.push (.row [sb a, sb b, sb c] 9)) (sb (a ++ 32 :: (b ++ 32 :: c))) (σ.push (.row [sb a, sb b, sb c] 9)) := by
  have hx : sliceCells (σ.push (.row [sb a, sb b, sb c] 9)) (.sl σ.next 1 0 3 true) = some ([(⟨a.toArray⟩ : ByteArray), ⟨b.toArray⟩, ⟨c.toArray⟩].length, strsB [⟨a.toArray⟩, ⟨b.toArray⟩, ⟨c.toArray⟩]) := by
    simp only [sliceCells, St.get_push, if_true]
    rfl
  have e : Lib.join ([(⟨a.toArray⟩ : ByteArray), ⟨b.toArray⟩, ⟨c.toArray⟩].map (·.data.toList)) (⟨#[32]⟩ : ByteArray).data.toList = a ++ 32 :: (b ++ 32 :: c) := by simp [Lib.join]
  have := join_ok (sep := ⟨#[32]⟩) hx (by simp) (by rw [e]; simp only [List.length_append, List.length_cons]; omega)
  rw [e] at this
  exact f29 this
theorem bs78 (st : St) (a b : ByteArray) : buildSliceA E0 st 78 2 [(0, str a), (1, str b)] = some (.sl st.next 1 0 2 true, st.push (.row [str a, str b] 9)) := by kernel_rfl
theorem bs78c (st : St) (a b c : ByteArray) : buildSliceA E0 st 78 3 [(0, str a), (1, str b), (2, str c)] = some (.sl st.next 1 0 3 true, st.push (.row [str a, str b, str c] 9)) := by kernel_rfl
/-! ### the names of the Kinds -/
def nmL : List (List UInt8) := [[], [99, 111, 110, 110, 101, 99, 116], [112, 117, 115, 104], [99, 108, 111, 115, 101], [116, 105, 99, 107], [115, 116, 101, 112], [113, 117, 111, 116, 97], [102, 117, 115, 101], [99, 114, 97, 115, 104], [111, 112, 101, 110]]
def nmF (k : Int) : List UInt8 := if k < 1 ∨ 10 ≤ k then [] else nmL.getD k.toNat []
def kindsS : ByteArray := ⟨#[32, 99, 111, 110, 110, 101, 99, 116, 32, 112, 117, 115, 104, 32, 99, 108, 111, 115, 101, 32, 116, 105, 99, 107, 32, 115, 116, 101, 112, 32, 113, 117, 111, 116, 97, 32, 102, 117, 115, 101, 32, 99, 114, 97, 115, 104, 32, 111, 112, 101, 110]⟩
theorem split43 : ((evCall E0 ovS 1000000 43 [str kindsS, str ⟨#[32]⟩] (stTab tabsD)).map fun q => (q.1, q.2.next, q.2.get 0, q.2.lock)) = some (.sl 0 1 0 10 true, 1, some (.row (nmL.map sb) 9), []) := by kernel_rfl
theorem split_ok {st : St} (hgl : Tabs st) (hw : st.wf) : obC 43 [str kindsS, str ⟨#[32]⟩] st (.sl st.next 1 0 10 true) (st.push (.row (nmL.map sb) 9)) := by
  obtain ⟨⟨a, s⟩, h1, h2⟩ := Option.map_eq_some_iff.1 split43
  simp only [Prod.mk.injEq] at h2
  obtain ⟨rfl, hn, h0, hk⟩ := h2
  have hc := (ev_ok (envOf_ok (P := Tryd.prog) rfl) ovS_ok 1000000).call 43 _ (stTab tabsD) _ h1
  have hfr := hc.frame (emb_tab hgl)
  refine hfr.mono fun r s' hq => ?_
  obtain ⟨r0, st0', hq0, h3, h4, _, hwf⟩ := hq
  cases hq0
  refine ⟨h3, ?_⟩
  rw [h4]
  have e : hadL (stTab tabsD) s = [0] := by unfold hadL; rw [hn]; rfl
  unfold mergeSt
  rw [e, hn]
  simp only [List.foldl, h0]
  rfl
theorem ty78 : ∃ i, E0.ty 78 = some i ∧ i.desc = .slice 9 := by
  have h : (E0.ty 78).map (·.desc) = some (.slice 9) := by kernel_rfl
  obtain ⟨i, h1, h2⟩ := Option.map_eq_some_iff.1 h
  exact ⟨i, h1, h2⟩
theorem ln78 (a b c n : Nat) (f : Bool) : lenA E0 78 (.sl a b c n f) = some (i64 n) := by
  obtain ⟨i, h1, h2⟩ := ty78
  simp only [lenA, h1, h2]
theorem ix78 {a n : Nat} {f : Bool} {k : Nat} (h : k < n) : indexAddrA E0 78 (.sl a 1 0 n f) (i64 k) = some (.ptr a k) := by
  obtain ⟨i, h1, h2⟩ := ty78
  simp only [indexAddrA, h1, h2]
  rw [if_pos ⟨by kernel_rfl, by omega, by omega⟩]
  simp
theorem name_ok {st : St} (hgl : Tabs st) (hw : st.wf) (k : Int) : obC 28 [i64 k] st (sb (nmF k)) (st.push (.row (nmL.map sb) 9)) := by
  have hs := split_ok hgl hw
  by_cases h1 : k < 1
  · rw [show nmF k = [] from if_pos (.inl h1)]
    exact f28_T hs (lssT h1)
  · by_cases h2 : 10 ≤ k
    · rw [show nmF k = [] from if_pos (.inr h2)]
      exact f28_FT hs (lssF h1) (ln78 ..) (geqT h2)
    · rw [show nmF k = nmL.getD k.toNat [] from if_neg (by omega)]
      obtain ⟨j, rfl⟩ : ∃ j : Nat, k = j := ⟨k.toNat, by omega⟩
      have hj : j < 10 := by omega
      refine f28_FF hs (lssF h1) (ln78 ..) (geqF (by omega)) (ix78 hj) ?_
      simp only [loadA, St.get_push, if_true]
      refine plainT k9 ?_
      rw [List.getElem?_map, Int.toNat_natCast, List.getD_eq_getElem?_getD, List.getElem?_eq_getElem (by exact hj)]
      rfl
/-! ### eventLine's tests -/
theorem tests19 {a : Nat} {s : ByteArray} {st : St} {k c n nd np : Int} {d p : AV} {e0 b5 cz b6 nz k2 dz k8 pz : Bool} (hE : binA E0 .eql 9 (str s) (str ⟨#[]⟩) = some (bo e0)) (l0 : loadA E0 st 3 (.ptr a 0) = some (i64 k)) (l1 : loadA E0 st 3 (.ptr a 1) = some (i64 c)) (l2 : loadA E0 st 3 (.ptr a 2) = some (i64 n)) (l3 : loadA E0 st 22 (.ptr a 3) = some d) (l4 : loadA E0 st 36 (.ptr a 4) = some p)
    (hC : binA E0 .neq 3 (i64 c) (i64 0) = some (bo cz)) (hN : binA E0 .neq 3 (i64 n) (i64 0) = some (bo nz)) (hK2 : binA E0 .neq 3 (i64 k) (i64 2) = some (bo k2)) (n3 : lenA E0 22 d = some (i64 nd)) (hD : binA E0 .gtr 3 (i64 nd) (i64 0) = some (bo dz)) (hK8 : binA E0 .neq 3 (i64 k) (i64 8) = some (bo k8)) (n4 : lenA E0 36 p = some (i64 np)) (hP : binA E0 .gtr 3 (i64 np) (i64 0) = some (bo pz))
    {T : Tm} (hT : f19L4 T (.ptr a 0) (str s) (bo b5) (bo b6)) : AW Tryd.prog (f19P 4) (fun ex T' st' => ex = .normal ∧ f19L5 T' (.ptr a 0) (str s) (bo b5) (bo b6) (bo (e0 || (!b5 && cz) || (!b6 && nz) || (k2 && dz) || (k8 && pz))) ∧ st' = st) T st := by
  cases e0 with
  | true =>
    exact f19_4_T hE hT
  | false =>
    cases b5 with
    | true =>
      cases b6 with
      | true =>
        cases k2 with
        | true =>
          cases dz with
          | true =>
            exact f19_4_FTTTT hE l0 hK2 l3 n3 hD hT
          | false =>
            cases k8 with
            | true =>
              cases pz with
              | true =>
                exact f19_4_FTTTFTT hE l0 hK2 l3 n3 hD l0 hK8 l4 n4 hP hT
              | false =>
                exact f19_4_FTTTFTF hE l0 hK2 l3 n3 hD l0 hK8 l4 n4 hP hT
            | false =>
              exact f19_4_FTTTFF hE l0 hK2 l3 n3 hD l0 hK8 hT
        | false =>
          cases k8 with
          | true =>
            cases pz with
            | true =>
              exact f19_4_FTTFTT hE l0 hK2 l0 hK8 l4 n4 hP hT
            | false =>
              exact f19_4_FTTFTF hE l0 hK2 l0 hK8 l4 n4 hP hT
          | false =>
            exact f19_4_FTTFF hE l0 hK2 l0 hK8 hT
      | false =>
        cases nz with
        | true =>
          exact f19_4_FTFT hE l2 hN hT
        | false =>
          cases k2 with
          | true =>
            cases dz with
            | true =>
              exact f19_4_FTFFTT hE l2 hN l0 hK2 l3 n3 hD hT
            | false =>
              cases k8 with
              | true =>
                cases pz with
                | true =>
                  exact f19_4_FTFFTFTT hE l2 hN l0 hK2 l3 n3 hD l0 hK8 l4 n4 hP hT
                | false =>
                  exact f19_4_FTFFTFTF hE l2 hN l0 hK2 l3 n3 hD l0 hK8 l4 n4 hP hT
              | false =>
                exact f19_4_FTFFTFF hE l2 hN l0 hK2 l3 n3 hD l0 hK8 hT
          | false =>
            cases k8 with
            | true =>
              cases pz with
              | true =>
                exact f19_4_FTFFFTT hE l2 hN l0 hK2 l0 hK8 l4 n4 hP hT
              | false =>
                exact f19_4_FTFFFTF hE l2 hN l0 hK2 l0 hK8 l4 n4 hP hT
            | false =>
              exact f19_4_FTFFFF hE l2 hN l0 hK2 l0 hK8 hT
    | false =>
      cases cz with
      | true =>
        exact f19_4_FFT hE l1 hC hT
      | false =>
        cases b6 with
        | true =>
          cases k2 with
          | true =>
            cases dz with
            | true =>
              exact f19_4_FFFTTT hE l1 hC l0 hK2 l3 n3 hD hT
            | false =>
              cases k8 with
              | true =>
                cases pz with
                | true =>
                  exact f19_4_FFFTTFTT hE l1 hC l0 hK2 l3 n3 hD l0 hK8 l4 n4 hP hT
                | false =>
                  exact f19_4_FFFTTFTF hE l1 hC l0 hK2 l3 n3 hD l0 hK8 l4 n4 hP hT
              | false =>
                exact f19_4_FFFTTFF hE l1 hC l0 hK2 l3 n3 hD l0 hK8 hT
          | false =>
            cases k8 with
            | true =>
              cases pz with
              | true =>
                exact f19_4_FFFTFTT hE l1 hC l0 hK2 l0 hK8 l4 n4 hP hT
              | false =>
                exact f19_4_FFFTFTF hE l1 hC l0 hK2 l0 hK8 l4 n4 hP hT
            | false =>
              exact f19_4_FFFTFF hE l1 hC l0 hK2 l0 hK8 hT
        | false =>
          cases nz with
          | true =>
            exact f19_4_FFFFT hE l1 hC l2 hN hT
          | false =>
            cases k2 with
            | true =>
              cases dz with
              | true =>
                exact f19_4_FFFFFTT hE l1 hC l2 hN l0 hK2 l3 n3 hD hT
              | false =>
                cases k8 with
                | true =>
                  cases pz with
                  | true =>
                    exact f19_4_FFFFFTFTT hE l1 hC l2 hN l0 hK2 l3 n3 hD l0 hK8 l4 n4 hP hT
                  | false =>
                    exact f19_4_FFFFFTFTF hE l1 hC l2 hN l0 hK2 l3 n3 hD l0 hK8 l4 n4 hP hT
                | false =>
                  exact f19_4_FFFFFTFF hE l1 hC l2 hN l0 hK2 l3 n3 hD l0 hK8 hT
            | false =>
              cases k8 with
              | true =>
                cases pz with
                | true =>
                  exact f19_4_FFFFFFTT hE l1 hC l2 hN l0 hK2 l0 hK8 l4 n4 hP hT
                | false =>
                  exact f19_4_FFFFFFTF hE l1 hC l2 hN l0 hK2 l0 hK8 l4 n4 hP hT
              | false =>
                exact f19_4_FFFFFFF hE l1 hC l2 hN l0 hK2 l0 hK8 hT
end
section
set_option maxRecDepth 8000
/-! ### rows of small numbers, as they are read -/
def NS (st : St) (v : AV) (ps : List Nat) : Prop := (v = .nils ∧ ps = []) ∨ (∃ f, v = .imm 1 ps.length f (ps.map fun x : Nat => u16 x)) ∨
  ∃ id off f vs, v = .sl id 1 off ps.length f ∧ st.get id = some (.row vs 39) ∧ (vs.drop off).take ps.length = (ps.map fun x : Nat => u16 x) ∧ off + ps.length ≤ vs.length
theorem ty36 : ∃ i, E0.ty 36 = some i ∧ i.desc = .slice 39 := by
  have h : (E0.ty 36).map (·.desc) = some (.slice 39) := by kernel_rfl
  obtain ⟨i, h1, h2⟩ := Option.map_eq_some_iff.1 h
  exact ⟨i, h1, h2⟩
theorem k39 : (E0.ty 39).map (fun i => isAggD i.desc) = some false := by kernel_rfl
theorem z39 : tySize E0 39 = some 1 := by kernel_rfl
theorem NS.len {st : St} {v : AV} {ps : List Nat} (h : NS st v ps) : lenA E0 36 v = some (i64 ps.length) := by
  obtain ⟨i, h1, h2⟩ := ty36
  rcases h with ⟨rfl, rfl⟩ | ⟨f, rfl⟩ | ⟨id, off, f, vs, rfl, _⟩ <;> simp only [lenA, h1, h2] <;> rfl
theorem NS.at {st : St} {v : AV} {ps : List Nat} (h : NS st v ps) {i x : Nat} (hx : ps[i]? = some x) : ∃ q, indexAddrA E0 36 v (i64 i) = some q ∧ loadA E0 st 39 q = some (u16 x) := by
  have hi : i < ps.length := (List.getElem?_eq_some_iff.1 hx).1
  obtain ⟨ti, t1, t2⟩ := ty36
  rcases h with ⟨_, rfl⟩ | ⟨f, rfl⟩ | ⟨id, off, f, vs, rfl, hg, h1, h2⟩
  · simp at hx
  · refine ⟨.iptr ((ps.map fun x : Nat => u16 x).drop (i * 1)), ?_, ?_⟩
    · simp only [indexAddrA, t1, t2, z39]
      rw [if_pos ⟨trivial, by omega, by omega, by decide⟩]; rfl
    · show partA E0 39 ((ps.map fun x : Nat => u16 x).drop (i * 1)) 0 = some (u16 x)
      exact plainT k39 (by rw [List.getElem?_drop]; simp [hx])
  · refine ⟨.ptr id (off + i * 1), ?_, ?_⟩
    · simp only [indexAddrA, t1, t2, z39]
      rw [if_pos ⟨trivial, by omega, by omega⟩]; rfl
    · simp only [loadA, hg]
      refine plainT k39 ?_
      have : ((vs.drop off).take ps.length)[i]? = some (u16 x) := by rw [h1, List.getElem?_map, hx]; rfl
      rw [List.getElem?_take, if_pos hi, List.getElem?_drop] at this
      rw [Nat.mul_one]; exact this
theorem NS.rest {st st' : St} {v : AV} {ps : List Nat} (h : NS st v ps) {S : List Nat} (hr : Rest st st' S) (hS : ∀ i ∈ fid v, i ∉ S) : NS st' v ps := by
  rcases h with h | h | ⟨id, off, f, vs, h, hg, h1, h2⟩
  · exact .inl h
  · exact .inr (.inl h)
  · exact .inr (.inr ⟨id, off, f, vs, h, hr.keep _ _ (hS id (by rw [h]; simp [fid])) hg, h1, h2⟩)
theorem conv393 (st : St) (k : Nat) (h : k < 65536) : convO E0 st 39 3 (u16 k) = some (i64 k, st) := by
  have : convO E0 st 39 3 (u16 k) = some (i64 (IntKind.i64.wrap (k : Int)), st) := by kernel_rfl
  rw [this]
  have hw : IntKind.i64.wrap (k : Int) = k := by
    simp only [IntKind.wrap, IntKind.signed, IntKind.bits]
    simp
    omega
  rw [hw]
/-! ### an event's line -/
def isConn (k : Int) : Bool := decide (k = 2 ∨ k = 3)
def isNum (k : Int) : Bool := decide (k = 4 ∨ k = 6 ∨ k = 7 ∨ k = 8)
def badEv (k c n : Int) (d : List UInt8) (p : List Nat) : Bool := (decide (nmF k = []) || (!isConn k && decide (c ≠ 0)) || (!isNum k && decide (n ≠ 0)) || (decide (k ≠ 2) && decide (d ≠ [])) || (decide (k ≠ 8) && decide (p ≠ [])))
def pickF (p : List Nat) : List UInt8 := p.flatMap fun x : Nat => 32 :: Lib.itoa x
def evLine (k c n : Int) (d : List UInt8) (p : List Nat) : Option (List UInt8) :=
  if badEv k c n d p then none
  else some (nmF k ++ (if isConn k then 32 :: Lib.itoa c else []) ++ (if isNum k then 32 :: Lib.itoa n else []) ++ (if k = 2 then 32 :: quoteF d else []) ++ pickF p)
theorem eqB (a b : Int) : binA E0 .eql 3 (i64 a) (i64 b) = some (bo (decide (a = b))) := by
  by_cases h : a = b
  · rw [decide_eq_true h]; exact eqlT h
  · rw [decide_eq_false h]; exact eqlF h
theorem neB (a b : Int) : binA E0 .neq 3 (i64 a) (i64 b) = some (bo (decide (a ≠ b))) := by
  by_cases h : a = b
  · rw [decide_eq_false (by simpa using h)]; subst h; exact neqF rfl
  · rw [decide_eq_true h]; exact neqT h
theorem gtB {α : Type} (l : List α) [DecidableEq α] : binA E0 .gtr 3 (i64 l.length) (i64 0) = some (bo (decide (l ≠ []))) := by
  cases l with
  | nil => exact gtrF (by simp)
  | cons a r => exact gtrT (by simp only [List.length_cons]; omega)
theorem emB (l : List UInt8) : binA E0 .eql 9 (sb l) (str ⟨#[]⟩) = some (bo (decide (l = []))) := by
  cases l with
  | nil => exact eq_sbT (a := []) (b := []) rfl
  | cons a r => exact eq_sbF (a := a :: r) (b := []) (by simp)
theorem conn19 {a : Nat} {s : ByteArray} {st : St} {k : Int} (l0 : loadA E0 st 3 (.ptr a 0) = some (i64 k)) {T : Tm} (hT : f19L2 T (.ptr a 0) (str s)) : AW Tryd.prog (f19P 2) (fun ex T' st' => ex = .normal ∧ f19L3 T' (.ptr a 0) (str s) (bo (isConn k)) ∧ st' = st) T st := by
  unfold isConn
  by_cases h2 : k = 2
  · rw [decide_eq_true (.inl h2)]; exact f19_2_T l0 (eqlT h2) hT
  · by_cases h3 : k = 3
    · rw [decide_eq_true (.inr h3)]; exact f19_2_FT l0 (eqlF h2) l0 (eqlT h3) hT
    · rw [decide_eq_false (by omega)]; exact f19_2_FF l0 (eqlF h2) l0 (eqlF h3) hT
theorem num19 {a : Nat} {s : ByteArray} {st : St} {k : Int} {b5 : Bool} (l0 : loadA E0 st 3 (.ptr a 0) = some (i64 k)) {T : Tm} (hT : f19L3 T (.ptr a 0) (str s) (bo b5)) : AW Tryd.prog (f19P 3) (fun ex T' st' => ex = .normal ∧ f19L4 T' (.ptr a 0) (str s) (bo b5) (bo (isNum k)) ∧ st' = st) T st := by
  unfold isNum
  by_cases h4 : k = 4
  · rw [decide_eq_true (.inl h4)]; exact f19_3_T l0 (eqlT h4) hT
  · by_cases h6 : k = 6
    · rw [decide_eq_true (.inr (.inl h6))]; exact f19_3_FT l0 (eqlF h4) l0 (eqlT h6) hT
    · by_cases h7 : k = 7
      · rw [decide_eq_true (.inr (.inr (.inl h7)))]; exact f19_3_FFT l0 (eqlF h4) l0 (eqlF h6) l0 (eqlT h7) hT
      · by_cases h8 : k = 8
        · rw [decide_eq_true (.inr (.inr (.inr h8)))]; exact f19_3_FFFT l0 (eqlF h4) l0 (eqlF h6) l0 (eqlF h7) l0 (eqlT h8) hT
        · rw [decide_eq_false (by omega)]; exact f19_3_FFFF l0 (eqlF h4) l0 (eqlF h6) l0 (eqlF h7) l0 (eqlF h8) hT
theorem itoa_nat_len {x : Nat} (h : x < 65536) : (Lib.itoa (x : Int)).length ≤ 21 := Lib.itoa_length_le _ (by omega) (by omega)
theorem pick_len : ∀ {p : List Nat}, (∀ x ∈ p, x < 65536) → (pickF p).length ≤ 22 * p.length
  | [], _ => by simp [pickF]
  | x :: r, h => by
    have := pick_len (p := r) fun y hy => h y (List.mem_cons_of_mem _ hy)
    have h2 := itoa_nat_len (h x (by simp))
    simp only [pickF, List.flatMap_cons, List.length_append, List.length_cons] at this ⊢
    omega
/-! the picks -/
theorem picks_loop {st0 : St} {v : AV} {ps : List Nat} (hv : NS st0 v ps) (hps : ∀ x ∈ ps, x < 65536) (hw0 : st0.wf) (hgl : Tabs st0) (hb : ps.length ≤ 1000000000) : ∀ (n i : Nat) (σ : St) (s : List UInt8), ps.length - i = n → i ≤ ps.length → Rest st0 σ [] → s.length + 22 * (ps.length - i) ≤ 90000000000 →
    ∃ sf, (∀ T, f19L12 T (sb s) v (i64 ps.length) (i64 i) → LoopIn Tryd.prog (f19P 18) (fun ex T' z => ex = .exit 0 ∧ f19L13 T' (sb (s ++ pickF (ps.drop i))) ∧ z = sf) (n + 1) T σ) ∧ Rest st0 sf [] := by
  intro n
  induction n with
  | zero =>
    intro i σ s hn hi hr hbd
    have e : i = ps.length := by omega
    subst e
    refine ⟨σ, fun T hT => LoopIn.out (by simp) (f19_18_F (lssF (by omega)) hT) fun T' hT' => ⟨rfl, ?_, rfl⟩, hr⟩
    rw [List.drop_of_length_le (Nat.le_refl _)]
    simpa [pickF] using hT'
  | succ n ih =>
    intro i σ s hn hi hr hbd
    obtain ⟨x, hx⟩ : ∃ x, ps[i]? = some x := ⟨ps[i]'(by omega), List.getElem?_eq_getElem (by omega)⟩
    have hx6 := hps x (List.mem_of_getElem? hx)
    obtain ⟨q, a1, a2⟩ := (hv.rest hr fun _ _ => by simp).at hx
    have hil := itoa_nat_len hx6
    have r1 := Rest.push hr.wf (.row [sb s, sb (Lib.itoa (x : Int))] 9) []
    obtain ⟨sf, u1, u2⟩ := ih (i + 1) (σ.push (.row [sb s, sb (Lib.itoa (x : Int))] 9)) (s ++ 32 :: Lib.itoa (x : Int)) (by omega) (by omega) (hr.trans r1) (by simp only [List.length_append, List.length_cons]; omega)
    have e : s ++ pickF (ps.drop i) = (s ++ 32 :: Lib.itoa (x : Int)) ++ pickF (ps.drop (i + 1)) := by
      rw [List.drop_eq_getElem_cons (by omega), (List.getElem?_eq_some_iff.1 hx).2]
      simp [pickF]
    rw [e]
    refine ⟨sf, fun T hT => LoopIn.go (f19_18_T (lssT (by omega)) a1 a2 (conv393 σ x hx6) (itoa_ok (hgl.rest hr) (by omega) (by omega)) (bs78 σ _ _) (line2 (by omega)) (add3 (a := i) (b := 1) (by omega)) hT) u1, u2⟩
end
section
set_option maxRecDepth 8000
/-! ### eventLine -/
theorem ldf {σ : St} {a j t ty : Nat} {cs : List AV} {v : AV} (hk : (E0.ty t).map (fun i => isAggD i.desc) = some false) (hg : σ.get a = some (.row cs ty)) (hj : cs[j]? = some v) : loadA E0 σ t (.ptr a j) = some v := by
  simp only [loadA, hg]; exact plainT hk hj
theorem k36 : (E0.ty 36).map (fun i => isAggD i.desc) = some false := by kernel_rfl
theorem AW.opt {P : Program} {c : Operand} {b : Bool} {p8 x y rest : Code} {Q : Exit → Tm → St → Prop} {L1 L2 : Tm → Prop} {T : Tm} {σ σ' : St} (h1 : AW P p8 (fun ex T' st' => ex = .normal ∧ L1 T' ∧ st' = σ) T σ) (hc : ∀ T, L1 T → T.eval c = .val (.bool b))
    (hx : ∀ T, L1 T → AW P (if b then x else y) (fun ex T' st' => ex = .normal ∧ L2 T' ∧ st' = σ') T σ) (k : ∀ T, L2 T → AW P rest Q T σ') : AW P (.seq (.seq p8 (.cond c x y)) rest) Q T σ :=
  .seq (.seq (h1.mono fun ex T' st' ⟨e1, e2, e3⟩ => by
    subst e1; subst e3
    exact AW.cond (hc T' e2) ((hx T' e2).mono fun ex T'' st'' ⟨e4, e5, e6⟩ => by
      subst e4; subst e6
      exact k T'' e5)))
theorem skip19 : f19P 7 = .skip ∧ f19P 10 = .skip ∧ f19P 13 = .skip ∧ f19P 16 = .skip ∧ f19P 6 = .ret ∧ f19P 20 = .ret := ⟨by kernel_rfl, by kernel_rfl, by kernel_rfl, by kernel_rfl, by kernel_rfl, by kernel_rfl⟩
theorem AW.skp {P : Program} {L : Tm → Prop} {T : Tm} {σ : St} (h : L T) : AW P .skip (fun ex T' st' => ex = .normal ∧ L T' ∧ st' = σ) T σ := AW.skip ⟨rfl, h, rfl⟩
structure Ev (σ : St) (a : Nat) (k c n : Int) (d p : AV) : Prop where
  row : σ.get a = some (.row [i64 k, i64 c, i64 n, d, p] 38)
  wf : σ.wf
  lock : σ.lock = []
  tabs : Tabs σ
theorem Ev.step {σ σ' : St} {a : Nat} {k c n : Int} {d p : AV} (h : Ev σ a k c n d p) (r : Rest σ σ' []) : Ev σ' a k c n d p := ⟨r.keep _ _ (by simp) h.row, r.wf, r.lock.trans h.lock, h.tabs.rest r⟩
def I64 (n : Int) : Prop := -9223372036854775808 ≤ n ∧ n ≤ 9223372036854775807
theorem itoa_len {n : Int} (h : I64 n) : (Lib.itoa n).length ≤ 21 := Lib.itoa_length_le _ h.1 h.2
/-- the connection's part -/
theorem conn_part {σ : St} {a : Nat} {k c n : Int} {d p : AV} (h : Ev σ a k c n d p) {b5 b6 : Bool} {s : List UInt8} (hs : s.length ≤ 90000000000) (hc : I64 c) : ∃ σ', Rest σ σ' [] ∧ ∀ (T : Tm) (rest : Code) (Q : Exit → Tm → St → Prop), f19L4 T (.ptr a 0) (sb s) (bo b5) (bo b6) →
    (∀ T', f19L9 T' (.ptr a 0) (sb (s ++ if b5 then 32 :: Lib.itoa c else [])) (bo b6) → AW Tryd.prog rest Q T' σ') → AW Tryd.prog (.seq (.seq (f19P 8) (.cond (.tmp 80) (f19P 9) (f19P 10))) rest) Q T σ := by
  have hil := itoa_len hc
  cases b5 with
  | true =>
    exact ⟨_, Rest.push h.wf (.row [sb s, sb (Lib.itoa c)] 9) [], fun T rest Q hT k2 => AW.opt (f19_8 (b5 := true) hT) (fun T' q => q.2.2.2.2) (fun T' q => f19_9 (b6 := b6) (ldf k3 h.row rfl) (itoa_ok h.tabs hc.1 hc.2) (bs78 σ _ _) (line2 (by omega)) ⟨q.1, q.2.1, q.2.2.1, q.2.2.2.1⟩) k2⟩
  | false =>
    refine ⟨σ, .refl h.wf _, fun T rest Q hT k2 => AW.opt (f19_8 (b5 := false) hT) (fun T' q => q.2.2.2.2) (fun T' q => ?_) k2⟩
    rw [skip19.2.1]
    refine AW.skp ?_
    rw [if_neg (by simp), List.append_nil]
    exact ⟨q.1, q.2.1, q.2.2.1, q.2.2.2.1⟩
/-- the number's part -/
theorem num_part {σ : St} {a : Nat} {k c n : Int} {d p : AV} (h : Ev σ a k c n d p) {b6 : Bool} {s : List UInt8} (hs : s.length ≤ 90000000000) (hn : I64 n) : ∃ σ', Rest σ σ' [] ∧ ∀ (T : Tm) (rest : Code) (Q : Exit → Tm → St → Prop), f19L9 T (.ptr a 0) (sb s) (bo b6) →
    (∀ T', f19L2 T' (.ptr a 0) (sb (s ++ if b6 then 32 :: Lib.itoa n else [])) → AW Tryd.prog rest Q T' σ') → AW Tryd.prog (.seq (.seq (f19P 11) (.cond (.tmp 87) (f19P 12) (f19P 13))) rest) Q T σ := by
  have hil := itoa_len hn
  cases b6 with
  | true =>
    exact ⟨_, Rest.push h.wf (.row [sb s, sb (Lib.itoa n)] 9) [], fun T rest Q hT k2 => AW.opt (f19_11 (b6 := true) hT) (fun T' q => q.2.2.2) (fun T' q => f19_12 (ldf k3 h.row rfl) (itoa_ok h.tabs hn.1 hn.2) (bs78 σ _ _) (line2 (by omega)) ⟨q.1, q.2.1, q.2.2.1⟩) k2⟩
  | false =>
    refine ⟨σ, .refl h.wf _, fun T rest Q hT k2 => AW.opt (f19_11 (b6 := false) hT) (fun T' q => q.2.2.2) (fun T' q => ?_) k2⟩
    rw [skip19.2.2.1]
    refine AW.skp ?_
    rw [if_neg (by simp), List.append_nil]
    exact ⟨q.1, q.2.1, q.2.2.1⟩
/-- the word's part -/
theorem data_part {σ : St} {a : Nat} {k c n : Int} {d p : AV} (h : Ev σ a k c n d p) {db s : List UInt8} (hs : s.length + 4 * db.length ≤ 90000000000) (hd : BS σ d db) (hdb : db.length ≤ 10000000000) : ∃ σ', Rest σ σ' [] ∧ ∀ (T : Tm) (rest : Code) (Q : Exit → Tm → St → Prop), f19L2 T (.ptr a 0) (sb s) →
    (∀ T', f19L2 T' (.ptr a 0) (sb (s ++ if k = 2 then 32 :: quoteF db else [])) → AW Tryd.prog rest Q T' σ') → AW Tryd.prog (.seq (.seq (f19P 14) (.cond (.tmp 96) (f19P 15) (f19P 16))) rest) Q T σ := by
  by_cases hk : k = 2
  · obtain ⟨s1, h7, r7⟩ := quote_ok hd h.wf h.lock hdb
    have hq : (quoteF db).length ≤ 4 * db.length + 2 := by
      have := esc_flat db
      simp only [quoteF, List.length_append, List.length_cons, List.length_nil]; omega
    refine ⟨_, r7.trans (Rest.push r7.wf (.row [sb s, sb (quoteF db)] 9) []), fun T rest Q hT k2 => AW.opt (b := true) (f19_14_T (ldf k3 h.row rfl) (eqlT hk) hT) (fun T' q => q.2.2.2) (fun T' q => f19_15 (ldf k22 h.row rfl) h7 (bs78 s1 _ _) (line2 (by omega)) ⟨q.1, q.2.1, q.2.2.1⟩) fun T' q => k2 T' ?_⟩
    rw [if_pos hk]; exact q
  · refine ⟨σ, .refl h.wf _, fun T rest Q hT k2 => AW.opt (b := false) (f19_14_F (ldf k3 h.row rfl) (eqlF hk) hT) (fun T' q => q.2.2.2) (fun T' q => ?_) k2⟩
    rw [skip19.2.2.2.1]
    refine AW.skp ?_
    rw [if_neg hk, List.append_nil]
    exact ⟨q.1, q.2.1, q.2.2.1⟩
theorem eventLine_ok {st : St} {k c n : Int} {d p : AV} {db : List UInt8} {ps : List Nat} (hw : st.wf) (hl : st.lock = []) (hgl : Tabs st) (hd : BS st d db) (hp : NS st p ps) (hc : I64 c) (hn : I64 n) (hdb : db.length ≤ 10000000000) (hps : ∀ x ∈ ps, x < 65536) (hpl : ps.length ≤ 1000000000) :
    ∃ st', obC 19 [.agg [i64 k, i64 c, i64 n, d, p]] st (.tup [sb ((evLine k c n db ps).getD []), bo (evLine k c n db ps).isSome]) st' ∧ Rest st st' [] := by
  have r1 := Rest.push hw (.row [i64 k, i64 c, i64 n, d, p] 38) []
  have e1 : Ev (st.push (.row [i64 k, i64 c, i64 n, d, p] 38)) st.next k c n d p := ⟨get_new _ _ rfl, r1.wf, r1.lock.trans hl, hgl.rest r1⟩
  generalize hs1 : st.push (.row [i64 k, i64 c, i64 n, d, p] 38) = s1 at r1 e1
  have r2 := Rest.push r1.wf (.row (nmL.map sb) 9) []
  have e2 := e1.step r2
  have hname := name_ok e1.tabs e1.wf k
  have r12 := r1.trans r2
  generalize hs2 : s1.push (.row (nmL.map sb) 9) = s2 at r2 e2 hname r12
  have hd2 : BS s2 d db := hd.rest r12 fun _ _ => by simp
  have hp2 : NS s2 p ps := hp.rest r12 fun _ _ => by simp
  have start : ∀ (r : AV) (z : St), (∀ T, f19L4 T (.ptr st.next 0) (sb (nmF k)) (bo (isConn k)) (bo (isNum k)) → ∀ (x : Code), True → AW Tryd.prog (.seq (.seq (f19P 4) (.cond (.tmp 79) (.seq (f19P 5) (f19P 6)) (f19P 7))) (.seq (.seq (f19P 8) (.cond (.tmp 80) (f19P 9) (f19P 10))) (.seq (.seq (f19P 11) (.cond (.tmp 87) (f19P 12) (f19P 13))) (.seq (.seq (f19P 14) (.cond (.tmp 96) (f19P 15) (f19P 16))) (.seq (.seq (f19P 17) (.block 0 (.loop (f19P 18)))) (.seq (f19P 19) (f19P 20))))))) (endA E0 Tryd.f19 (fun r' s => r' = r ∧ s = z)) T s2) → obC 19 [.agg [i64 k, i64 c, i64 n, d, p]] st r z := by
    intro r z hk
    refine ACalls.body (E := E0) hE Tryd.func19 f19body ?_
    refine AW.andThen (f19_0 (k := k) (c := c) (n := n) (d := d) (p := p) (a1 := st.next) (s1 := s1) (by rw [← hs1]; rfl) ⟨rfl, rfl⟩) fun T1 q1 => ?_
    refine AW.andThen (f19_1 (ldf k3 e1.row rfl) hname q1) fun T2 q2 => ?_
    refine AW.andThen (conn19 (ldf k3 e2.row rfl) q2) fun T3 q3 => ?_
    refine AW.andThen (num19 (ldf k3 e2.row rfl) q3) fun T4 q4 => ?_
    exact hk T4 q4 .skip trivial
  have tests := fun (T : Tm) (q : f19L4 T (.ptr st.next 0) (sb (nmF k)) (bo (isConn k)) (bo (isNum k))) => tests19 (emB (nmF k)) (ldf (t := 3) (j := 0) k3 e2.row rfl) (ldf (t := 3) (j := 1) k3 e2.row rfl) (ldf (t := 3) (j := 2) k3 e2.row rfl) (ldf (t := 22) (j := 3) k22 e2.row rfl) (ldf (t := 36) (j := 4) k36 e2.row rfl) (neB c 0) (neB n 0) (neB k 2) hd2.len (gtB db) (neB k 8) hp2.len (gtB ps) q
  have fin : ∀ {T : Tm} {a b : AV} {z : St}, f19L7 T a b → endA E0 Tryd.f19 (fun r s => r = .tup [a, b] ∧ s = z) .ret T z := fun {T a b z} q => ⟨[T.get 2, T.get 3], rfl, by obtain ⟨_, q1, q2⟩ := q; rw [q1, q2]; rfl, rfl⟩
  by_cases hbad : badEv k c n db ps = true
  · have e0 : evLine k c n db ps = none := if_pos hbad
    rw [e0]
    refine ⟨s2, start _ s2 fun T q _ _ => ?_, r12⟩
    refine .seq (.seq ((tests T q).mono fun ex T' st' ⟨h1, h2, h3⟩ => ?_))
    subst h1; subst h3
    refine AW.cond (b := true) ?_ ?_
    · rw [show T'.eval (.tmp 79) = T'.get 79 from rfl, h2.2.2.2.2.2]
      exact congrArg bo hbad
    · refine AW.andThen (f19_5 h2.1) fun T5 q5 => ?_
      rw [skip19.2.2.2.2.1]
      exact AW.ret (fin q5)
  · have hb : badEv k c n db ps = false := by simpa using hbad
    have e0 : evLine k c n db ps = some (nmF k ++ (if isConn k then 32 :: Lib.itoa c else []) ++ (if isNum k then 32 :: Lib.itoa n else []) ++ (if k = 2 then 32 :: quoteF db else []) ++ pickF ps) := if_neg hbad
    rw [e0]
    have hnm : (nmF k).length ≤ 10 := by
      unfold nmF
      split
      · simp
      · rename_i h
        obtain ⟨j, rfl⟩ : ∃ j : Nat, k = j := ⟨k.toNat, by omega⟩
        rw [Int.toNat_natCast]
        have : ∀ i : Fin 10, (nmL.getD i.val []).length ≤ 10 := by decide
        exact this ⟨j, by omega⟩
    have hic := itoa_len hc
    have hin := itoa_len hn
    have l5 : (if isConn k = true then (32 : UInt8) :: Lib.itoa c else []).length ≤ 22 := by split <;> simp only [List.length_cons, List.length_nil] <;> omega
    have l6 : (if isNum k = true then (32 : UInt8) :: Lib.itoa n else []).length ≤ 22 := by split <;> simp only [List.length_cons, List.length_nil] <;> omega
    have hq : (quoteF db).length ≤ 4 * db.length + 2 := by
      have := esc_flat db
      simp only [quoteF, List.length_append, List.length_cons, List.length_nil]; omega
    have l7 : (if k = 2 then (32 : UInt8) :: quoteF db else []).length ≤ 4 * db.length + 3 := by split <;> simp only [List.length_cons, List.length_nil] <;> omega
    obtain ⟨s3, r3, k3'⟩ := conn_part e2 (b5 := isConn k) (b6 := isNum k) (s := nmF k) (by omega) hc
    have e3 := e2.step r3
    obtain ⟨s4, r4, k4⟩ := num_part e3 (b6 := isNum k) (s := nmF k ++ if isConn k then 32 :: Lib.itoa c else []) (by simp only [List.length_append]; omega) hn
    have e4 := e3.step r4
    have r24 := r3.trans r4
    obtain ⟨s5, r5, k5⟩ := data_part e4 (db := db) (s := nmF k ++ (if isConn k then 32 :: Lib.itoa c else []) ++ (if isNum k then 32 :: Lib.itoa n else [])) (by simp only [List.length_append]; omega) (hd2.rest r24 fun _ _ => by simp) hdb
    have e5 := e4.step r5
    have r25 := r24.trans r5
    have hp5 : NS s5 p ps := hp2.rest r25 fun _ _ => by simp
    obtain ⟨sf, k6, r6⟩ := picks_loop hp5 hps e5.wf e5.tabs hpl ps.length 0 s5 (nmF k ++ (if isConn k then 32 :: Lib.itoa c else []) ++ (if isNum k then 32 :: Lib.itoa n else []) ++ (if k = 2 then 32 :: quoteF db else [])) (by omega) (by omega) (.refl e5.wf _) (by simp only [List.length_append]; omega)
    refine ⟨sf, start _ sf fun T q _ _ => ?_, (r12.trans r25).trans r6⟩
    refine AW.opt (b := false) (tests T q) (fun T' q => ?_) (fun T' q => ?_) fun T5 q5 => k3' T5 _ _ q5 fun T6 q6 => k4 T6 _ _ q6 fun T7 q7 => k5 T7 _ _ q7 fun T8 q8 => ?_
    · rw [show T'.eval (.tmp 79) = T'.get 79 from rfl, q.2.2.2.2.2]
      exact congrArg bo hb
    · rw [skip19.1]
      exact AW.skp ⟨q.1, q.2.1, q.2.2.1, q.2.2.2.1, q.2.2.2.2.1⟩
    · refine AW.andThen (L := fun T => f19L13 T (sb (nmF k ++ (if isConn k then 32 :: Lib.itoa c else []) ++ (if isNum k then 32 :: Lib.itoa n else []) ++ (if k = 2 then 32 :: quoteF db else []) ++ pickF ps))) (s := sf) (AW.andThen (f19_17 (ldf k36 e5.row rfl) hp5.len q8) fun T9 q9 => AW.block ((AW.loopIn (k6 T9 q9)).mono fun ex T' z ⟨h1, h2, h3⟩ => ?_)) fun T10 q10 => ?_
      · subst h1
        rw [List.drop_zero] at h2
        exact ⟨rfl, h2, h3⟩
      · refine AW.andThen (f19_19 q10) fun T11 q11 => ?_
        rw [skip19.2.2.2.2.2]
        exact AW.ret (fin q11)
end
section
set_option maxRecDepth 8000
/-! ### a row's line -/
theorem tests21 {a : Nat} {s : ByteArray} {st : St} {k c n nd : Int} {d : AV} {e0 b5 k1 cz k5 nz k2 dz en : Bool} (hE : binA E0 .eql 9 (str s) (str ⟨#[]⟩) = some (bo e0)) (l0 : loadA E0 st 3 (.ptr a 0) = some (i64 k)) (l2 : loadA E0 st 3 (.ptr a 2) = some (i64 c)) (l3 : loadA E0 st 3 (.ptr a 3) = some (i64 n)) (l4 : loadA E0 st 22 (.ptr a 4) = some d) (l5 : loadA E0 st 4 (.ptr a 5) = some (bo en))
    (hC : binA E0 .neq 3 (i64 c) (i64 0) = some (bo cz)) (hN : binA E0 .neq 3 (i64 n) (i64 0) = some (bo nz)) (hK1 : binA E0 .neq 3 (i64 k) (i64 1) = some (bo k1)) (hK5 : binA E0 .neq 3 (i64 k) (i64 5) = some (bo k5)) (hK2 : binA E0 .neq 3 (i64 k) (i64 2) = some (bo k2)) (n4 : lenA E0 22 d = some (i64 nd)) (hD : binA E0 .gtr 3 (i64 nd) (i64 0) = some (bo dz))
    {T : Tm} (hT : f21L2 T (.ptr a 0) (str s) (bo b5)) : AW Tryd.prog (f21P 2) (fun ex T' st' => ex = .normal ∧ f21L3 T' (.ptr a 0) (str s) (bo b5) (bo (e0 || ((!b5 || k1) && cz) || ((!b5 || k5) && nz) || ((!b5 || k2) && (dz || en)))) ∧ st' = st) T st := by
  cases e0 with
  | true =>
    exact f21_2_T hE hT
  | false =>
    cases b5 with
    | true =>
      cases k1 with
      | true =>
        cases cz with
        | true =>
          exact f21_2_FTTT hE l0 hK1 l2 hC hT
        | false =>
          cases k5 with
          | true =>
            cases nz with
            | true =>
              exact f21_2_FTTFTT hE l0 hK1 l2 hC l0 hK5 l3 hN hT
            | false =>
              cases k2 with
              | true =>
                cases dz with
                | true =>
                  exact f21_2_FTTFTFTT hE l0 hK1 l2 hC l0 hK5 l3 hN l0 hK2 l4 n4 hD hT
                | false =>
                  exact f21_2_FTTFTFTF hE l0 hK1 l2 hC l0 hK5 l3 hN l0 hK2 l4 n4 hD l5 hT
              | false =>
                exact f21_2_FTTFTFF hE l0 hK1 l2 hC l0 hK5 l3 hN l0 hK2 hT
          | false =>
            cases k2 with
            | true =>
              cases dz with
              | true =>
                exact f21_2_FTTFFTT hE l0 hK1 l2 hC l0 hK5 l0 hK2 l4 n4 hD hT
              | false =>
                exact f21_2_FTTFFTF hE l0 hK1 l2 hC l0 hK5 l0 hK2 l4 n4 hD l5 hT
            | false =>
              exact f21_2_FTTFFF hE l0 hK1 l2 hC l0 hK5 l0 hK2 hT
      | false =>
        cases k5 with
        | true =>
          cases nz with
          | true =>
            exact f21_2_FTFTT hE l0 hK1 l0 hK5 l3 hN hT
          | false =>
            cases k2 with
            | true =>
              cases dz with
              | true =>
                exact f21_2_FTFTFTT hE l0 hK1 l0 hK5 l3 hN l0 hK2 l4 n4 hD hT
              | false =>
                exact f21_2_FTFTFTF hE l0 hK1 l0 hK5 l3 hN l0 hK2 l4 n4 hD l5 hT
            | false =>
              exact f21_2_FTFTFF hE l0 hK1 l0 hK5 l3 hN l0 hK2 hT
        | false =>
          cases k2 with
          | true =>
            cases dz with
            | true =>
              exact f21_2_FTFFTT hE l0 hK1 l0 hK5 l0 hK2 l4 n4 hD hT
            | false =>
              exact f21_2_FTFFTF hE l0 hK1 l0 hK5 l0 hK2 l4 n4 hD l5 hT
          | false =>
            exact f21_2_FTFFF hE l0 hK1 l0 hK5 l0 hK2 hT
    | false =>
      cases cz with
      | true =>
        exact f21_2_FFT hE l2 hC hT
      | false =>
        cases nz with
        | true =>
          exact f21_2_FFFT hE l2 hC l3 hN hT
        | false =>
          cases dz with
          | true =>
            exact f21_2_FFFFT hE l2 hC l3 hN l4 n4 hD hT
          | false =>
            exact f21_2_FFFFF hE l2 hC l3 hN l4 n4 hD l5 hT
def badRow (k e c n : Int) (d : List UInt8) (en : Bool) : Bool := (decide (nmF k = []) || ((!decide (e = 0) || decide (k ≠ 1)) && decide (c ≠ 0)) || ((!decide (e = 0) || decide (k ≠ 5)) && decide (n ≠ 0)) || ((!decide (e = 0) || decide (k ≠ 2)) && (decide (d ≠ []) || en)))
def okB : List UInt8 := [111, 107]
def errB : List UInt8 := [101, 114, 114, 111, 114]
def endB (en : Bool) : List UInt8 := if en then [101, 110, 100, 101, 100] else [111, 112, 101, 110]
def rowTail (k c n : Int) (d : List UInt8) (en : Bool) : List UInt8 := if k = 1 then 32 :: Lib.itoa c else if k = 5 then 32 :: Lib.itoa n else if k = 2 then 32 :: (quoteF d ++ 32 :: endB en) else []
def rowF (k e c n : Int) (d : List UInt8) (en : Bool) : Option (List UInt8) :=
  if badRow k e c n d en then none
  else if e = 0 then some (nmF k ++ 32 :: okB ++ rowTail k c n d en) else some (nmF k ++ 32 :: (errB ++ 32 :: Lib.itoa e))
theorem k4 : (E0.ty 4).map (fun i => isAggD i.desc) = some false := by kernel_rfl
structure Rw (σ : St) (a : Nat) (k e c n : Int) (d : AV) (en : Bool) : Prop where
  row : σ.get a = some (.row [i64 k, i64 e, i64 c, i64 n, d, bo en] 43)
  wf : σ.wf
  lock : σ.lock = []
  tabs : Tabs σ
theorem Rw.step {σ σ' : St} {a : Nat} {k e c n : Int} {d : AV} {en : Bool} (h : Rw σ a k e c n d en) (r : Rest σ σ' []) : Rw σ' a k e c n d en := ⟨r.keep _ _ (by simp) h.row, r.wf, r.lock.trans h.lock, h.tabs.rest r⟩
theorem skip21 : f21P 4 = .ret ∧ f21P 5 = .skip ∧ f21P 8 = .ret ∧ f21P 9 = .skip ∧ f21P 20 = .skip ∧ f21P 22 = .skip ∧ f21P 24 = .ret := ⟨by kernel_rfl, by kernel_rfl, by kernel_rfl, by kernel_rfl, by kernel_rfl, by kernel_rfl, by kernel_rfl⟩
theorem AW.cnd {P : Program} {c : Operand} {b : Bool} {p8 x y : Code} {Q : Exit → Tm → St → Prop} {L1 : Tm → Prop} {T : Tm} {σ : St} (h1 : AW P p8 (fun ex T' st' => ex = .normal ∧ L1 T' ∧ st' = σ) T σ) (hc : ∀ T, L1 T → T.eval c = .val (.bool b))
    (hx : ∀ T, L1 T → AW P (if b then x else y) Q T σ) : AW P (.seq p8 (.cond c x y)) Q T σ :=
  .seq (h1.mono fun ex T' st' ⟨e1, e2, e3⟩ => by
    subst e1; subst e3
    exact AW.cond (hc T' e2) (hx T' e2))
/-- a call of name in a region whose order is drawn -/
theorem hide_push {st : St} (hw : st.wf) (I : List Nat) (o : AObj) : Rest st (((st.hide I).push o).show st I) [] := by
  have hg : ∀ i p, st.get i = some p → (((st.hide I).push o).show st I).get i = some p := fun i p hp => by
    rw [St.show_get]
    split
    · exact hp
    · have := hw _ _ hp
      rw [St.get_push, if_neg (by show i ≠ st.next; omega)]; exact hp
  refine ⟨fun i p _ hp => hg i p hp, ?_, rfl, ?_, fun i p hp => ?_⟩
  · rw [St.show_next]; show st.next ≤ st.next + 1; omega
  · rw [St.show_gl]; rfl
  · rw [St.show_next]
    show i < st.next + 1
    rw [St.show_get] at hp
    split at hp
    · have := hw _ _ hp; omega
    · rw [St.get_push] at hp
      split at hp
      · rename_i e; have e : i = st.next := e; omega
      · have := hw _ _ hp; omega
theorem nmF_len (k : Int) : (nmF k).length ≤ 10 := by
  unfold nmF
  split
  · simp
  · rename_i h
    obtain ⟨j, rfl⟩ : ∃ j : Nat, k = j := ⟨k.toNat, by omega⟩
    rw [Int.toNat_natCast]
    have : ∀ i : Fin 10, (nmL.getD i.val []).length ≤ 10 := by decide
    exact this ⟨j, by omega⟩
noncomputable abbrev blk21 : Code := .block 0 (.seq (f21P 12) (.cond (.tmp 75) (f21P 13) (.seq (f21P 14) (.cond (.tmp 83) (f21P 15) (.seq (f21P 16) (.cond (.tmp 91) (.seq (f21P 17) (.seq (.seq (f21P 18) (.cond (.tmp 94) (f21P 19) (f21P 20))) (f21P 21))) (f21P 22)))))))
theorem tail_part {σ : St} {a : Nat} {k e c n : Int} {d : AV} {en : Bool} (h : Rw σ a k e c n d en) {db s : List UInt8} (hs : s.length + 4 * db.length ≤ 90000000000) (hd : BS σ d db) (hdb : db.length ≤ 10000000000) (hc : I64 c) (hn : I64 n) : ∃ σ', Rest σ σ' [] ∧ ∀ (T : Tm), f21L8 T (.ptr a 0) (sb s) (i64 k) →
    AW Tryd.prog blk21 (fun ex T' st' => ex = .normal ∧ f21L10 T' (sb (s ++ rowTail k c n db en)) ∧ st' = σ') T σ := by
  have l0 : loadA E0 σ 3 (.ptr a 0) = some (i64 k) := ldf k3 h.row rfl
  have hic := itoa_len hc
  have hin := itoa_len hn
  have fin : ∀ {T : Tm} {σ σ' : St} {c : Code} {t : AV}, AW Tryd.prog c (fun ex T' st' => ex = .normal ∧ f21L10 T' t ∧ st' = σ') T σ → AW Tryd.prog (.block 0 c) (fun ex T' st' => ex = .normal ∧ f21L10 T' t ∧ st' = σ') T σ := fun h => AW.block (h.mono fun ex T' st' ⟨e1, e2, e3⟩ => by
    subst e1; exact ⟨rfl, e2, e3⟩)
  unfold rowTail
  by_cases h1 : k = 1
  · refine ⟨_, Rest.push h.wf (.row [sb s, sb (Lib.itoa c)] 9) [], fun T hT => fin (AW.cnd (b := true) (f21_12_T (eqlT h1) hT) (fun T' q => q.2.2.2.2) fun T' q => ?_)⟩
    rw [if_pos h1]
    exact f21_13 (ldf k3 h.row rfl) (itoa_ok h.tabs hc.1 hc.2) (bs78 σ _ _) (line2 (by omega)) ⟨q.1, q.2.1, q.2.2.1⟩
  · by_cases h5 : k = 5
    · refine ⟨_, Rest.push h.wf (.row [sb s, sb (Lib.itoa n)] 9) [], fun T hT => fin (AW.cnd (b := false) (f21_12_F (eqlF h1) hT) (fun T' q => q.2.2.2.2) fun T' q => AW.cnd (b := true) (f21_14_T (eqlT h5) ⟨q.1, q.2.1, q.2.2.1, q.2.2.2.1⟩) (fun T' q => q.2.2.2.2) fun T' q => ?_)⟩
      rw [if_neg h1, if_pos h5]
      exact f21_15 (ldf k3 h.row rfl) (itoa_ok h.tabs hn.1 hn.2) (bs78 σ _ _) (line2 (by omega)) ⟨q.1, q.2.1, q.2.2.1⟩
    · by_cases h2 : k = 2
      · obtain ⟨s1, h7, r7⟩ := quote_ok hd h.wf h.lock hdb
        have hq : (quoteF db).length ≤ 4 * db.length + 2 := by
          have := esc_flat db
          simp only [quoteF, List.length_append, List.length_cons, List.length_nil]; omega
        have hen : (endB en).length ≤ 5 := by unfold endB; split <;> simp
        refine ⟨_, r7.trans (Rest.push r7.wf (.row [sb s, sb (quoteF db), sb (endB en)] 9) []), fun T hT => fin (AW.cnd (b := false) (f21_12_F (eqlF h1) hT) (fun T' q => q.2.2.2.2) fun T' q => AW.cnd (b := false) (f21_14_F (eqlF h5) ⟨q.1, q.2.1, q.2.2.1, q.2.2.2.1⟩) (fun T' q => q.2.2.2.2) fun T' q => AW.cnd (b := true) (f21_16_T (eqlT h2) ⟨q.1, q.2.1, q.2.2.1, q.2.2.2.1⟩) (fun T' q => q.2.2.2) fun T' q => ?_)⟩
        rw [if_neg h1, if_neg h5, if_pos h2]
        refine AW.andThen (f21_17 ⟨q.1, q.2.1, q.2.2.1⟩) fun T2 q2 => ?_
        refine AW.opt (b := en) (L2 := fun T => f21L13 T (.ptr a 0) (sb s) (sb (endB en))) (σ' := σ) (f21_18 (ldf k4 h.row rfl) q2) (fun T' q => q.2.2.2.2) (fun T' q => ?_) fun T3 q3 => f21_21 (ldf k22 h.row rfl) h7 (bs78c s1 _ _ _) (line3 (by omega)) q3
        cases en with
        | true => exact f21_19 ⟨q.1, q.2.1, q.2.2.1⟩
        | false =>
          rw [skip21.2.2.2.2.1]
          exact AW.skp ⟨q.1, q.2.1, q.2.2.1, q.2.2.2.1⟩
      · refine ⟨σ, .refl h.wf _, fun T hT => fin (AW.cnd (b := false) (f21_12_F (eqlF h1) hT) (fun T' q => q.2.2.2.2) fun T' q => AW.cnd (b := false) (f21_14_F (eqlF h5) ⟨q.1, q.2.1, q.2.2.1, q.2.2.2.1⟩) (fun T' q => q.2.2.2.2) fun T' q => AW.cnd (b := false) (f21_16_F (eqlF h2) ⟨q.1, q.2.1, q.2.2.1, q.2.2.2.1⟩) (fun T' q => q.2.2.2) fun T' q => ?_)⟩
        rw [if_neg h1, if_neg h5, if_neg h2, skip21.2.2.2.2.2.1, List.append_nil]
        exact AW.skp ⟨q.1, q.2.2.1⟩
theorem rowLine_ok {st : St} {k e c n : Int} {d : AV} {db : List UInt8} {en : Bool} (hw : st.wf) (hl : st.lock = []) (hgl : Tabs st) (hd : BS st d db) (he : I64 e) (hc : I64 c) (hn : I64 n) (hdb : db.length ≤ 10000000000) :
    ∃ st', obC 21 [.agg [i64 k, i64 e, i64 c, i64 n, d, bo en]] st (.tup [sb ((rowF k e c n db en).getD []), bo (rowF k e c n db en).isSome]) st' ∧ Rest st st' [] := by
  have r1 := Rest.push hw (.row [i64 k, i64 e, i64 c, i64 n, d, bo en] 43) []
  have e1 : Rw (st.push (.row [i64 k, i64 e, i64 c, i64 n, d, bo en] 43)) st.next k e c n d en := ⟨get_new _ _ rfl, r1.wf, r1.lock.trans hl, hgl.rest r1⟩
  generalize hs1 : st.push (.row [i64 k, i64 e, i64 c, i64 n, d, bo en] 43) = s1 at r1 e1
  have hlt : st.next < s1.next := e1.wf _ _ e1.row
  have hname := name_ok (st := s1.hide [st.next, st.next]) e1.tabs (fun i o h => e1.wf i o h) k
  have r2 := hide_push e1.wf [st.next, st.next] (.row (nmL.map sb) 9)
  have e2 := e1.step r2
  have r12 := r1.trans r2
  generalize hs2 : ((s1.hide [st.next, st.next]).push (.row (nmL.map sb) 9)).show s1 [st.next, st.next] = s2 at r2 e2 r12
  have hd2 : BS s2 d db := hd.rest r12 fun _ _ => by simp
  have ha : ∀ j ∈ [st.next, st.next], j < s1.next := fun j hj => by simp at hj; omega
  have hall : [st.next, st.next].all (fun j => (s1.get j).isSome) = true := by simp [e1.row]
  have st2 : ∀ T, f21L1 T (.ptr st.next 0) → AW Tryd.prog (f21P 1) (fun ex T' st' => ex = .normal ∧ f21L2 T' (.ptr st.next 0) (sb (nmF k)) (bo (decide (e = 0))) ∧ st' = s2) T s1 := fun T hT => by
    rw [← hs2]
    by_cases h0 : e = 0
    · rw [decide_eq_true h0]
      exact f21_1_T ha (ldf k3 e1.row rfl) (ldf k33 e1.row rfl) (eqlT h0) hall hname hT
    · rw [decide_eq_false h0]
      exact f21_1_F ha (ldf k3 e1.row rfl) (ldf k33 e1.row rfl) (eqlF h0) hall hname hT
  have start : ∀ (r : AV) (z : St), (∀ T, f21L2 T (.ptr st.next 0) (sb (nmF k)) (bo (decide (e = 0))) → AW Tryd.prog (.seq (.seq (f21P 2) (.cond (.tmp 61) (.seq (f21P 3) (f21P 4)) (f21P 5))) (.seq (.seq (f21P 6) (.cond (.tmp 63) (.seq (f21P 7) (f21P 8)) (f21P 9))) (.seq (f21P 10) (.seq (.seq (f21P 11) blk21) (.seq (f21P 23) (f21P 24)))))) (endA E0 Tryd.f21 (fun r' s => r' = r ∧ s = z)) T s2) → obC 21 [.agg [i64 k, i64 e, i64 c, i64 n, d, bo en]] st r z := by
    intro r z hk
    refine ACalls.body (E := E0) hE Tryd.func21 f21body ?_
    refine AW.andThen (f21_0 (k := k) (e := e) (c := c) (n := n) (d := d) (en := en) (a1 := st.next) (s1 := s1) (by rw [← hs1]; rfl) ⟨rfl, rfl⟩) fun T1 q1 => ?_
    exact AW.andThen (st2 T1 q1) fun T2 q2 => hk T2 q2
  have tests := fun (T : Tm) (q : f21L2 T (.ptr st.next 0) (sb (nmF k)) (bo (decide (e = 0)))) => tests21 (emB (nmF k)) (ldf (t := 3) (j := 0) k3 e2.row rfl) (ldf (t := 3) (j := 2) k3 e2.row rfl) (ldf (t := 3) (j := 3) k3 e2.row rfl) (ldf (t := 22) (j := 4) k22 e2.row rfl) (ldf (t := 4) (j := 5) k4 e2.row rfl) (neB c 0) (neB n 0) (neB k 1) (neB k 5) (neB k 2) hd2.len (gtB db) q
  have fin : ∀ {T : Tm} {a b : AV} {z : St}, f21L5 T a b → endA E0 Tryd.f21 (fun r s => r = .tup [a, b] ∧ s = z) .ret T z := fun {T a b z} q => ⟨[T.get 2, T.get 3], rfl, by obtain ⟨_, q1, q2⟩ := q; rw [q1, q2]; rfl, rfl⟩
  by_cases hbad : badRow k e c n db en = true
  · have e0 : rowF k e c n db en = none := if_pos hbad
    rw [e0]
    refine ⟨s2, start _ s2 fun T q => ?_, r12⟩
    refine .seq (AW.cnd (b := true) (tests T q) (fun T' q => ?_) fun T' q => ?_)
    · rw [show T'.eval (.tmp 61) = T'.get 61 from rfl, q.2.2.2.2]
      exact congrArg bo hbad
    · refine AW.andThen (f21_3 q.1) fun T5 q5 => ?_
      rw [skip21.1]
      exact AW.ret (fin q5)
  · have hb : badRow k e c n db en = false := by simpa using hbad
    have e0 : rowF k e c n db en = if e = 0 then some (nmF k ++ 32 :: okB ++ rowTail k c n db en) else some (nmF k ++ 32 :: (errB ++ 32 :: Lib.itoa e)) := if_neg hbad
    rw [e0]
    have hnm := nmF_len k
    have hie := itoa_len he
    have go : ∀ {Q : Exit → Tm → St → Prop} {rest : Code} {T : Tm}, f21L2 T (.ptr st.next 0) (sb (nmF k)) (bo (decide (e = 0))) → (∀ T', f21L2 T' (.ptr st.next 0) (sb (nmF k)) (bo (decide (e = 0))) → AW Tryd.prog rest Q T' s2) → AW Tryd.prog (.seq (.seq (f21P 2) (.cond (.tmp 61) (.seq (f21P 3) (f21P 4)) (f21P 5))) rest) Q T s2 := fun {Q rest T} q kk => by
      refine AW.opt (b := false) (tests T q) (fun T' q => ?_) (fun T' q => ?_) kk
      · rw [show T'.eval (.tmp 61) = T'.get 61 from rfl, q.2.2.2.2]
        exact congrArg bo hb
      · rw [skip21.2.1]
        exact AW.skp ⟨q.1, q.2.1, q.2.2.1, q.2.2.2.1⟩
    by_cases h0 : e = 0
    · rw [if_pos h0]
      have r3 := Rest.push e2.wf (.row [sb (nmF k), sb okB] 9) []
      have e3 := e2.step r3
      obtain ⟨s4, r4, k4⟩ := tail_part e3 (db := db) (s := nmF k ++ 32 :: okB) (by simp only [List.length_append, List.length_cons, okB, List.length_nil]; omega) (hd2.rest r3 fun _ _ => by simp) hdb hc hn
      refine ⟨s4, start _ s4 fun T q => go q fun T1 q1 => ?_, (r12.trans r3).trans r4⟩
      refine AW.opt (b := false) (L2 := fun T => f21L7 T (.ptr st.next 0) (sb (nmF k))) (σ' := s2) (f21_6_T (by rw [decide_eq_true h0] at q1; exact q1)) (fun T' q => q.2.2.2) (fun T' q => ?_) fun T2 q2 => ?_
      · rw [skip21.2.2.2.1]
        exact AW.skp ⟨q.1, q.2.1, q.2.2.1⟩
      · refine AW.andThen (f21_10 (bs78 s2 _ ⟨#[111, 107]⟩) (line2 (b := okB) (by simp only [okB, List.length_cons, List.length_nil]; omega)) q2) fun T3 q3 => ?_
        refine AW.andThen (L := fun T => f21L10 T (sb (nmF k ++ 32 :: okB ++ rowTail k c n db en))) (s := s4) (AW.andThen (f21_11 (ldf k3 e3.row rfl) q3) fun T4 q4 => k4 T4 q4) fun T5 q5 => ?_
        refine AW.andThen (f21_23 q5) fun T6 q6 => ?_
        rw [skip21.2.2.2.2.2.2]
        exact AW.ret (fin q6)
    · rw [if_neg h0]
      refine ⟨_, start _ (s2.push (.row [sb (nmF k), sb errB, sb (Lib.itoa e)] 9)) fun T q => go q fun T1 q1 => ?_, r12.trans (Rest.push e2.wf _ [])⟩
      refine .seq (AW.cnd (b := true) (f21_6_F (by rw [decide_eq_false h0] at q1; exact q1)) (fun T' q => q.2.2.2) fun T' q => ?_)
      refine AW.andThen (f21_7 (ldf k33 e2.row rfl) (itoa_ok e2.tabs he.1 he.2) (bs78c s2 _ ⟨#[101, 114, 114, 111, 114]⟩ _) (line3 (b := errB) (by simp only [errB, List.length_cons, List.length_nil]; omega)) ⟨q.1, q.2.1, q.2.2.1⟩) fun T6 q6 => ?_
      rw [skip21.2.2.1]
      exact AW.ret (fin q6)
end
section
set_option maxRecDepth 100000
/-! ### three lines, read -/
theorem ev_t1 : cloEv 23 [sb [116, 105, 99, 107, 32, 45, 49]] = some (.tup [.agg [i64 4, i64 0, i64 (-1), .nils, .nils], TT], []) := by kernel_rfl
theorem ev_op : cloEv 23 [sb [111, 112, 101, 110]] = some (.tup [.agg [i64 9, i64 0, i64 0, .nils, .nils], TT], []) := by kernel_rfl
theorem ev_t01 : cloEv 23 [sb [116, 105, 99, 107, 32, 48, 49]] = some (.tup [.agg [i64 4, i64 0, i64 1, .nils, .nils], FF], []) := by kernel_rfl
def evW (b : List UInt8) : Bool := b != [116, 105, 99, 107, 32, 48, 49]
def VW (b : List UInt8) (cs : List AV) (_ : St) : Prop := b = [116, 105, 99, 107, 32, 45, 49] → cs = [i64 4, i64 0, i64 (-1), .nils, .nils]
theorem evC_of {st : St} (hgl : Tabs st) {b : List UInt8} {n k : Int} {r : Bool} (hr : evW b = r) (hb : r = true → b = [116, 105, 99, 107, 32, 45, 49] → k = 4 ∧ n = -1) (h : cloEv 23 [sb b] = some (.tup [.agg [i64 k, i64 0, i64 n, .nils, .nils], bo r], [])) : EvC st VW evW b := fun σ hσ => by
  obtain ⟨s', h1, h2⟩ := closed_val h (fun _ => rfl) (fun _ => by cases r <;> rfl) (hgl.rest hσ) hσ.wf
  refine ⟨_, _, _, _, _, s', by rw [hr]; exact h1, h2, fun e1 e2 => ?_⟩
  obtain ⟨rfl, rfl⟩ := hb (by rw [← hr]; exact e1) e2
  rfl
theorem agg_len {a b c d e : AV} : ([a, b, c, d, e] : List AV).length = 5 := rfl
/-- what the two texts come to -/
theorem parse_w1 {st : St} (hgl : Tabs st) (hw : st.wf) (hl : st.lock = []) : ∃ id f z vs, obC 15 [sb [116, 105, 99, 107, 32, 45, 49, 10, 111, 112, 101, 110, 10]] st (.tup [.sl id 5 0 2 f, i64 0, i64 0]) z ∧ Rest st z [] ∧ z.get id = some (.row vs 38) ∧ vs[2]? = some (i64 (-1)) := by
  have hl2 : linesL 14 [116, 105, 99, 107, 32, 45, 49, 10, 111, 112, 101, 110, 10] = [[116, 105, 99, 107, 32, 45, 49], [111, 112, 101, 110]] := by decide
  have hp : parseF evW 14 [116, 105, 99, 107, 32, 45, 49, 10, 111, 112, 101, 110, 10] [] = .inl [[116, 105, 99, 107, 32, 45, 49], [111, 112, 101, 110]] := by decide
  obtain ⟨r, z, h1, h2, h3⟩ := parsed_ok (V := VW) (ev := evW) hw hl (s := [116, 105, 99, 107, 32, 45, 49, 10, 111, 112, 101, 110, 10]) (by decide) (fun b hb => by
    rw [show ([116, 105, 99, 107, 32, 45, 49, 10, 111, 112, 101, 110, 10] : List UInt8).length + 1 = 14 from rfl, hl2] at hb
    simp only [List.mem_cons, List.mem_nil_iff, or_false] at hb
    rcases hb with rfl | rfl
    · exact evC_of hgl (by decide) (fun _ _ => ⟨rfl, rfl⟩) ev_t1
    · exact evC_of hgl (by decide) (fun _ e => by simp at e) ev_op)
  rw [show ([116, 105, 99, 107, 32, 45, 49, 10, 111, 112, 101, 110, 10] : List UInt8).length + 1 = 14 from rfl, hp] at h3
  obtain ⟨L, css, rfl, hL, ⟨hV1, hV2⟩, _⟩ := h3
  rcases hL with ⟨h, _⟩ | ⟨hlen, id, f, rfl, hg⟩
  · simp at h
  · refine ⟨id, f, z, _, f15 h1, h2, hg, ?_⟩
    match css, hV1, hV2 with
    | [c1, c2], _, hV2 =>
      obtain ⟨a1, s', a2, _⟩ := hV2 0 _ c1 rfl rfl
      have := a2 rfl
      subst this
      rfl
theorem parse_w2 {st : St} (hgl : Tabs st) (hw : st.wf) (hl : st.lock = []) : ∃ z, obC 15 [sb [116, 105, 99, 107, 32, 48, 49, 10]] st (.tup [.nils, i64 1, i64 5]) z ∧ Rest st z [] := by
  have hl2 : linesL 9 [116, 105, 99, 107, 32, 48, 49, 10] = [[116, 105, 99, 107, 32, 48, 49]] := by decide
  have hp : parseF evW 9 [116, 105, 99, 107, 32, 48, 49, 10] [] = .inr 1 := by decide
  obtain ⟨r, z, h1, h2, h3⟩ := parsed_ok (V := VW) (ev := evW) hw hl (s := [116, 105, 99, 107, 32, 48, 49, 10]) (by decide) (fun b hb => by
    rw [show ([116, 105, 99, 107, 32, 48, 49, 10] : List UInt8).length + 1 = 9 from rfl, hl2] at hb
    simp only [List.mem_cons, List.mem_nil_iff, or_false] at hb
    subst hb
    exact evC_of (r := false) hgl (by decide) (fun e => by cases e) ev_t01)
  rw [show ([116, 105, 99, 107, 32, 48, 49, 10] : List UInt8).length + 1 = 9 from rfl, hp] at h3
  subst h3
  exact ⟨z, f15 h1, h2⟩
/-! ### the events and rows that are written -/
theorem text_w {st : St} {d p : AV} (hgl : Tabs st) (hw : st.wf) (hl : st.lock = []) {id : Nat} {f : Bool} (hd : BS st d [104, 105]) (hp : NS st p [5, 0]) (hg : st.get id = some (.row [i64 2, i64 2, i64 0, d, .nils, i64 8, i64 0, i64 3, .nils, p, i64 5, i64 0, i64 0, .nils, .nils] 38)) :
    ∃ z, obC 13 [.sl id 5 0 3 f] st (.tup [sb [112, 117, 115, 104, 32, 50, 32, 34, 104, 105, 34, 10, 99, 114, 97, 115, 104, 32, 51, 32, 53, 32, 48, 10, 115, 116, 101, 112, 10], i64 0]) z ∧ Rest st z [] := by
  have ev : ∀ (k c n : Int) (d p : AV) (db : List UInt8) (ps : List Nat), BS st d db → NS st p ps → I64 c → I64 n → db.length ≤ 10000000000 → (∀ x ∈ ps, x < 65536) → ps.length ≤ 1000000000 → WrC 19 st [i64 k, i64 c, i64 n, d, p] (evLine k c n db ps) := fun k c n d p db ps h1 h2 h3 h4 h5 h6 h7 σ hσ =>
    eventLine_ok hσ.wf (hσ.lock.trans hl) (fun q hq => hσ.gl q (hgl q hq)) (by
      rcases h1 with h | h | ⟨i, o, f, vs, h, hg, h8, h9⟩
      · exact .inl h
      · exact .inr (.inl h)
      · exact .inr (.inr ⟨i, o, f, vs, h, hσ.keep _ _ hg, h8, h9⟩)) (by
      rcases h2 with h | h | ⟨i, o, f, vs, h, hg, h8, h9⟩
      · exact .inl h
      · exact .inr (.inl h)
      · exact .inr (.inr ⟨i, o, f, vs, h, hσ.keep _ _ hg, h8, h9⟩)) h3 h4 h5 h6 h7
  have e1 : evLine 2 2 0 [104, 105] [] = some [112, 117, 115, 104, 32, 50, 32, 34, 104, 105, 34] := by kernel_rfl
  have e2 : evLine 8 0 3 [] [5, 0] = some [99, 114, 97, 115, 104, 32, 51, 32, 53, 32, 48] := by kernel_rfl
  have e3 : evLine 5 0 0 [] [] = some [115, 116, 101, 112] := by kernel_rfl
  have i0 : ∀ n : Int, -10 ≤ n ∧ n ≤ 10 → I64 n := fun n h => ⟨by omega, by omega⟩
  obtain ⟨z, h1, h2⟩ := written18_ok (x := .sl id 5 0 3 f) hw hl [[i64 2, i64 2, i64 0, d, .nils], [i64 8, i64 0, i64 3, .nils, p], [i64 5, i64 0, i64 0, .nils, .nils]] [evLine 2 2 0 [104, 105] [], evLine 8 0 3 [] [5, 0], evLine 5 0 0 [] []] rfl
    ⟨fun c hc => by simp only [List.mem_cons, List.mem_nil_iff, or_false] at hc; rcases hc with rfl | rfl | rfl <;> rfl, .inr (.inr ⟨id, 0, f, _, rfl, hg, rfl, by simp⟩)⟩ (by simp)
    (fun i c o h1 h2 => by
      match i, h1, h2 with
      | 0, h1, h2 => cases h1; cases h2; exact ev _ _ _ _ _ _ _ hd (.inl ⟨rfl, rfl⟩) (i0 _ (by omega)) (i0 _ (by omega)) (by simp) (by simp) (by simp)
      | 1, h1, h2 => cases h1; cases h2; exact ev _ _ _ _ _ _ _ (.inl ⟨rfl, rfl⟩) hp (i0 _ (by omega)) (i0 _ (by omega)) (by simp) (by simp) (by simp)
      | 2, h1, h2 => cases h1; cases h2; exact ev _ _ _ _ _ _ _ (.inl ⟨rfl, rfl⟩) (.inl ⟨rfl, rfl⟩) (i0 _ (by omega)) (i0 _ (by omega)) (by simp) (by simp) (by simp)
      | i + 3, h1, h2 => simp at h1) (by rw [e1, e2, e3]; decide)
  rw [e1, e2, e3] at h1
  exact ⟨z, f13 (by simpa [wrA, wrF] using h1), h2⟩
theorem rows_w {st : St} {d : AV} (hgl : Tabs st) (hw : st.wf) (hl : st.lock = []) {id : Nat} {f : Bool} (hd : BS st d [120]) (hg : st.get id = some (.row [i64 2, i64 0, i64 0, i64 0, d, TT, i64 5, i64 0, i64 0, i64 4, .nils, FF, i64 1, i64 7, i64 0, i64 0, .nils, FF] 43)) :
    ∃ z, obC 14 [.sl id 6 0 3 f] st (.tup [sb [112, 117, 115, 104, 32, 111, 107, 32, 34, 120, 34, 32, 101, 110, 100, 101, 100, 10, 115, 116, 101, 112, 32, 111, 107, 32, 52, 10, 99, 111, 110, 110, 101, 99, 116, 32, 101, 114, 114, 111, 114, 32, 55, 10], i64 0]) z ∧ Rest st z [] := by
  have ev : ∀ (k e c n : Int) (d : AV) (en : Bool) (db : List UInt8), BS st d db → I64 e → I64 c → I64 n → db.length ≤ 10000000000 → WrC 21 st [i64 k, i64 e, i64 c, i64 n, d, bo en] (rowF k e c n db en) := fun k e c n d en db h1 h2 h3 h4 h5 σ hσ =>
    rowLine_ok hσ.wf (hσ.lock.trans hl) (fun q hq => hσ.gl q (hgl q hq)) (by
      rcases h1 with h | h | ⟨i, o, f, vs, h, hg, h8, h9⟩
      · exact .inl h
      · exact .inr (.inl h)
      · exact .inr (.inr ⟨i, o, f, vs, h, hσ.keep _ _ hg, h8, h9⟩)) h2 h3 h4 h5
  have e1 : rowF 2 0 0 0 [120] true = some [112, 117, 115, 104, 32, 111, 107, 32, 34, 120, 34, 32, 101, 110, 100, 101, 100] := by kernel_rfl
  have e2 : rowF 5 0 0 4 [] false = some [115, 116, 101, 112, 32, 111, 107, 32, 52] := by kernel_rfl
  have e3 : rowF 1 7 0 0 [] false = some [99, 111, 110, 110, 101, 99, 116, 32, 101, 114, 114, 111, 114, 32, 55] := by kernel_rfl
  have i0 : ∀ n : Int, -10 ≤ n ∧ n ≤ 10 → I64 n := fun n h => ⟨by omega, by omega⟩
  obtain ⟨z, h1, h2⟩ := written20_ok (x := .sl id 6 0 3 f) hw hl [[i64 2, i64 0, i64 0, i64 0, d, TT], [i64 5, i64 0, i64 0, i64 4, .nils, FF], [i64 1, i64 7, i64 0, i64 0, .nils, FF]] [rowF 2 0 0 0 [120] true, rowF 5 0 0 4 [] false, rowF 1 7 0 0 [] false] rfl
    ⟨fun c hc => by simp only [List.mem_cons, List.mem_nil_iff, or_false] at hc; rcases hc with rfl | rfl | rfl <;> rfl, .inr (.inr ⟨id, 0, f, _, rfl, hg, rfl, by simp⟩)⟩ (by simp)
    (fun i c o h1 h2 => by
      match i, h1, h2 with
      | 0, h1, h2 => cases h1; cases h2; exact ev _ _ _ _ _ true _ hd (i0 _ (by omega)) (i0 _ (by omega)) (i0 _ (by omega)) (by simp)
      | 1, h1, h2 => cases h1; cases h2; exact ev _ _ _ _ _ false _ (.inl ⟨rfl, rfl⟩) (i0 _ (by omega)) (i0 _ (by omega)) (i0 _ (by omega)) (by simp)
      | 2, h1, h2 => cases h1; cases h2; exact ev _ _ _ _ _ false _ (.inl ⟨rfl, rfl⟩) (i0 _ (by omega)) (i0 _ (by omega)) (i0 _ (by omega)) (by simp)
      | i + 3, h1, h2 => simp at h1) (by rw [e1, e2, e3]; decide)
  rw [e1, e2, e3] at h1
  exact ⟨z, f14 (by simpa [wrA, wrF] using h1), h2⟩
end
section
set_option maxRecDepth 100000
/-! ### wakes -/
theorem Rest.same {st : St} (hw : st.wf) {id : Nat} {o : AObj} (h : st.get id = some o) (S : List Nat) : Rest st (st.set id o) S :=
  ⟨fun i p _ hp => by
    rw [St.get_set]
    split
    · rename_i e; rw [e, h] at hp; exact hp
    · exact hp, Nat.le_refl _, rfl, rfl, set_wf hw (hw _ _ h) o⟩
theorem cv22 {st : St} {a b c n : Nat} {f : Bool} {vs : List AV} (hg : st.get a = some (.row vs 5)) (hl : st.lock = []) : convO E0 st 22 22 (.sl a b c n f) = some (.sl a b c n f, st.set a (.row vs 5)) := by
  obtain ⟨j, h2, h5⟩ : ∃ j, E0.ty 22 = some j ∧ j.desc = .slice 5 := ⟨_, rfl, rfl⟩
  obtain ⟨k, h6, h7⟩ : ∃ k, E0.ty 5 = some k ∧ k.desc = .int .u8 := ⟨_, rfl, by kernel_rfl⟩
  have hs : bytesStrA E0 st 22 22 (.sl a b c n f) = none := by
    simp only [bytesStrA, h2]
    cases sliceCells st (.sl a b c n f) with
    | none => rfl
    | some r => simp only [h5]
  have hw : st.wget a = some (.row vs 5) := St.wget_of hg (by rw [hl]; simp)
  have hA : convA E0 st 22 22 (.sl a b c n f) = some (.sl a b c n f, st.set a (.row vs 5)) := by
    unfold convA
    rw [hs]
    show (match strBytesA E0 st 22 22 (.sl a b c n f) with | some r => some r | none => sameBytesA E0 st 22 22 (.sl a b c n f)) = _
    have h0 : strBytesA E0 st 22 22 (.sl a b c n f) = none := by simp only [strBytesA, h2]
    rw [h0]
    simp only [sameBytesA, h2, h5, h6, h7, hw, if_true]
  exact hA
theorem bA1 (a : Nat) : buildA E0 38 [(0, i64 2), (1, i64 2), (3, .sl a 1 0 2 true)] = some (.agg [i64 2, i64 2, i64 0, .sl a 1 0 2 true, .nils]) := by kernel_rfl
theorem bA2 (a : Nat) : buildA E0 38 [(0, i64 8), (2, i64 3), (4, .sl a 1 0 2 true)] = some (.agg [i64 8, i64 0, i64 3, .nils, .sl a 1 0 2 true]) := by kernel_rfl
theorem bA3 : buildA E0 38 [(0, i64 5)] = some (.agg [i64 5, i64 0, i64 0, .nils, .nils]) := by kernel_rfl
theorem b36 (st : St) : buildSliceA E0 st 36 2 [(0, u16 5), (1, u16 0)] = some (.sl st.next 1 0 2 true, st.push (.row [u16 5, u16 0] 39)) := by kernel_rfl
theorem b40 (st : St) (a b : Nat) : buildSliceA E0 st 40 3 [(0, .agg [i64 2, i64 2, i64 0, .sl a 1 0 2 true, .nils]), (1, .agg [i64 8, i64 0, i64 3, .nils, .sl b 1 0 2 true]), (2, .agg [i64 5, i64 0, i64 0, .nils, .nils])] = some (.sl st.next 5 0 3 true, st.push (.row [i64 2, i64 2, i64 0, .sl a 1 0 2 true, .nils, i64 8, i64 0, i64 3, .nils, .sl b 1 0 2 true, i64 5, i64 0, i64 0, .nils, .nils] 38)) := by kernel_rfl
theorem bR1 (a : Nat) : buildA E0 43 [(0, i64 2), (4, .sl a 1 0 1 true), (5, TT)] = some (.agg [i64 2, i64 0, i64 0, i64 0, .sl a 1 0 1 true, TT]) := by kernel_rfl
theorem bR2 : buildA E0 43 [(0, i64 5), (3, i64 4)] = some (.agg [i64 5, i64 0, i64 0, i64 4, .nils, FF]) := by kernel_rfl
theorem bR3 : buildA E0 43 [(0, i64 1), (1, i64 7)] = some (.agg [i64 1, i64 7, i64 0, i64 0, .nils, FF]) := by kernel_rfl
theorem b44 (st : St) (a : Nat) : buildSliceA E0 st 44 3 [(0, .agg [i64 2, i64 0, i64 0, i64 0, .sl a 1 0 1 true, TT]), (1, .agg [i64 5, i64 0, i64 0, i64 4, .nils, FF]), (2, .agg [i64 1, i64 7, i64 0, i64 0, .nils, FF])] = some (.sl st.next 6 0 3 true, st.push (.row [i64 2, i64 0, i64 0, i64 0, .sl a 1 0 1 true, TT, i64 5, i64 0, i64 0, i64 4, .nils, FF, i64 1, i64 7, i64 0, i64 0, .nils, FF] 43)) := by kernel_rfl
theorem b5 (st : St) : buildSliceA E0 st 22 5 [(0, u8 97), (1, u8 32), (2, u8 34), (3, u8 13), (4, u8 255)] = some (.sl st.next 1 0 5 true, st.push (.row [u8 97, u8 32, u8 34, u8 13, u8 255] 5)) := by kernel_rfl
theorem ix40 (a n : Nat) (f : Bool) : indexAddrA E0 40 (.sl a 5 0 2 f) (i64 0) = some (.ptr a 0) := by kernel_rfl
theorem fa38 (a : Nat) : fieldAddrA E0 38 (.ptr a 0) 2 = some (.ptr a 2) := by kernel_rfl
theorem ln40 (a b c n : Nat) (f : Bool) : lenA E0 40 (.sl a b c n f) = some (i64 n) := el40.ln ..
theorem wakes_ok {st : St} (hgl : Tabs st) (hw : st.wf) (hl : st.lock = []) : ∃ z, obC 9 [] st TT z ∧ Rest st z [] := by
  obtain ⟨s1, r1, h1, k1, m1⟩ := unquote_ok (st := st) (s := [34, 97, 34, 120]) hw hl (by decide)
  rw [show unqP [34, 97, 34, 120] = some ([97], [120]) from by decide] at m1
  obtain ⟨v1, rfl, o1, f1⟩ := m1
  have l1 := k1.lock.trans hl
  obtain ⟨s2, r2, h2, k2, m2⟩ := unquote_ok (st := s1) (s := [34, 92, 120, 54, 49, 34]) k1.wf l1 (by decide)
  rw [show unqP [34, 92, 120, 54, 49, 34] = none from by decide] at m2
  subst m2
  have k3 := Rest.push k2.wf (.row [u8 104, u8 105] 5) []
  have g3 : (s2.push (.row [u8 104, u8 105] 5)).get s2.next = some (.row [u8 104, u8 105] 5) := get_new _ _ rfl
  have h3 := b2 s2 104 105
  generalize s2.push (.row [u8 104, u8 105] 5) = s2' at k3 g3 h3
  have h4 := cv22 (b := 1) (c := 0) (n := 2) (f := true) g3 (((k1.trans k2).trans k3).lock.trans hl)
  have k3' := Rest.same k3.wf g3 []
  replace g3 := k3'.keep _ _ (by simp) g3
  replace k3 := k3.trans k3'
  generalize s2'.set s2.next (.row [u8 104, u8 105] 5) = s3 at k3 g3 h4
  have k5 := Rest.push k3.wf (.row [u16 5, u16 0] 39) []
  have g5 : (s3.push (.row [u16 5, u16 0] 39)).get s3.next = some (.row [u16 5, u16 0] 39) := get_new _ _ rfl
  have h6 := b36 s3
  generalize s3.push (.row [u16 5, u16 0] 39) = s5 at k5 g5 h6
  have h9 := b40 s5 s2.next s3.next
  have k6 := Rest.push k5.wf (.row [i64 2, i64 2, i64 0, .sl s2.next 1 0 2 true, .nils, i64 8, i64 0, i64 3, .nils, .sl s3.next 1 0 2 true, i64 5, i64 0, i64 0, .nils, .nils] 38) []
  have g6 : (s5.push (.row [i64 2, i64 2, i64 0, .sl s2.next 1 0 2 true, .nils, i64 8, i64 0, i64 3, .nils, .sl s3.next 1 0 2 true, i64 5, i64 0, i64 0, .nils, .nils] 38)).get s5.next = _ := get_new _ _ rfl
  generalize s5.push (.row [i64 2, i64 2, i64 0, .sl s2.next 1 0 2 true, .nils, i64 8, i64 0, i64 3, .nils, .sl s3.next 1 0 2 true, i64 5, i64 0, i64 0, .nils, .nils] 38) = s6 at h9 k6 g6
  have k06 := (((k1.trans k2).trans k3).trans k5).trans k6
  have g36 := (k5.trans k6).keep _ _ (by simp) g3
  have g56 := k6.keep _ _ (by simp) g5
  obtain ⟨s7, h10, k7⟩ := text_w (st := s6) (f := true) (hgl.rest k06) k6.wf (k06.lock.trans hl) (.inr (.inr ⟨_, 0, true, _, rfl, g36, rfl, by simp⟩)) (.inr (.inr ⟨_, 0, true, _, rfl, g56, rfl, by simp⟩)) g6
  have k8 := Rest.push k7.wf (.row [u8 120] 5) []
  have g8 : (s7.push (.row [u8 120] 5)).get s7.next = some (.row [u8 120] 5) := get_new _ _ rfl
  have h11 := b1 s7 120
  generalize s7.push (.row [u8 120] 5) = s7' at k8 g8 h11
  have h12 := cv22 (b := 1) (c := 0) (n := 1) (f := true) g8 (((k06.trans k7).trans k8).lock.trans hl)
  have k8' := Rest.same k8.wf g8 []
  replace g8 := k8'.keep _ _ (by simp) g8
  replace k8 := k8.trans k8'
  generalize s7'.set s7.next (.row [u8 120] 5) = s8 at k8 g8 h12
  have h16 := b44 s8 s7.next
  have k10 := Rest.push k8.wf (.row [i64 2, i64 0, i64 0, i64 0, .sl s7.next 1 0 1 true, TT, i64 5, i64 0, i64 0, i64 4, .nils, FF, i64 1, i64 7, i64 0, i64 0, .nils, FF] 43) []
  have g10 : (s8.push (.row [i64 2, i64 0, i64 0, i64 0, .sl s7.next 1 0 1 true, TT, i64 5, i64 0, i64 0, i64 4, .nils, FF, i64 1, i64 7, i64 0, i64 0, .nils, FF] 43)).get s8.next = _ := get_new _ _ rfl
  generalize s8.push (.row [i64 2, i64 0, i64 0, i64 0, .sl s7.next 1 0 1 true, TT, i64 5, i64 0, i64 0, i64 4, .nils, FF, i64 1, i64 7, i64 0, i64 0, .nils, FF] 43) = s10 at h16 k10 g10
  have k010 := ((k06.trans k7).trans k8).trans k10
  obtain ⟨s11, h17, k11⟩ := rows_w (st := s10) (f := true) (hgl.rest k010) k10.wf (k010.lock.trans hl) (.inr (.inr ⟨_, 0, true, _, rfl, k10.keep _ _ (by simp) g8, rfl, by simp⟩)) g10
  have k011 := k010.trans k11
  obtain ⟨id, fl, s12, vs, h18, k12, g12, hv⟩ := parse_w1 (hgl.rest k011) k11.wf (k011.lock.trans hl)
  have k012 := k011.trans k12
  obtain ⟨s13, h19, k13⟩ := parse_w2 (hgl.rest k012) k12.wf (k012.lock.trans hl)
  have k013 := k012.trans k13
  have k14 := Rest.push k13.wf (.row [u8 97, u8 32, u8 34, u8 13, u8 255] 5) []
  have g14 : (s13.push (.row [u8 97, u8 32, u8 34, u8 13, u8 255] 5)).get s13.next = some (.row [u8 97, u8 32, u8 34, u8 13, u8 255] 5) := get_new _ _ rfl
  have h20 := b5 s13
  generalize s13.push (.row [u8 97, u8 32, u8 34, u8 13, u8 255] 5) = s13' at k14 g14 h20
  have h21 := cv22 (b := 1) (c := 0) (n := 5) (f := true) g14 ((k013.trans k14).lock.trans hl)
  have k14' := Rest.same k14.wf g14 []
  replace g14 := k14'.keep _ _ (by simp) g14
  replace k14 := k14.trans k14'
  generalize s13'.set s13.next (.row [u8 97, u8 32, u8 34, u8 13, u8 255] 5) = s14 at k14 g14 h21
  have k014 := k013.trans k14
  obtain ⟨s16, h22, k16⟩ := quote_ok (st := s14) (x := .sl s13.next 1 0 5 true) (b := [97, 32, 34, 13, 255]) (.inr (.inr ⟨_, 0, true, _, rfl, g14, rfl, by simp⟩)) k14.wf (k014.lock.trans hl) (by decide)
  have k016 := k014.trans k16
  have k116 : Rest s1 s16 [] := ((((((((((k2.trans k3).trans k5).trans k6).trans k7).trans k8).trans k10).trans k11).trans k12).trans k13).trans k14).trans k16
  have h24 := (o1.rest k116 fun _ _ => by simp).bs.str
  have h37 : loadA E0 s16 3 (.ptr id 2) = some (i64 (-1)) := ldf (show (E0.ty 3).map (fun i => isAggD i.desc) = some false by kernel_rfl) (((k13.trans k14).trans k16).keep _ _ (by simp) g12) hv
  refine ⟨s16, ?_, k016⟩
  refine ACalls.body (E := E0) hE Tryd.func9 f9body ?_
  refine AW.atRet (f9_0_TTTTFTTTTTTTTTT h1 h2 h3 h4 (bA1 _) h6 (bA2 _) bA3 h9 h10 h11 h12 (bR1 _) bR2 bR3 h16 h17 h18 h19 h20 h21 h22 (eq_sbT (b := [34, 97, 32, 92, 34, 92, 120, 48, 100, 92, 120, 102, 102, 34]) (by decide)) h24 (eq_sbT (b := [97]) rfl) (eq_sbT (b := [120]) rfl) (eqlT rfl) (eq_sbT (b := [112, 117, 115, 104, 32, 50, 32, 34, 104, 105, 34, 10, 99, 114, 97, 115, 104, 32, 51, 32, 53, 32, 48, 10, 115, 116, 101, 112, 10]) rfl) (eqlT rfl) (eq_sbT (b := [112, 117, 115, 104, 32, 111, 107, 32, 34, 120, 34, 32, 101, 110, 100, 101, 100, 10, 115, 116, 101, 112, 32, 111, 107, 32, 52, 10, 99, 111, 110, 110, 101, 99, 116, 32, 101, 114, 114, 111, 114, 32, 55, 10]) rfl) (eqlT rfl) (eqlT rfl) (ln40 ..) (eqlT rfl) (ix40 id 2 fl) (fa38 id) h37 (eqlT rfl) (eqlT rfl) (eqlT rfl) rfl) fun T q => ?_
  exact ⟨[T.get 0], rfl, q.2, rfl⟩
end
section
set_option maxRecDepth 8000
/-! ### words, told apart: plain laws -/
theorem dig_hex : ∀ k : Fin 16, digV (hexD k.val) = some k.val := by decide
theorem scan_esc (c : UInt8) {n : Nat} {t B : List UInt8} : scanP (n + 1) (escB c ++ t) B = scanP n t (B ++ [c]) := by
  have hc := c.toNat_lt
  unfold escB
  split
  · have h1 : digV (hexD (c.toNat / 16)) = some (c.toNat / 16) := dig_hex ⟨c.toNat / 16, by omega⟩
    have h2 : digV (hexD (c.toNat % 16)) = some (c.toNat % 16) := dig_hex ⟨c.toNat % 16, by omega⟩
    have e : UInt8.ofNat (16 * (c.toNat / 16) + c.toNat % 16) = c := by
      rw [Nat.div_add_mod]; exact UInt8.ofNat_toNat
    show scanP (n + 1) (92 :: 120 :: hexD (c.toNat / 16) :: hexD (c.toNat % 16) :: t) B = _
    simp only [scanP]
    rw [if_neg (by decide), if_pos trivial, if_pos trivial, h1, h2]
    simp only [e]
  · split
    · rename_i h1 h
      have hx : c ≠ 120 := by rcases h with rfl | rfl <;> decide
      show scanP (n + 1) (92 :: c :: t) B = _
      simp only [scanP]
      rw [if_neg (by decide), if_pos trivial, if_neg hx]
    · rename_i h1 h
      show scanP (n + 1) (c :: t) B = _
      simp only [scanP]
      rw [if_neg (fun e => h (.inl e)), if_neg (fun e => h (.inr e))]
theorem scan_word (r : List UInt8) : ∀ (b : List UInt8) (n : Nat) (B : List UInt8), b.length < n → scanP n (b.flatMap escB ++ 34 :: r) B = some (B ++ b, r)
  | [], n + 1, B, _ => by
    show scanP (n + 1) (34 :: r) B = _
    simp only [scanP]
    rw [if_pos trivial, List.append_nil]
  | c :: b, n + 1, B, h => by
    rw [List.flatMap_cons, List.append_assoc, scan_esc, scan_word r b n (B ++ [c]) (by simp at h; omega)]
    simp
theorem esc_pos (c : UInt8) : 0 < (escB c).length := by
  unfold escB; split
  · simp
  · split <;> simp
theorem flat_ge : ∀ b : List UInt8, b.length ≤ (b.flatMap escB).length
  | [] => by simp
  | c :: b => by
    have := flat_ge b
    have := esc_pos c
    simp only [List.flatMap_cons, List.length_append, List.length_cons]; omega
theorem unq_word (b r : List UInt8) : unqP (quoteF b ++ r) = some (b, r) := by
  have e : quoteF b ++ r = 34 :: (b.flatMap escB ++ 34 :: r) := by simp [quoteF]
  rw [e]
  have h := scan_word r b ((b.flatMap escB ++ 34 :: r).length + 1) [] (by have := flat_ge b; simp only [List.length_append, List.length_cons]; omega)
  simp only [unqP, h, List.nil_append]
  rw [if_pos e]
theorem unq_some {s B r : List UInt8} (h : unqP s = some (B, r)) : quoteF B ++ r = s := by
  unfold unqP at h
  split at h
  · split at h
    · split at h
      · rename_i h2
        simp only [Option.some.injEq, Prod.mk.injEq] at h
        obtain ⟨rfl, rfl⟩ := h
        exact h2
      · cases h
    · cases h
  · cases h
theorem quote_inj {a b : List UInt8} (h : quoteF a = quoteF b) : a = b := by
  have h1 := unq_word a []
  rw [h, unq_word b []] at h1
  simp only [Option.some.injEq, Prod.mk.injEq, and_true] at h1
  exact h1.symm
theorem quote_pre {a b : List UInt8} (h : quoteF a <+: quoteF b) : a = b := by
  obtain ⟨t, ht⟩ := h
  have h1 := unq_word a t
  rw [ht] at h1
  have h2 := unq_word b []
  rw [List.append_nil, h1] at h2
  simp only [Option.some.injEq, Prod.mk.injEq] at h2
  exact h2.1
theorem hex_print : ∀ k : Fin 16, 32 ≤ (hexD k.val).toNat ∧ (hexD k.val).toNat ≤ 126 := by decide
theorem esc_print {c x : UInt8} (h : x ∈ escB c) : 32 ≤ x.toNat ∧ x.toNat ≤ 126 := by
  have hc := c.toNat_lt
  unfold escB at h
  split at h
  · simp only [List.mem_cons, List.mem_nil_iff, or_false] at h
    rcases h with rfl | rfl | rfl | rfl
    · decide
    · decide
    · exact hex_print ⟨c.toNat / 16, by omega⟩
    · exact hex_print ⟨c.toNat % 16, by omega⟩
  · rename_i h1
    split at h
    · simp only [List.mem_cons, List.mem_nil_iff, or_false] at h
      rcases h with rfl | rfl
      · decide
      · omega
    · simp only [List.mem_cons, List.mem_nil_iff, or_false] at h
      subst h; omega
theorem quote_print {a : List UInt8} {x : UInt8} (h : x ∈ quoteF a) : 32 ≤ x.toNat ∧ x.toNat ≤ 126 := by
  simp only [quoteF, List.mem_append, List.mem_cons, List.mem_flatMap, List.mem_nil_iff, or_false] at h
  rcases h with (rfl | ⟨c, _, h⟩) | rfl
  · decide
  · exact esc_print h
  · decide
end
section
set_option maxRecDepth 100000
/-! ### ShellParts, for all words and texts -/
theorem skip4 : f4P 13 = .skip ∧ f4P 12 = .ret ∧ f4P 15 = .ret := ⟨by kernel_rfl, by kernel_rfl, by kernel_rfl⟩
theorem print_loop {a h : List UInt8} (ha : ∀ x ∈ a, 32 ≤ x.toNat ∧ x.toNat ≤ 126) (hb : a.length ≤ 90000000000) : ∀ (n i : Nat) (σ : St), a.length - i = n → i ≤ a.length →
    ∀ T, f4L8 T (sb h) (sb a) (i64 i) → LoopIn Tryd.prog (f4P 8) (fun ex T' z => ex = .exit 0 ∧ f4L9 T' (sb h) ∧ z = σ) (n + 1) T σ := by
  intro n
  induction n with
  | zero =>
    intro i σ hn hi T hT
    exact LoopIn.out (by simp) (f4_8_F (len_sb a) (lssF (by omega)) hT) fun T' hT' => ⟨rfl, hT', rfl⟩
  | succ n ih =>
    intro i σ hn hi T hT
    obtain ⟨c, hc⟩ : ∃ c, a[i]? = some c := ⟨a[i]'(by omega), List.getElem?_eq_getElem (by omega)⟩
    obtain ⟨h1, h2⟩ := ha c (List.mem_of_getElem? hc)
    exact LoopIn.go (f4_8_TFF (len_sb a) (lssT (by omega)) (idx_sb hc) (lssF (by omega)) (idx_sb hc) (gtrF (by omega)) (add3 (a := i) (b := 1) (by omega)) hT) (ih (i + 1) σ (by omega) (by omega))
theorem parts_ok {st : St} {x y : AV} {s t h : List UInt8} (hgl : Tabs st) (hw : st.wf) (hl : st.lock = []) (hx : BS st x s) (hy : BS st y t) (bs : s.length ≤ 100000000) (bt : t.length ≤ 100000000) (bh : h.length ≤ 100000000) : ∃ z, obC 4 [x, y, sb h] st TT z ∧ Rest st z [] := by
  have qs : (quoteF s).length ≤ 4 * s.length + 2 := by
    have := esc_flat s
    simp only [quoteF, List.length_append, List.length_cons, List.length_nil]; omega
  have qt : (quoteF t).length ≤ 4 * t.length + 2 := by
    have := esc_flat t
    simp only [quoteF, List.length_append, List.length_cons, List.length_nil]; omega
  obtain ⟨s1, h1, k1⟩ := quote_ok hx hw hl (by omega)
  obtain ⟨s2, h2, k2⟩ := quote_ok (hy.rest k1 fun _ _ => by simp) k1.wf (k1.lock.trans hl) (by omega)
  have k02 := k1.trans k2
  have h3 : binA E0 .add 9 (sb (quoteF s)) (sb h) = some (sb (quoteF s ++ h)) := cat9 (by omega)
  obtain ⟨s3, r3, h4, k3, m3⟩ := unquote_ok (st := s2) (s := quoteF s ++ h) k2.wf (k02.lock.trans hl) (by simp only [List.length_append]; omega)
  rw [unq_word] at m3
  obtain ⟨u, rfl, ou, fu⟩ := m3
  have k03 := k02.trans k3
  have cs := (hx.rest k03 fun _ _ => by simp).str
  have ct := (hy.rest k03 fun _ _ => by simp).str
  have cu := ou.bs.str
  have key : ∀ T, f4L2 T x y (sb h) (sb (quoteF s)) (sb (quoteF t)) u (sb h) TT → AW Tryd.prog (f4P 3) (fun ex T' st' => ex = .normal ∧ f4L3 T' (sb h) (sb (quoteF s)) (sb (quoteF t)) FF ∧ st' = s3) T s3 := fun T q => by
    by_cases e : s = t
    · exact f4_3_TFFTTF cu cs (ne_sbF rfl) (ne_sbF rfl) (eq_sbT (by rw [e])) cs ct (eq_sbT e) (by kernel_rfl) q
    · exact f4_3_TFFFFF cu cs (ne_sbF rfl) (ne_sbF rfl) (eq_sbF (fun e2 => e (quote_inj e2))) cs ct (eq_sbF e) (by kernel_rfl) q
  have key2 : ∀ T, f4L5 T (sb h) (sb (quoteF s)) (sb (quoteF t)) → AW Tryd.prog (f4P 5) (fun ex T' st' => ex = .normal ∧ f4L6 T' (sb h) (sb (quoteF s)) FF ∧ st' = s3) T s3 := fun T q => by
    by_cases e : quoteF s = quoteF t
    · exact f4_5_F (ne_sbF e) q
    · by_cases e2 : (quoteF s).length ≤ (quoteF t).length
      · exact f4_5_TTF (ne_sbT e) (len_sb _) (len_sb _) (geqT (by omega)) (len_sb _) (slice_hi s3 e2) (eq_sbF fun e3 => e (by rw [quote_pre (a := s) (b := t) ⟨(quoteF t).drop (quoteF s).length, by have e4 := List.take_append_drop (quoteF s).length (quoteF t); rw [e3] at e4; exact e4⟩])) q
      · exact f4_5_TF (ne_sbT e) (len_sb _) (len_sb _) (geqF (by omega)) q
  obtain ⟨s4, r4, h5, k4, m4⟩ := unquote_ok (st := s3) (s := h) k3.wf (k03.lock.trans hl) (by omega)
  have k04 := k03.trans k4
  have walk : ∀ (z : St) (v : AV) (r : ByteArray) (b : Bool), r4 = .tup [v, str r, bo b] → (∀ T, f4L10 T (sb h) (str r) (bo b) v → AW Tryd.prog (.seq (.seq (f4P 10) (.cond (.tmp 92) (.seq (f4P 11) (f4P 12)) (f4P 13))) (.seq (f4P 14) (f4P 15))) (endA E0 Tryd.f4 (fun r' s => r' = TT ∧ s = z)) T s4) → obC 4 [x, y, sb h] st TT z := by
    rintro z v r b rfl hk
    refine ACalls.body (E := E0) hE Tryd.func4 f4body ?_
    refine AW.andThen (f4_0 (x := x) (y := y) (h := ⟨h.toArray⟩) ⟨rfl, rfl, rfl, rfl⟩) fun T1 q1 => ?_
    refine AW.andThen (f4_1 h1 h2 q1) fun T2 q2 => ?_
    refine AW.andThen (f4_2 (b22c := true) h3 h4 q2) fun T3 q3 => ?_
    refine AW.andThen (L := fun T => f4L5 T (sb h) (sb (quoteF s)) (sb (quoteF t))) (s := s3) (AW.andThen (key T3 q3) fun T4 q4 => f4_4_F q4) fun T5 q5 => ?_
    refine AW.andThen (L := fun T => f4L7 T (sb h) (sb (quoteF s))) (s := s3) (AW.andThen (key2 T5 q5) fun T6 q6 => f4_6_F q6) fun T7 q7 => ?_
    refine AW.andThen (L := fun T => f4L9 T (sb h)) (s := s3) (AW.andThen (f4_7 q7) fun T8 q8 => AW.block ((AW.loopIn (print_loop (fun c hc => quote_print hc) (by omega) (quoteF s).length 0 s3 (by omega) (by omega) T8 q8)).mono fun ex T' z ⟨e1, e2, e3⟩ => ?_)) fun T9 q9 => ?_
    · subst e1; exact ⟨rfl, e2, e3⟩
    · exact AW.andThen (f4_9 h5 q9) fun T10 q10 => hk T10 q10
  have fin : ∀ {T : Tm} {a : AV} {z : St}, f4L4 T a → endA E0 Tryd.f4 (fun r s => r = a ∧ s = z) .ret T z := fun {T a z} q => ⟨[T.get 6], rfl, by obtain ⟨_, q1⟩ := q; rw [q1]; rfl, rfl⟩
  cases hu : unqP h with
  | none =>
    rw [hu] at m4
    obtain ⟨s5, h6, k5⟩ := wakes_ok (hgl.rest k04) k4.wf (k04.lock.trans hl)
    refine ⟨s5, walk s5 .nils ⟨#[]⟩ false m4 fun T q => ?_, k04.trans k5⟩
    refine .seq (AW.cnd (b := true) (f4_10_F q) (fun T' q => q.2.2.2.2) fun T' q => ?_)
    refine AW.andThen (f4_11_TT (b101 := true) (show lenA E0 22 .nils = some (i64 0) by kernel_rfl) (eqlT rfl) (eq_sbT (a := []) (b := []) rfl) h6 ⟨q.1, q.2.2.1, q.2.2.2.1⟩) fun T6 q6 => ?_
    rw [skip4.2.1]
    exact AW.ret (fin q6)
  | some p =>
    obtain ⟨B, r⟩ := p
    rw [hu] at m4
    obtain ⟨v, e4, ov, fv⟩ := m4
    have hBr := unq_some hu
    have hBl : B.length ≤ 100000000 := by
      have := flat_ge B
      have e := congrArg List.length hBr
      simp only [quoteF, List.length_append, List.length_cons, List.length_nil] at e
      omega
    obtain ⟨s5, h6, k5⟩ := quote_ok ov.bs k4.wf (k04.lock.trans hl) (by omega)
    have k05 := k04.trans k5
    obtain ⟨s6, h7, k6⟩ := wakes_ok (hgl.rest k05) k5.wf (k05.lock.trans hl)
    refine ⟨s6, walk s6 v ⟨r.toArray⟩ true e4 fun T q => ?_, k05.trans k6⟩
    have hqB : (quoteF B).length + r.length ≤ 100000000 := by
      have e := congrArg List.length hBr
      simp only [List.length_append] at e
      omega
    refine AW.opt (b := false) (L2 := fun T => f4L13 T (sb h) (sb r) v) (σ' := s4) (f4_10_T q) (fun T' q => q.2.2.2.2) (fun T' q => ?_) fun T5 q5 => ?_
    · rw [skip4.1]
      exact AW.skp ⟨q.1, q.2.1, q.2.2.1, q.2.2.2.1⟩
    · refine AW.andThen (f4_14_T (b110 := true) h6 (cat9 (a := quoteF B) (b := r) (by omega)) (eq_sbT hBr) h7 q5) fun T6 q6 => ?_
      rw [skip4.2.2]
      exact AW.ret (fin q6)
end
end Go.Proofs.YtnknfheabnogaaaDoor.E
