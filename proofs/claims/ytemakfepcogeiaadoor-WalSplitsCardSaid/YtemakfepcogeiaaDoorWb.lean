/- wal.Frame over the abstract machine, and the main loop of WalSplits. No condition beyond those that the lemmas name. -/
import Derived.Test.YtemakfepcogeiaaDoorWa
namespace Go.Proofs.YtemakfepcogeiaaDoor.E
open Go Go.Proofs
set_option maxRecDepth 100000
def byteAt (n c : Int) : Int := IntKind.u8.wrap (shrU n c)
def be4 (n : Int) : List Int := [byteAt n 24, byteAt n 16, byteAt n 8, byteAt n 0]
def eqN (a b : Int) : Bool := boolI (binOp .eql 3 (.int .i64 a) (.int .i64 b))
def sitesF : Nat → List Nat
  | 4 => [1006, 1010, 2031, 6008, 6009]
  | 8 => [1014, 2036]
  | 21 => [2007]
  | _ => []
noncomputable def wnumEv (b : AV) (n : Int) (st : St) (o : List Or) := (evCallS Tryd.prog E0 noOv sitesF 100000 8 [b, u64 n, i64 4] st o).map fun q => (q.1, q.2.1, q.2.2.2)
def apP (st : St) (s x a : AV) (st' : St) : Prop := appendA E0 st 24 24 s x = some (a, st')
section
variable (n : Int) (st : St) (i1 i2 i3 i4 i5 m1 m2 m3 m4 m5 : Nat) (g1 g2 g3 g4 g5 : St → St)
def pu (st : St) (b : Int) : St := st.push (.row [u8 b] 5)
def S4 (i m : Nat) : AV := .sl i 1 0 m false
theorem wnumN : wnumEv .nils n st [FF, .eff (S4 i1 m1) g1, .eff (S4 i2 m2) g2, .eff (S4 i3 m3) g3, .eff (S4 i4 m4) g4] = some (.tup [S4 i4 m4, i64 0], g4 (pu (g3 (pu (g2 (pu (g1 (pu st (byteAt n 24))) (byteAt n 16))) (byteAt n 8))) (byteAt n 0)),
   [bo (gtU n 4294967295) = FF, apP (pu st (byteAt n 24)) .nils (.sl st.next 1 0 1 true) (S4 i1 m1) (g1 (pu st (byteAt n 24))),
    apP (pu (g1 (pu st (byteAt n 24))) (byteAt n 16)) (S4 i1 m1) (.sl (g1 (pu st (byteAt n 24))).next 1 0 1 true) (S4 i2 m2) (g2 (pu (g1 (pu st (byteAt n 24))) (byteAt n 16))),
    apP (pu (g2 (pu (g1 (pu st (byteAt n 24))) (byteAt n 16))) (byteAt n 8)) (S4 i2 m2) (.sl (g2 (pu (g1 (pu st (byteAt n 24))) (byteAt n 16))).next 1 0 1 true) (S4 i3 m3) (g3 (pu (g2 (pu (g1 (pu st (byteAt n 24))) (byteAt n 16))) (byteAt n 8))),
    apP (pu (g3 (pu (g2 (pu (g1 (pu st (byteAt n 24))) (byteAt n 16))) (byteAt n 8))) (byteAt n 0)) (S4 i3 m3) (.sl (g3 (pu (g2 (pu (g1 (pu st (byteAt n 24))) (byteAt n 16))) (byteAt n 8))).next 1 0 1 true) (S4 i4 m4) (g4 (pu (g3 (pu (g2 (pu (g1 (pu st (byteAt n 24))) (byteAt n 16))) (byteAt n 8))) (byteAt n 0)))]) := by kernel_rfl
theorem wnumS (j mj : Nat) (fl : Bool) : wnumEv (.sl j 1 0 mj fl) n st [FF, .eff (S4 i5 m5) g5, .eff (S4 i1 m1) g1, .eff (S4 i2 m2) g2, .eff (S4 i3 m3) g3, .eff (S4 i4 m4) g4] = some (.tup [S4 i4 m4, i64 0], g4 (pu (g3 (pu (g2 (pu (g1 (pu (g5 (st.push (.row [] 5))) (byteAt n 24))) (byteAt n 16))) (byteAt n 8))) (byteAt n 0)),
   [bo (gtU n 4294967295) = FF, apP (st.push (.row [] 5)) (.sl st.next 1 0 0 true) (.sl j 1 0 mj fl) (S4 i5 m5) (g5 (st.push (.row [] 5))),
    apP (pu (g5 (st.push (.row [] 5))) (byteAt n 24)) (S4 i5 m5) (.sl (g5 (st.push (.row [] 5))).next 1 0 1 true) (S4 i1 m1) (g1 (pu (g5 (st.push (.row [] 5))) (byteAt n 24))),
    apP (pu (g1 (pu (g5 (st.push (.row [] 5))) (byteAt n 24))) (byteAt n 16)) (S4 i1 m1) (.sl (g1 (pu (g5 (st.push (.row [] 5))) (byteAt n 24))).next 1 0 1 true) (S4 i2 m2) (g2 (pu (g1 (pu (g5 (st.push (.row [] 5))) (byteAt n 24))) (byteAt n 16))),
    apP (pu (g2 (pu (g1 (pu (g5 (st.push (.row [] 5))) (byteAt n 24))) (byteAt n 16))) (byteAt n 8)) (S4 i2 m2) (.sl (g2 (pu (g1 (pu (g5 (st.push (.row [] 5))) (byteAt n 24))) (byteAt n 16))).next 1 0 1 true) (S4 i3 m3) (g3 (pu (g2 (pu (g1 (pu (g5 (st.push (.row [] 5))) (byteAt n 24))) (byteAt n 16))) (byteAt n 8))),
    apP (pu (g3 (pu (g2 (pu (g1 (pu (g5 (st.push (.row [] 5))) (byteAt n 24))) (byteAt n 16))) (byteAt n 8))) (byteAt n 0)) (S4 i3 m3) (.sl (g3 (pu (g2 (pu (g1 (pu (g5 (st.push (.row [] 5))) (byteAt n 24))) (byteAt n 16))) (byteAt n 8))).next 1 0 1 true) (S4 i4 m4) (g4 (pu (g3 (pu (g2 (pu (g1 (pu (g5 (st.push (.row [] 5))) (byteAt n 24))) (byteAt n 16))) (byteAt n 8))) (byteAt n 0)))]) := by kernel_rfl
noncomputable def frameEv (x : AV) (st : St) (o : List Or) := (evCallS Tryd.prog E0 noOv sitesF 100000 4 [x] st o).map fun q => (q.1, q.2.1, q.2.2.2)
theorem frN : frameEv .nils st [TT] = some (.tup [.nils, i64 1], st, [bo (eqN 0 0) = TT]) := by kernel_rfl
theorem fr0 (k : Nat) (fl : Bool) (cells : List AV) : frameEv (.imm 1 k fl cells) st [TT] = some (.tup [.nils, i64 1], st, [bo (eqN k 0) = TT]) := by kernel_rfl
theorem fr1 (k : Nat) (fl : Bool) (cells : List AV) : frameEv (.imm 1 k fl cells) st [FF, TT] = some (.tup [.nils, i64 3], st, [bo (eqN k 0) = FF, bo (gtN k 4096) = TT]) := by kernel_rfl
theorem fr2 (k : Nat) (fl : Bool) (cells : List AV) (c : Int) : frameEv (.imm 1 k fl cells) st [FF, FF, .eff (.tup [S4 i1 m1, i64 0]) g1, .eff (u32 c) id, .eff (.tup [S4 i2 m2, i64 0]) g2, .eff (S4 i3 m3) g3] = some (.tup [S4 i3 m3, i64 0], g3 (g2 (g1 st)),
  [bo (eqN k 0) = FF, bo (gtN k 4096) = FF, obC 8 [.nils, u64 (IntKind.u64.wrap k), i64 4] st (.tup [S4 i1 m1, i64 0]) (g1 st), obC 9 [.imm 1 k fl cells] (g1 st) (u32 c) (g1 st), obC 8 [S4 i1 m1, u64 (IntKind.u64.wrap c), i64 4] (g1 st) (.tup [S4 i2 m2, i64 0]) (g2 (g1 st)), apP (g2 (g1 st)) (S4 i2 m2) (.imm 1 k fl cells) (S4 i3 m3) (g3 (g2 (g1 st)))]) := by kernel_rfl
end
def KeepA (st st' : St) : Prop := ∀ i o, st.get i = some o → st'.get i = some o
/-- bytes that grow -/
def BR (st : St) (s : AV) (B : List Int) : Prop := (B = [] ∧ s = .nils) ∨ (B ≠ [] ∧ ∃ i, s = S4 i B.length ∧ st.get i = some (.row (B.map u8) 5))
theorem push_wf {st : St} (hw : st.wf) (o : AObj) : (st.push o).wf := fun i p h => by
  rw [St.get_push] at h
  show i < st.next + 1
  split at h
  · omega
  · have := hw _ _ h; omega
theorem del_wf {st : St} (hw : st.wf) (id : Nat) : (st.del id).wf := fun i p h => by
  rw [St.get_del] at h
  split at h
  · cases h
  · exact hw _ _ h
theorem app_bytes {st : St} {s x : AV} {B c : List Int} (hB : BR st s B) (hw : st.wf) (hl : st.lock = []) (hx : sliceCells st x = some (c.length, c.map u8)) (hc : c ≠ []) (hb : B.length + c.length ≤ 1000000) :
    ∃ st', apP st s x (S4 st.next (B.length + c.length)) st' ∧ st'.get st.next = some (.row ((B ++ c).map u8) 5) ∧ st'.lock = [] ∧ st'.next = st.next + 1 ∧ (∀ j o, st.get j = some o → s ≠ S4 j B.length → st'.get j = some o) ∧ st'.wf := by
  have h0 : c.length ≠ 0 := fun e => hc (List.eq_nil_of_length_eq_zero e)
  rcases hB with ⟨rfl, rfl⟩ | ⟨hne, i, rfl, hg⟩
  · refine ⟨st.push (.row (c.map u8) 5), ?_, ?_, by simpa using hl, rfl, fun j o ho _ => ?_, push_wf hw _⟩
    · have := app_nil (st := st) hx (by simp) h0 (by simp at hb; omega)
      simpa [apP, S4] using this
    · rw [St.get_push, if_pos rfl]; simp
    · have := hw _ _ ho
      rw [St.get_push, if_neg (by omega)]; exact ho
  · refine ⟨_, app_row hg hl (by simp) hx (by simp) h0 hb, ?_, by simpa using hl, rfl, fun j o ho hj => ?_, push_wf (del_wf hw _) _⟩
    · rw [St.get_push, if_pos (by simp)]; simp
    · have := hw _ _ ho
      rw [St.get_push, if_neg (by simp; omega), St.get_del, if_neg (fun e => hj (by rw [e]))]; exact ho
theorem app_byte {st : St} {s : AV} {B : List Int} (hB : BR st s B) (hw : st.wf) (hl : st.lock = []) (b : Int) (hb : B.length + 1 ≤ 1000000) :
    ∃ st', apP (pu st b) s (.sl st.next 1 0 1 true) (S4 (st.next + 1) (B.length + 1)) st' ∧ st'.get (st.next + 1) = some (.row ((B ++ [b]).map u8) 5) ∧ st'.lock = [] ∧ st'.next = st.next + 2 ∧ (∀ j o, st.get j = some o → s ≠ S4 j B.length → st'.get j = some o) ∧ st'.wf := by
  have hp : ∀ j o, st.get j = some o → (pu st b).get j = some o := fun j o ho => by
    have := hw _ _ ho
    show (st.push _).get j = _
    rw [St.get_push, if_neg (by omega)]; exact ho
  have hB' : BR (pu st b) s B := by
    rcases hB with h | ⟨hne, i, rfl, hg⟩
    · exact .inl h
    · exact .inr ⟨hne, i, rfl, hp _ _ hg⟩
  have hx : sliceCells (pu st b) (.sl st.next 1 0 1 true) = some ([b].length, [b].map u8) := by
    rw [cells_sl (A := [u8 b]) (ty := 5) (by show (st.push _).get _ = _; rw [St.get_push, if_pos rfl]) (by simp)]
    rfl
  obtain ⟨st', h1, h2, h3, h4, h5, h6⟩ := app_bytes hB' (push_wf hw _) (by show (st.push _).lock = _; simpa using hl) hx (by simp) hb
  exact ⟨st', h1, h2, h3, h4, fun j o ho hj => h5 j o (hp _ _ ho) hj, h6⟩
theorem wnum_run {b a : AV} {n : Int} {st st' : St} {x : List Or} {ob : Ob} (h : wnumEv b n st x = some (a, st', ob)) (hob : ob.ok) : obC 8 [b, u64 n, i64 4] st a st' := by
  obtain ⟨x1, h1⟩ := run_of h
  exact ACalls.run hE (ov := noOv) noOv_ok h1 hob
theorem be4_ne (n : Int) : be4 n ≠ [] := by simp [be4]
/-- four bytes behind a fresh slice -/
theorem four {st : St} {s : AV} {B : List Int} (hB : BR st s B) (hw : st.wf) (hl : st.lock = []) (n : Int) (hb : B.length + 4 ≤ 1000000) :
    ∃ (i1 i2 i3 i4 : Nat) (s1 s2 s3 s4 : St), apP (pu st (byteAt n 24)) s (.sl st.next 1 0 1 true) (S4 i1 (B.length + 1)) s1 ∧ apP (pu s1 (byteAt n 16)) (S4 i1 (B.length + 1)) (.sl s1.next 1 0 1 true) (S4 i2 (B.length + 2)) s2 ∧
      apP (pu s2 (byteAt n 8)) (S4 i2 (B.length + 2)) (.sl s2.next 1 0 1 true) (S4 i3 (B.length + 3)) s3 ∧ apP (pu s3 (byteAt n 0)) (S4 i3 (B.length + 3)) (.sl s3.next 1 0 1 true) (S4 i4 (B.length + 4)) s4 ∧
      s4.get i4 = some (.row ((B ++ be4 n).map u8) 5) ∧ s4.lock = [] ∧ st.next ≤ i4 ∧ i4 < s4.next ∧ st.next ≤ s4.next ∧ (∀ j o, st.get j = some o → s ≠ S4 j B.length → s4.get j = some o) ∧ s4.wf := by
  obtain ⟨s1, a1, g1, l1, n1, k1, w1⟩ := app_byte hB hw hl (byteAt n 24) (by omega)
  obtain ⟨s2, a2, g2, l2, n2, k2, w2⟩ := app_byte (s := S4 (st.next + 1) (B.length + 1)) (B := B ++ [byteAt n 24]) (.inr ⟨by simp, st.next + 1, by simp, g1⟩) w1 l1 (byteAt n 16) (by simp; omega)
  obtain ⟨s3, a3, g3, l3, n3, k3, w3⟩ := app_byte (s := S4 (s1.next + 1) (B.length + 2)) (B := B ++ [byteAt n 24] ++ [byteAt n 16]) (.inr ⟨by simp, s1.next + 1, by simp, g2⟩) w2 l2 (byteAt n 8) (by simp; omega)
  obtain ⟨s4, a4, g4, l4, n4, k4, w4⟩ := app_byte (s := S4 (s2.next + 1) (B.length + 3)) (B := B ++ [byteAt n 24] ++ [byteAt n 16] ++ [byteAt n 8]) (.inr ⟨by simp, s2.next + 1, by simp, g3⟩) w3 l3 (byteAt n 0) (by simp; omega)
  refine ⟨st.next + 1, s1.next + 1, s2.next + 1, s3.next + 1, s1, s2, s3, s4, a1, by simpa using a2, by simpa using a3, by simpa using a4, by simpa [be4] using g4, l4, by omega, by omega, by omega, fun j o ho hj => ?_, w4⟩
  have := hw _ _ ho
  refine k4 j o (k3 j o (k2 j o (k1 j o ho hj) ?_) ?_) ?_ <;> (intro e; simp only [S4, AV.sl.injEq] at e; omega)
theorem numW_ok {st : St} {s : AV} {B : List Int} (hB : BR st s B) (hw : st.wf) (hl : st.lock = []) {n : Int} (hn : 0 ≤ n ∧ n ≤ 4294967295) (hb : B.length + 4 ≤ 1000000) :
    ∃ i st', obC 8 [s, u64 n, i64 4] st (.tup [S4 i (B.length + 4), i64 0]) st' ∧ st'.get i = some (.row ((B ++ be4 n).map u8) 5) ∧ st'.lock = [] ∧ st.next ≤ i ∧ st.next ≤ st'.next ∧ KeepA st st' ∧ st'.wf := by
  have hg : bo (gtU n 4294967295) = FF := ob_F (by rw [gtU_eq]; simp; omega)
  rcases hB with ⟨rfl, rfl⟩ | ⟨hne, j, rfl, hg0⟩
  · obtain ⟨i1, i2, i3, i4, s1, s2, s3, s4, a1, a2, a3, a4, g, l, x1, x2, x3, k, w⟩ := four (st := st) (B := []) (.inl ⟨rfl, rfl⟩) hw hl n hb
    refine ⟨i4, s4, wnum_run (wnumN n st i1 i2 i3 i4 1 2 3 4 (fun _ => s1) (fun _ => s2) (fun _ => s3) (fun _ => s4)) ?_, g, l, x1, x3, fun j o ho => k j o ho (by intro e; cases e), w⟩
    simp only [Ob.ok_cons, Ob.ok_nil, and_true]
    exact ⟨hg, a1, a2, a3, a4⟩
  · have hj := hw _ _ hg0
    have hx : sliceCells (st.push (.row [] 5)) (S4 j B.length) = some (B.length, B.map u8) := by
      unfold S4
      rw [cells_sl (A := B.map u8) (ty := 5) (by rw [St.get_push, if_neg (by omega)]; exact hg0) (by simp), List.drop_zero, List.take_of_length_le (by simp)]
    have h0 : B.length ≠ 0 := fun e => hne (List.eq_nil_of_length_eq_zero e)
    have ha : apP (st.push (.row [] 5)) (.sl st.next 1 0 0 true) (S4 j B.length) (S4 (st.next + 1) B.length) ((st.push (.row [] 5)).push (.row (B.map u8) 5)) := by
      have := app_full (st := st.push (.row [] 5)) (id := st.next) (off := 0) (len := 0) (n := B.length) (vs := []) (c := B.map u8) (x := S4 j B.length) (by rw [St.get_push, if_pos rfl]) (by simp) hx (by simp) h0 (by omega)
      simpa [apP, S4] using this
    have hw' := push_wf (push_wf hw (.row [] 5)) (.row (B.map u8) 5)
    have hl' : ((st.push (.row [] 5)).push (.row (B.map u8) 5)).lock = [] := by simpa using hl
    have hB' : BR ((st.push (.row [] 5)).push (.row (B.map u8) 5)) (S4 (st.next + 1) B.length) B := .inr ⟨hne, st.next + 1, rfl, by rw [St.get_push, if_pos (by simp)]⟩
    obtain ⟨i1, i2, i3, i4, s1, s2, s3, s4, a1, a2, a3, a4, g, l, x1, x2, x3, k, w⟩ := four hB' hw' hl' n hb
    have hnx : ((st.push (.row [] 5)).push (.row (B.map u8) 5)).next = st.next + 2 := rfl
    refine ⟨i4, s4, wnum_run (wnumS n st i1 i2 i3 i4 (st.next + 1) (B.length + 1) (B.length + 2) (B.length + 3) (B.length + 4) B.length (fun _ => s1) (fun _ => s2) (fun _ => s3) (fun _ => s4) (fun _ => (st.push (.row [] 5)).push (.row (B.map u8) 5)) j B.length false) ?_, g, l, by omega, by omega, fun j o ho => ?_, w⟩
    · simp only [Ob.ok_cons, Ob.ok_nil, and_true]
      exact ⟨hg, ha, a1, a2, a3, a4⟩
    · have := hw _ _ ho
      refine k j o ?_ (by intro e; simp only [S4, AV.sl.injEq] at e; omega)
      rw [St.get_push, if_neg (by simp; omega), St.get_push, if_neg (by omega)]; exact ho
def frameL (d : List Int) : List Int := be4 d.length ++ be4 (crcU d) ++ d
theorem be4_len (n : Int) : (be4 n).length = 4 := rfl
theorem frame_len (d : List Int) : (frameL d).length = 8 + d.length := by simp [frameL, be4_len]; omega
theorem wrap32_range (k : Int) : 0 ≤ IntKind.u32.wrap k ∧ IntKind.u32.wrap k ≤ 4294967295 := by
  rw [IntKind.wrap_u32]; omega
theorem crc_range (l : List Int) : 0 ≤ crcMore 0 l ∧ crcMore 0 l ≤ 4294967295 := by
  have h : ∃ z : Int, crcMore 0 l = IntKind.u32.wrap z := ⟨_, rfl⟩
  obtain ⟨z, hz⟩ := h
  rw [hz]; exact wrap32_range z
theorem crcU_eq (d : List Int) : crcU d = crcMore 0 d := by
  have := crc_range d
  unfold crcU
  rw [IntWalk.u64_in _ (by omega)]
theorem eqN_eq (a b : Int) : eqN a b = (a == b) := rfl
theorem frame_run {x a : AV} {st st' : St} {o : List Or} {ob : Ob} (h : frameEv x st o = some (a, st', ob)) (hob : ob.ok) : obC 4 [x] st a st' := by
  obtain ⟨x1, h1⟩ := run_of h
  exact ACalls.run hE (ov := noOv) noOv_ok h1 hob
def recW (d : List Int) : AV := .imm 1 d.length false (d.map u8)
theorem frame_bad0 (st : St) : obC 4 [.nils] st (.tup [.nils, i64 1]) st := frame_run (frN st) (by
  simp only [Ob.ok_cons, Ob.ok_nil, and_true]; exact ob_T rfl)
theorem frame_bad1 (st : St) {d : List Int} (h : d.length = 0) : obC 4 [recW d] st (.tup [.nils, i64 1]) st := frame_run (fr0 st d.length false (d.map u8)) (by
  simp only [Ob.ok_cons, Ob.ok_nil, and_true]; exact ob_T (by rw [eqN_eq, h]; rfl))
theorem frame_bad2 (st : St) {d : List Int} (h : 4096 < d.length) : obC 4 [recW d] st (.tup [.nils, i64 3]) st := frame_run (fr1 st d.length false (d.map u8)) (by
  simp only [Ob.ok_cons, Ob.ok_nil, and_true]
  exact ⟨ob_F (by rw [eqN_eq, beq_eq_false_iff_ne]; omega), gt_T (by omega)⟩)
theorem frame_ok {st : St} (hw : st.wf) (hl : st.lock = []) {d : List Int} (h1 : 1 ≤ d.length) (h2 : d.length ≤ 4096) :
    ∃ i st', obC 4 [recW d] st (.tup [S4 i (8 + d.length), i64 0]) st' ∧ st'.get i = some (.row ((frameL d).map u8) 5) ∧ st'.lock = [] ∧ st.next ≤ i ∧ st.next ≤ st'.next ∧ KeepA st st' ∧ st'.wf := by
  obtain ⟨i1, s1, a1, g1, l1, x1, n1, k1, w1⟩ := numW_ok (st := st) (s := .nils) (B := []) (.inl ⟨rfl, rfl⟩) hw hl (n := d.length) (by omega) (by simp)
  have hc := crc_range d
  obtain ⟨i2, s2, a2, g2, l2, x2, n2, k2, w2⟩ := numW_ok (st := s1) (s := S4 i1 4) (B := be4 d.length) (.inr ⟨be4_ne _, i1, rfl, by simpa using g1⟩) w1 l1 (n := crcU d) (by rw [crcU_eq]; exact hc) (by simp [be4_len])
  have hx : sliceCells s2 (recW d) = some (d.length, d.map u8) := rfl
  obtain ⟨s3, a3, g3, l3, n3, k3, w3⟩ := app_bytes (st := s2) (s := S4 i2 8) (B := be4 d.length ++ be4 (crcU d)) (.inr ⟨by simp [be4], i2, rfl, g2⟩) w2 l2 hx (fun e => by rw [e] at h1; simp at h1) (by simp [be4_len]; omega)
  refine ⟨s2.next, s3, frame_run (fr2 st i1 i2 s2.next 4 8 (8 + d.length) (fun _ => s1) (fun _ => s2) (fun _ => s3) d.length false (d.map u8) (crcMore 0 d)) ?_, g3, l3, by omega, by omega, fun j o ho => ?_, w3⟩
  · simp only [Ob.ok_cons, Ob.ok_nil, and_true]
    refine ⟨ob_F (by rw [eqN_eq, beq_eq_false_iff_ne]; omega), gt_F (by omega), ?_, sum_imm s1 rfl (by omega), ?_, ?_⟩
    · rw [IntWalk.u64_in _ (by omega)]; exact a1
    · exact a2
    · have e : (be4 (d.length : Int) ++ be4 (crcU d)).length = 8 := rfl
      rw [e] at a3
      exact a3
  · have := hw _ _ ho
    exact k3 j o (k2 j o (k1 j o ho)) (by intro e; simp only [S4, AV.sl.injEq] at e; omega)
noncomputable def wsC : Nat → Code := fun i => match Tryd.f3.body with
  | some (.seq r0 (.seq r1 (.seq r2 (.seq (.seq r3 (.block 0 (.loop mc))) (.seq tc (.seq r15 (.seq r16 (.seq (.seq r18 (.block 2 (.loop cc))) (.seq r24 _))))))))) => [r0, r1, r2, r3, mc, tc, r15, r16, r18, cc, r24].getD i .skip
  | _ => .skip
theorem body3 : Tryd.f3.body = some (.seq (wsC 0) (.seq (wsC 1) (.seq (wsC 2) (.seq (.seq (wsC 3) (.block 0 (.loop (wsC 4)))) (.seq (wsC 5) (.seq (wsC 6) (.seq (wsC 7) (.seq (.seq (wsC 8) (.block 2 (.loop (wsC 9)))) (.seq (wsC 10) .ret))))))))) := by kernel_rfl
def ssM : List Nat := [17, 2019, 2020, 22, 32, 36, 49, 6004, 2043, 2047, 52, 56, 59, 2060, 2061, 68, 6007]
def geN (a b : Int) : Bool := boolI (binOp .geq 3 (.int .i64 a) (.int .i64 b))
def leN (a b : Int) : Bool := boolI (binOp .leq 3 (.int .i64 a) (.int .i64 b))
def neN (a b : Int) : Bool := boolI (binOp .neq 3 (.int .i64 a) (.int .i64 b))
def addN (a b : Int) : Int := valI (binOp .add 3 (.int .i64 a) (.int .i64 b))
def remN (a b : Int) : Int := valI (binOp .rem 3 (.int .i64 a) (.int .i64 b))
noncomputable def wsEv (i : Nat) (l : List (Nat × AV)) (st : St) (x : List Or) := (evS Tryd.prog E0 noOv sitesT 100000 ssM (wsC i) ⟨86, l, []⟩ st x).map fun q => (q.1, q.2.1.n, [q.2.1.get 0, q.2.1.get 1, q.2.1.get 5, q.2.1.get 6, q.2.1.get 7, q.2.1.get 12, q.2.1.get 14, q.2.1.get 15, q.2.1.get 16], q.2.2.1, q.2.2.2.2)
def T0m (cut b tail want l : AV) (len i : Int) : List (Nat × AV) := [(1, cut), (5, b), (6, tail), (7, want), (14, l), (15, i64 len), (16, i64 i)]
def F0m (cut b tail want l : AV) (len i : Int) : List AV := [.undef, cut, b, tail, want, .undef, l, i64 len, i64 i]
section
variable (cut b tail want l x b' w' : AV) (len i j : Int) (st : St) (f1 g1 g2 : St → St) (n k : Nat) (cells c : List AV) (fl : Bool) (f m : Nat)
theorem wmEnd : wsEv 4 (T0m cut b tail want l len i) st [FF] = some (.exit 0, 86, F0m cut b tail want l len i, st, [bo (ltN i len) = FF]) := by kernel_rfl
theorem wm20 : wsEv 4 (T0m cut b tail want (.imm 1 n fl cells) len i) st [TT, .eff x id, TT] = some (.exit 0, 86, F0m cut b tail want (.imm 1 n fl cells) len i, st, [bo (ltN i len) = TT, 0 ≤ i ∧ i < (n : Int), loadA E0 st 24 (.iptr (cells.drop (i.toNat * 1))) = some x ∧ st = st, bo (eqN i 20) = TT]) := by kernel_rfl
theorem wmNil : wsEv 4 (T0m cut b tail want (.imm 1 n fl cells) len i) st [TT, AV.nils, FF, .eff (.tup [.nils, i64 1]) id, FF, i64 j] = some (.normal, 86, F0m cut b tail want (.imm 1 n fl cells) len j, st, [bo (ltN i len) = TT, 0 ≤ i ∧ i < (n : Int), partA E0 24 (cells.drop (i.toNat * 1)) 0 = some .nils, bo (eqN i 20) = FF, obC 4 [.nils] st (.tup [.nils, i64 1]) st, bo (geN 0 1) = FF, i64 (addN i 1) = i64 j]) := by kernel_rfl
theorem wm0 : wsEv 4 (T0m cut b tail want (.imm 1 n fl cells) len i) st [TT, AV.imm 1 k false c, FF, .eff (.tup [.nils, i64 1]) id, FF, i64 j] = some (.normal, 86, F0m cut b tail want (.imm 1 n fl cells) len j, st, [bo (ltN i len) = TT, 0 ≤ i ∧ i < (n : Int), partA E0 24 (cells.drop (i.toNat * 1)) 0 = some (.imm 1 k false c), bo (eqN i 20) = FF, obC 4 [.imm 1 k false c] st (.tup [.nils, i64 1]) st, bo (geN k 1) = FF, i64 (addN i 1) = i64 j]) := by kernel_rfl
theorem wm3 : wsEv 4 (T0m cut b tail want (.imm 1 n fl cells) len i) st [TT, AV.imm 1 k false c, FF, .eff (.tup [.nils, i64 3]) id, TT, FF, i64 j] = some (.normal, 86, F0m cut b tail want (.imm 1 n fl cells) len j, st, [bo (ltN i len) = TT, 0 ≤ i ∧ i < (n : Int), partA E0 24 (cells.drop (i.toNat * 1)) 0 = some (.imm 1 k false c), bo (eqN i 20) = FF, obC 4 [.imm 1 k false c] st (.tup [.nils, i64 3]) st, bo (geN k 1) = TT, bo (leN k 4096) = FF, i64 (addN i 1) = i64 j]) := by kernel_rfl
theorem wmOk : wsEv 4 (T0m cut b tail want (.imm 1 n fl cells) len i) st [TT, AV.imm 1 k false c, FF, .eff (.tup [S4 f m, i64 0]) f1, TT, TT, .eff b' g1, .eff w' g2, i64 j] = some (.normal, 86, F0m cut b' (S4 f m) w' (.imm 1 n fl cells) len j, g2 ((g1 (f1 st)).push (.row [.imm 1 k false c] 24)),
  [bo (ltN i len) = TT, 0 ≤ i ∧ i < (n : Int), partA E0 24 (cells.drop (i.toNat * 1)) 0 = some (.imm 1 k false c), bo (eqN i 20) = FF, obC 4 [.imm 1 k false c] st (.tup [S4 f m, i64 0]) (f1 st), bo (geN k 1) = TT, bo (leN k 4096) = TT, apP (f1 st) b (S4 f m) b' (g1 (f1 st)),
   appendA E0 ((g1 (f1 st)).push (.row [.imm 1 k false c] 24)) 22 22 want (.sl (g1 (f1 st)).next 1 0 1 true) = some (w', g2 ((g1 (f1 st)).push (.row [.imm 1 k false c] 24))), i64 (addN i 1) = i64 j]) := by kernel_rfl
theorem ws0 : wsEv 0 [(0, l), (1, cut)] st [] = some (.normal, 86, [l, cut, .undef, .undef, .undef, .undef, .undef, .undef, .undef], st, []) := by kernel_rfl
theorem ws1 : wsEv 1 [(0, l), (1, cut)] st [] = some (.normal, 86, [l, cut, .nils, .nils, .undef, .undef, .undef, .undef, .undef], st, []) := by kernel_rfl
theorem ws2 : wsEv 2 [(0, l), (1, cut), (5, .nils), (6, .nils)] st [] = some (.normal, 86, [l, cut, .nils, .nils, .nils, .undef, .undef, .undef, .undef], st, []) := by kernel_rfl
theorem ws3 : wsEv 3 [(0, .imm 1 n fl cells), (1, cut), (5, .nils), (6, .nils), (7, .nils)] st [] = some (.normal, 86, [.imm 1 n fl cells, cut, .nils, .nils, .nils, .undef, .imm 1 n fl cells, i64 n, i64 0], st, []) := by kernel_rfl
theorem ws3N : wsEv 3 [(0, .nils), (1, cut), (5, .nils), (6, .nils), (7, .nils)] st [] = some (.normal, 86, [.nils, cut, .nils, .nils, .nils, .undef, .nils, i64 0, i64 0], st, []) := by kernel_rfl
/-- the tail -/
theorem wt0 : wsEv 5 [(5, b), (6, .nils), (7, want)] st [FF] = some (.normal, 86, [.undef, .undef, b, .nils, want, .undef, .undef, .undef, .undef], st, [bo (gtN 0 0) = FF]) := by kernel_rfl
theorem wt1 (cu : Int) (y : AV) (h1 : St → St) (s t : Int) : wsEv 5 [(1, u16 cu), (5, b), (6, S4 f (m + 1)), (7, want)] st [TT, i64 s, i64 t, .eff y id, .eff b' h1] = some (.normal, 86, [.undef, u16 cu, b', S4 f (m + 1), want, .undef, .undef, .undef, .undef], h1 st,
   [bo (gtN ((m + 1 : Nat) : Int) 0) = TT, i64 (IntKind.i64.wrap cu) = i64 s, i64 (remN s ((m + 1 : Nat) : Int)) = i64 t, sliceA E0 st 24 (S4 f (m + 1)) none (some (i64 t)) none = some y ∧ st = st, apP st b y b' (h1 st)]) := by kernel_rfl
theorem wq (p q : Nat) (g w : Nat) : wsEv 7 [(12, S4 g p), (7, S4 w q)] st [FF] = some (.normal, 86, [.undef, .undef, .undef, .undef, S4 w q, S4 g p, .undef, .undef, .undef], st, [bo (neN p q) = FF]) := by kernel_rfl
theorem wqN : wsEv 7 [(12, .nils), (7, .nils)] st [FF] = some (.normal, 86, [.undef, .undef, .undef, .undef, .nils, .nils, .undef, .undef, .undef], st, [bo (neN 0 0) = FF]) := by kernel_rfl
theorem wz : wsEv 10 [] st [.eff TT id] = some (.normal, 86, [.undef, .undef, .undef, .undef, .undef, .undef, .undef, .undef, .undef], st, [obC 7 [] st TT st]) := by kernel_rfl
end
theorem AW.gl {P : Program} {c : Code} {Q : Exit → Tm → St → Prop} {T : Tm} {st : St} (h : AW P c Q T st) : AW P c (fun e T' st' => Q e T' st' ∧ st'.gl = st.gl) T st :=
  fun g w a hok hT => wp_mono (h g w a hok hT) fun _ _ _ ⟨g', T', st', k1, k2, k3⟩ => ⟨g', T', st', k1, k2, k3, k1.gl⟩
theorem ws_run {i : Nat} {l : List (Nat × AV)} {st st1 : St} {x : List Or} {e : Exit} {n : Nat} {F : List AV} {ob : Ob} (h : wsEv i l st x = some (e, n, F, st1, ob)) (hob : ob.ok) {T : Tm} (hn : T.n = 86) (hT : ∀ p ∈ l, T.get p.1 = p.2) :
    AW Tryd.prog (wsC i) (fun e' T' st' => e' = e ∧ T'.n = n ∧ [T'.get 0, T'.get 1, T'.get 5, T'.get 6, T'.get 7, T'.get 12, T'.get 14, T'.get 15, T'.get 16] = F ∧ st' = st1) T st := by
  obtain ⟨⟨e1, T1, s1, x1, o1⟩, h1, h2⟩ := Option.map_eq_some_iff.1 h
  simp only [Prod.mk.injEq] at h2
  obtain ⟨rfl, h3, h4, rfl, rfl⟩ := h2
  refine (AW.run hE (ov := noOv) noOv_ok h1 hob hn hT).mono fun e' T' st' hp => ?_
  obtain ⟨rfl, rfl, rfl⟩ := hp
  exact ⟨rfl, h3, h4, rfl⟩
/-- a list of cells -/
def LC (st : St) (l : AV) (L : List AV) : Prop := (L = [] ∧ l = .nils) ∨ (L ≠ [] ∧ ∃ id, l = S4 id L.length ∧ st.get id = some (.row L 24))
theorem app_cell {st3 : St} {l : AV} {L : List AV} (hls : LC st3 l L) (hw : st3.wf) (hl : st3.lock = []) (hb : L.length + 1 ≤ 1000000) (x : AV) :
    ∃ st5, appendA E0 (st3.push (.row [x] 24)) 22 22 l (.sl st3.next 1 0 1 true) = some (S4 (st3.next + 1) (L.length + 1), st5) ∧ st5.get (st3.next + 1) = some (.row (L ++ [x]) 24) ∧ st5.lock = [] ∧ st5.next = st3.next + 2 ∧
      ∀ i o, st3.get i = some o → l ≠ S4 i L.length → st5.get i = some o := by
  have hx : sliceCells (st3.push (.row [x] 24)) (.sl st3.next 1 0 1 true) = some (1, [x]) := by
    rw [cells_sl (by rw [St.get_push, if_pos rfl]) (by simp)]
    rfl
  rcases hls with ⟨rfl, rfl⟩ | ⟨hne, id, rfl, hg⟩
  · refine ⟨_, lapp_nil hx rfl (by omega) (by omega), ?_, by simpa using hl, rfl, fun i o ho _ => ?_⟩
    · rw [St.get_push, if_pos (by simp)]; rfl
    · have := hw _ _ ho
      rw [St.get_push, if_neg (by rw [St.next_push]; omega), St.get_push, if_neg (by omega)]; exact ho
  · have hid := hw _ _ hg
    have hg' : (st3.push (.row [x] 24)).get id = some (.row L 24) := by rw [St.get_push, if_neg (by omega)]; exact hg
    refine ⟨_, lapp_row hg' (by simpa using hl) rfl hx rfl (by omega) hb, ?_, by simpa using hl, rfl, fun i o ho hne' => ?_⟩
    · rw [St.get_push, if_pos (by simp)]
    · have := hw _ _ ho
      rw [St.get_push, if_neg (by rw [St.next_del, St.next_push]; omega), St.get_del, if_neg (fun e => hne' (by rw [e])), St.get_push, if_neg (by omega)]; exact ho
/-- what the loop has made of the records R -/
structure Made (cut : AV) (R : List (List Int)) (T : Tm) (st : St) : Prop where
  n : T.n = 86
  cut : T.get 1 = cut
  b : BR st (T.get 5) (R.flatMap frameL)
  want : LC st (T.get 7) (R.map recW)
  tail : (R = [] ∧ T.get 6 = .nils) ∨ ∃ f d, R.getLast? = some d ∧ T.get 6 = S4 f (8 + d.length) ∧ st.get f = some (.row ((frameL d).map u8) 5)
  lock : st.lock = []
  good : ∀ d ∈ R, 1 ≤ d.length ∧ d.length ≤ 4096
  len : R.length ≤ 20
theorem flat_len : ∀ {R : List (List Int)}, (∀ d ∈ R, 1 ≤ d.length ∧ d.length ≤ 4096) → (R.flatMap frameL).length ≤ R.length * 4104
  | [], _ => by simp
  | d :: r, h => by
    have h1 := h d (List.mem_cons_self ..)
    have h2 := flat_len fun e he => h e (List.mem_cons_of_mem _ he)
    rw [List.flatMap_cons, List.length_append, frame_len, List.length_cons]
    omega
theorem geN_eq (a b : Int) : geN a b = decide (a ≥ b) := rfl
theorem leN_eq (a b : Int) : leN a b = decide (a ≤ b) := rfl
theorem neN_eq (a b : Int) : neN a b = (a != b) := rfl
theorem addN_eq (a b : Int) (h : 0 ≤ a + b ∧ a + b ≤ 9223372036854775807) : addN a b = a + b := by
  have : addN a b = IntKind.i64.wrap (a + b) := rfl
  rw [this, IntWalk.i64_in _ (by omega)]
theorem frameL_ne (d : List Int) : frameL d ≠ [] := by simp [frameL, be4]
/-- one more record -/
theorem made_more {cut : AV} {R : List (List Int)} {T : Tm} {st : St} (h : Made cut R T st) (hw : st.wf) {d : List Int} (h1 : 1 ≤ d.length) (h2 : d.length ≤ 4096) (hR : R.length < 20) :
    ∃ f b' w' s1 s2 s3, obC 4 [recW d] st (.tup [S4 f (8 + d.length), i64 0]) s1 ∧ apP s1 (T.get 5) (S4 f (8 + d.length)) b' s2 ∧ appendA E0 (s2.push (.row [recW d] 24)) 22 22 (T.get 7) (.sl s2.next 1 0 1 true) = some (w', s3) ∧
      (∀ T' : Tm, T'.n = 86 → T'.get 1 = cut → T'.get 5 = b' → T'.get 6 = S4 f (8 + d.length) → T'.get 7 = w' → Made cut (R ++ [d]) T' s3) := by
  obtain ⟨f, s1, a1, g1, l1, x1, n1, k1, w1⟩ := frame_ok hw h.lock h1 h2
  have hfl := flat_len h.good
  have hB1 : BR s1 (T.get 5) (R.flatMap frameL) := by
    rcases h.b with h | ⟨hne, i, e, hg⟩
    · exact .inl h
    · exact .inr ⟨hne, i, e, k1 _ _ hg⟩
  have hx : sliceCells s1 (S4 f (8 + d.length)) = some ((frameL d).length, (frameL d).map u8) := by
    unfold S4
    rw [cells_sl g1 (by simp [frame_len]), List.drop_zero, List.take_of_length_le (by simp [frame_len]), frame_len]
  obtain ⟨s2, a2, g2, l2, n2, k2, w2⟩ := app_bytes hB1 w1 l1 hx (frameL_ne d) (by rw [frame_len]; omega)
  have hbid : ∀ i k, T.get 5 = S4 i k → i < st.next ∧ ∃ vs, st.get i = some (.row vs 5) := fun i k e => by
    rcases h.b with ⟨_, h⟩ | ⟨_, j, e', hg⟩
    · rw [h] at e; cases e
    · rw [e'] at e; cases e
      exact ⟨hw _ _ hg, _, hg⟩
  have f2 : s2.get f = some (.row ((frameL d).map u8) 5) := k2 _ _ g1 fun e => by have := (hbid _ _ e).1; omega
  have hL2 : LC s2 (T.get 7) (R.map recW) := by
    rcases h.want with h | ⟨hne, i, e, hg⟩
    · exact .inl h
    · refine .inr ⟨hne, i, e, k2 _ _ (k1 _ _ hg) fun e' => ?_⟩
      obtain ⟨_, vs, hg'⟩ := hbid _ _ e'
      rw [hg] at hg'
      simp only [Option.some.injEq, AObj.row.injEq] at hg'
      exact absurd hg'.2 (by decide)
  obtain ⟨s3, a3, g3, l3, n3, k3⟩ := app_cell hL2 w2 l2 (by simp; omega) (recW d)
  have hne3 : ∀ i vs, s2.get i = some (.row vs 5) → T.get 7 ≠ S4 i (R.map recW).length := fun i vs hg e => by
    rcases hL2 with ⟨_, h⟩ | ⟨_, j, e', hg'⟩
    · rw [h] at e; cases e
    · rw [e'] at e; simp only [S4, AV.sl.injEq] at e
      obtain ⟨rfl, _⟩ := e
      rw [hg] at hg'
      simp only [Option.some.injEq, AObj.row.injEq] at hg'
      exact absurd hg'.2 (by decide)
  refine ⟨f, _, _, s1, s2, s3, a1, by rw [frame_len] at a2; exact a2, a3, fun T' hn ec eb ef ew => ⟨hn, ec, .inr ⟨by simp [frameL_ne], s1.next, ?_, ?_⟩, .inr ⟨by simp, s2.next + 1, ?_, ?_⟩, .inr ⟨f, d, by simp, ef, k3 _ _ f2 (hne3 _ _ f2)⟩, l3, fun e he => ?_, by simp; omega⟩⟩
  · rw [eb]; simp [frame_len]
  · rw [k3 _ _ g2 (hne3 _ _ g2)]; simp
  · rw [ew]; simp
  · rw [g3]; simp
  · rcases List.mem_append.1 he with he | he
    · exact h.good e he
    · obtain rfl := List.mem_singleton.1 he; exact ⟨h1, h2⟩
/-- the list that is given -/
def GivenR (l : AV) (len : Nat) (cells : List AV) : Prop := (l = .imm 1 len false cells ∧ cells.length = len ∧ ∀ (k : Nat) (x : AV), cells[k]? = some x → x = .nils ∨ ∃ d : List Int, x = recW d) ∨ (l = .nils ∧ len = 0)
structure MainI (cut l : AV) (len : Nat) (R : List (List Int)) (i : Nat) (T : Tm) (st : St) : Prop where
  made : Made cut R T st
  l : T.get 14 = l
  n15 : T.get 15 = i64 len
  n16 : T.get 16 = i64 i
  le : i ≤ len
  le20 : i ≤ 20
  few : R.length ≤ i
theorem Made.eq {cut : AV} {R : List (List Int)} {T T' : Tm} {st : St} (h : Made cut R T st) (hn : T'.n = 86) (h1 : T'.get 1 = cut) (h5 : T'.get 5 = T.get 5) (h6 : T'.get 6 = T.get 6) (h7 : T'.get 7 = T.get 7) : Made cut R T' st :=
  ⟨hn, h1, by rw [h5]; exact h.b, by rw [h7]; exact h.want, by rw [h6]; exact h.tail, h.lock, h.good, h.len⟩
theorem part_iptr {cells : List AV} {i : Nat} {x : AV} (h : cells[i]? = some x) : partA E0 24 (cells.drop ((i : Int).toNat * 1)) 0 = some x := by
  refine part24 ?_
  rw [List.getElem?_drop]
  simpa using h
theorem main_turn {cut l : AV} {len : Nat} {cells : List AV} (hl : GivenR l len cells) {R : List (List Int)} {i : Nat} {T : Tm} {st : St} (hI : MainI cut l len R i T st) :
    AW Tryd.prog (wsC 4) (fun e T' st' => (e = .exit 0 ∧ ∃ R', Made cut R' T' st') ∨ (e = .normal ∧ ∃ R', MainI cut l len R' (i + 1) T' st' ∧ i + 1 ≤ 20)) T st := by
  refine AW.wf fun hw => ?_
  have hT : ∀ p ∈ T0m cut (T.get 5) (T.get 6) (T.get 7) l len i, T.get p.1 = p.2 := fun p hp => by
    simp only [T0m, List.mem_cons, List.not_mem_nil, or_false] at hp
    rcases hp with rfl | rfl | rfl | rfl | rfl | rfl | rfl
    · exact hI.made.cut
    · rfl
    · rfl
    · rfl
    · exact hI.l
    · exact hI.n15
    · exact hI.n16
  have hle := hI.le
  have hle20 := hI.le20
  have hfew := hI.few
  by_cases hil : i = len
  · refine (ws_run (wmEnd cut (T.get 5) (T.get 6) (T.get 7) l len i st) ?_ hI.made.n hT).mono fun e T' st' ⟨he, hn, hF, hs⟩ => ?_
    · simp only [Ob.ok_cons, Ob.ok_nil, and_true]
      exact lt_F (by omega)
    · simp only [F0m, List.cons.injEq] at hF
      obtain ⟨_, q1, q5, q6, q7, _⟩ := hF
      subst hs
      exact .inl ⟨he, R, hI.made.eq hn q1 q5 q6 q7⟩
  have hl' : l = .imm 1 len false cells ∧ cells.length = len ∧ ∀ (k : Nat) (x : AV), cells[k]? = some x → x = .nils ∨ ∃ d : List Int, x = recW d := by
    rcases hl with h | ⟨_, h0⟩
    · exact h
    · omega
  obtain ⟨rfl, hcl, hx⟩ := hl'
  have hi : i < cells.length := by omega
  obtain ⟨x, hxi⟩ : ∃ x, cells[i]? = some x := ⟨_, List.getElem?_eq_getElem hi⟩
  have hlt : bo (ltN i len) = TT := lt_T (by omega)
  have hrange : (0 : Int) ≤ (i : Int) ∧ (i : Int) < (len : Int) := by omega
  have hadd : i64 (addN i 1) = i64 ((i + 1 : Nat) : Int) := by rw [addN_eq _ _ (by omega)]; rfl
  by_cases h20 : i = 20
  · refine (ws_run (wm20 cut (T.get 5) (T.get 6) (T.get 7) x len i st len cells false) ?_ hI.made.n hT).mono fun e T' st' ⟨he, hn, hF, hs⟩ => ?_
    · simp only [Ob.ok_cons, Ob.ok_nil, and_true]
      exact ⟨hlt, hrange, by simp only [loadA]; exact part_iptr hxi, ob_T (by rw [eqN_eq, h20]; rfl)⟩
    · simp only [F0m, List.cons.injEq] at hF
      obtain ⟨_, q1, q5, q6, q7, _⟩ := hF
      subst hs
      exact .inl ⟨he, R, hI.made.eq hn q1 q5 q6 q7⟩
  have hne20 : bo (eqN i 20) = FF := ob_F (by rw [eqN_eq, beq_eq_false_iff_ne]; omega)
  rcases hx i x hxi with rfl | ⟨d, rfl⟩
  · refine (ws_run (wmNil cut (T.get 5) (T.get 6) (T.get 7) len i ((i + 1 : Nat) : Int) st len cells false) ?_ hI.made.n hT).mono fun e T' st' ⟨he, hn, hF, hs⟩ => ?_
    · simp only [Ob.ok_cons, Ob.ok_nil, and_true]
      exact ⟨hlt, hrange, part_iptr hxi, hne20, frame_bad0 st, ob_F rfl, hadd⟩
    · simp only [F0m, List.cons.injEq, and_true] at hF
      obtain ⟨_, q1, q5, q6, q7, _, q14, q15, q16⟩ := hF
      subst hs
      exact .inr ⟨he, R, ⟨hI.made.eq hn q1 q5 q6 q7, q14, q15, q16, by omega, by omega, by omega⟩, by omega⟩
  by_cases h0 : d.length = 0
  · refine (ws_run (wm0 cut (T.get 5) (T.get 6) (T.get 7) len i ((i + 1 : Nat) : Int) st len d.length cells (d.map u8) false) ?_ hI.made.n hT).mono fun e T' st' ⟨he, hn, hF, hs⟩ => ?_
    · simp only [Ob.ok_cons, Ob.ok_nil, and_true]
      exact ⟨hlt, hrange, part_iptr hxi, hne20, frame_bad1 st h0, ob_F (by rw [geN_eq]; simp; omega), hadd⟩
    · simp only [F0m, List.cons.injEq, and_true] at hF
      obtain ⟨_, q1, q5, q6, q7, _, q14, q15, q16⟩ := hF
      subst hs
      exact .inr ⟨he, R, ⟨hI.made.eq hn q1 q5 q6 q7, q14, q15, q16, by omega, by omega, by omega⟩, by omega⟩
  have hge : bo (geN d.length 1) = TT := ob_T (by rw [geN_eq]; simp; omega)
  by_cases h4 : 4096 < d.length
  · refine (ws_run (wm3 cut (T.get 5) (T.get 6) (T.get 7) len i ((i + 1 : Nat) : Int) st len d.length cells (d.map u8) false) ?_ hI.made.n hT).mono fun e T' st' ⟨he, hn, hF, hs⟩ => ?_
    · simp only [Ob.ok_cons, Ob.ok_nil, and_true]
      exact ⟨hlt, hrange, part_iptr hxi, hne20, frame_bad2 st h4, hge, ob_F (by rw [leN_eq]; simp; omega), hadd⟩
    · simp only [F0m, List.cons.injEq, and_true] at hF
      obtain ⟨_, q1, q5, q6, q7, _, q14, q15, q16⟩ := hF
      subst hs
      exact .inr ⟨he, R, ⟨hI.made.eq hn q1 q5 q6 q7, q14, q15, q16, by omega, by omega, by omega⟩, by omega⟩
  obtain ⟨f, b', w', s1, s2, s3, a1, a2, a3, hm⟩ := made_more hI.made hw (d := d) (by omega) (by omega) (by omega)
  refine (ws_run (wmOk cut (T.get 5) (T.get 6) (T.get 7) b' w' len i ((i + 1 : Nat) : Int) st (fun _ => s1) (fun _ => s2) (fun _ => s3) len d.length cells (d.map u8) false f (8 + d.length)) ?_ hI.made.n hT).mono fun e T' st' ⟨he, hn, hF, hs⟩ => ?_
  · simp only [Ob.ok_cons, Ob.ok_nil, and_true]
    exact ⟨hlt, hrange, part_iptr hxi, hne20, a1, hge, ob_T (by rw [leN_eq]; simp; omega), a2, a3, hadd⟩
  · simp only [F0m, List.cons.injEq, and_true] at hF
    obtain ⟨_, q1, q5, q6, q7, _, q14, q15, q16⟩ := hF
    subst hs
    exact .inr ⟨he, R ++ [d], ⟨hm T' hn q1 q5 q6 q7, q14, q15, q16, by omega, by omega, by simp; omega⟩, by omega⟩
theorem main_loop {cut l : AV} {len : Nat} {cells : List AV} (hl : GivenR l len cells) {T : Tm} {st : St} {R : List (List Int)} {i : Nat} (h : MainI cut l len R i T st) :
    AW Tryd.prog (.loop (wsC 4)) (fun e T' st' => e = .exit 0 ∧ ∃ R', Made cut R' T' st') T st := by
  refine .loop (fun n T st => ∃ R i, n = 20 - i ∧ MainI cut l len R i T st) (20 - i) ⟨R, i, rfl, h⟩ fun n T st hI => ?_
  obtain ⟨R, i, rfl, hI⟩ := hI
  refine (main_turn hl hI).mono fun e T' st' hp => ?_
  rcases hp with ⟨rfl, hd⟩ | ⟨rfl, R', hI', hlt⟩
  · exact ⟨rfl, hd⟩
  · exact ⟨20 - (i + 1), by omega, R', i + 1, rfl, hI'⟩
end Go.Proofs.YtemakfepcogeiaaDoor.E
