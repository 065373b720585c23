/- Part 2 of the proof, over the abstract machine: contracts of the functions that the statement reaches, joined out of several texts. Condition: none beyond those that the lemmas name. -/
import Derived.Test.YtnknfheabnogaaaDoorP1
namespace Go.Proofs.YtnknfheabnogaaaDoor.E
open Go Go.Proofs
section
set_option maxRecDepth 100000
noncomputable def f6P (i : Nat) : Code := match Tryd.f6.body with
  | some (.seq x0 (.seq x1 (.seq x2 (.seq x3 (.seq (.block 0 (.loop x4)) x5))))) => [x0, x1, x2, x3, x4, x5].getD i .skip
  | _ => .skip
theorem f6body : Tryd.f6.body = some (.seq (f6P 0) (.seq (f6P 1) (.seq (f6P 2) (.seq (f6P 3) (.seq (.block 0 (.loop (f6P 4))) (f6P 5)))))) := by kernel_rfl
def f6L0 (T : Tm) (a0 : AV) : Prop := T.n = 113 ∧ T.get 0 = a0
theorem f6_0_e (s : ByteArray) (st : St) : ((evS Tryd.prog E0 noOv noS 100000 [] (f6P 0) ⟨113, [(0, (str s))], []⟩ st []).map fun q => (q.1, q.2.1.n, ([q.2.1.get 0] : List AV), q.2.2.1, q.2.2.2.2)) = some (.normal, 113, [(str s)], st, []) := by kernel_rfl
theorem f6_0 {s : ByteArray} {st : St}  {T : Tm} (hT : f6L0 T (str s)) : AW Tryd.prog (f6P 0) (fun ex T' st' => ex = .normal ∧ f6L0 T' (str s) ∧ st' = st) T st := by
  obtain ⟨hn, g0⟩ := hT
  exact (gen_run (G := fun T => ([T.get 0] : List AV)) hE (f6_0_e s st) Ob.ok_nil hn (one g0)).mono fun ex T' st' ⟨q1, q2, q3, q4⟩ => by simp only [List.cons.injEq, and_true] at q3; exact ⟨q1, ⟨q2, q3⟩, q4⟩
def f6L1 (T : Tm) (a2 a3 a4 : AV) : Prop := T.n = 113 ∧ T.get 2 = a2 ∧ T.get 3 = a3 ∧ T.get 4 = a4
theorem f6_1_T_e (s : ByteArray) (st : St) (n8 : Int) : ((evS Tryd.prog E0 noOv noS 100000 [7008, 7009, 7012, 7013] (f6P 1) ⟨113, [(0, (str s))], []⟩ st [.av (i64 n8), .av TT]).map fun q => (q.1, q.2.1.n, ([q.2.1.get 2, q.2.1.get 3, q.2.1.get 4] : List AV), q.2.2.1, q.2.2.2.2)) = some (.ret, 113, [.nils, (str ⟨#[]⟩), FF], st, [lenA E0 9 (str s) = some (i64 n8), binA E0 .eql 3 (i64 n8) (i64 0) = some TT]) := by kernel_rfl
theorem f6_1_T {s : ByteArray} {st : St} {n8 : Int} (h1 : lenA E0 9 (str s) = some (i64 n8)) (h2 : binA E0 .eql 3 (i64 n8) (i64 0) = some TT) {T : Tm} (hT : f6L0 T (str s)) : AW Tryd.prog (f6P 1) (fun ex T' st' => ex = .ret ∧ f6L1 T' .nils (str ⟨#[]⟩) FF ∧ st' = st) T st := by
  obtain ⟨hn, g0⟩ := hT
  exact (gen_run (G := fun T => ([T.get 2, T.get 3, T.get 4] : List AV)) hE (f6_1_T_e s st n8) (Ob.ok_cons.2 ⟨h1, (Ob.ok_cons.2 ⟨h2, Ob.ok_nil⟩)⟩) hn (one g0)).mono fun ex T' st' ⟨q1, q2, q3, q4⟩ => by simp only [List.cons.injEq, and_true] at q3; exact ⟨q1, ⟨q2, q3⟩, q4⟩
theorem f6_1_FT_e (s : ByteArray) (st : St) (n8 n12 : Int) : ((evS Tryd.prog E0 noOv noS 100000 [7008, 7009, 7012, 7013] (f6P 1) ⟨113, [(0, (str s))], []⟩ st [.av (i64 n8), .av FF, .av (u8 n12), .av TT]).map fun q => (q.1, q.2.1.n, ([q.2.1.get 2, q.2.1.get 3, q.2.1.get 4] : List AV), q.2.2.1, q.2.2.2.2)) = some (.ret, 113, [.nils, (str ⟨#[]⟩), FF], st, [lenA E0 9 (str s) = some (i64 n8), binA E0 .eql 3 (i64 n8) (i64 0) = some FF, indexA E0 9 (str s) (i64 0) = some (u8 n12), binA E0 .neq 5 (u8 n12) (u8 34) = some TT]) := by kernel_rfl
theorem f6_1_FT {s : ByteArray} {st : St} {n8 n12 : Int} (h1 : lenA E0 9 (str s) = some (i64 n8)) (h2 : binA E0 .eql 3 (i64 n8) (i64 0) = some FF) (h3 : indexA E0 9 (str s) (i64 0) = some (u8 n12)) (h4 : binA E0 .neq 5 (u8 n12) (u8 34) = some TT) {T : Tm} (hT : f6L0 T (str s)) : AW Tryd.prog (f6P 1) (fun ex T' st' => ex = .ret ∧ f6L1 T' .nils (str ⟨#[]⟩) FF ∧ st' = st) T st := by
  obtain ⟨hn, g0⟩ := hT
  exact (gen_run (G := fun T => ([T.get 2, T.get 3, T.get 4] : List AV)) hE (f6_1_FT_e s st n8 n12) (Ob.ok_cons.2 ⟨h1, (Ob.ok_cons.2 ⟨h2, (Ob.ok_cons.2 ⟨h3, (Ob.ok_cons.2 ⟨h4, Ob.ok_nil⟩)⟩)⟩)⟩) hn (one g0)).mono fun ex T' st' ⟨q1, q2, q3, q4⟩ => by simp only [List.cons.injEq, and_true] at q3; exact ⟨q1, ⟨q2, q3⟩, q4⟩
theorem f6_1_FF_e (s : ByteArray) (st : St) (n8 n12 : Int) : ((evS Tryd.prog E0 noOv noS 100000 [7008, 7009, 7012, 7013] (f6P 1) ⟨113, [(0, (str s))], []⟩ st [.av (i64 n8), .av FF, .av (u8 n12), .av FF]).map fun q => (q.1, q.2.1.n, ([q.2.1.get 0] : List AV), q.2.2.1, q.2.2.2.2)) = some (.normal, 113, [(str s)], st, [lenA E0 9 (str s) = some (i64 n8), binA E0 .eql 3 (i64 n8) (i64 0) = some FF, indexA E0 9 (str s) (i64 0) = some (u8 n12), binA E0 .neq 5 (u8 n12) (u8 34) = some FF]) := by kernel_rfl
theorem f6_1_FF {s : ByteArray} {st : St} {n8 n12 : Int} (h1 : lenA E0 9 (str s) = some (i64 n8)) (h2 : binA E0 .eql 3 (i64 n8) (i64 0) = some FF) (h3 : indexA E0 9 (str s) (i64 0) = some (u8 n12)) (h4 : binA E0 .neq 5 (u8 n12) (u8 34) = some FF) {T : Tm} (hT : f6L0 T (str s)) : AW Tryd.prog (f6P 1) (fun ex T' st' => ex = .normal ∧ f6L0 T' (str s) ∧ st' = st) T st := by
  obtain ⟨hn, g0⟩ := hT
  exact (gen_run (G := fun T => ([T.get 0] : List AV)) hE (f6_1_FF_e s st n8 n12) (Ob.ok_cons.2 ⟨h1, (Ob.ok_cons.2 ⟨h2, (Ob.ok_cons.2 ⟨h3, (Ob.ok_cons.2 ⟨h4, Ob.ok_nil⟩)⟩)⟩)⟩) hn (one g0)).mono fun ex T' st' ⟨q1, q2, q3, q4⟩ => by simp only [List.cons.injEq, and_true] at q3; exact ⟨q1, ⟨q2, q3⟩, q4⟩
def f6L2 (T : Tm) (a0 a5 : AV) : Prop := T.n = 113 ∧ T.get 0 = a0 ∧ T.get 5 = a5
theorem f6_2_e (s : ByteArray) (st : St) : ((evS Tryd.prog E0 noOv noS 100000 [] (f6P 2) ⟨113, [(0, (str s))], []⟩ st []).map fun q => (q.1, q.2.1.n, ([q.2.1.get 0, q.2.1.get 5] : List AV), q.2.2.1, q.2.2.2.2)) = some (.normal, 113, [(str s), .nils], st, []) := by kernel_rfl
theorem f6_2 {s : ByteArray} {st : St}  {T : Tm} (hT : f6L0 T (str s)) : AW Tryd.prog (f6P 2) (fun ex T' st' => ex = .normal ∧ f6L2 T' (str s) .nils ∧ st' = st) T st := by
  obtain ⟨hn, g0⟩ := hT
  exact (gen_run (G := fun T => ([T.get 0, T.get 5] : List AV)) hE (f6_2_e s st) Ob.ok_nil hn (one g0)).mono fun ex T' st' ⟨q1, q2, q3, q4⟩ => by simp only [List.cons.injEq, and_true] at q3; exact ⟨q1, ⟨q2, q3⟩, q4⟩
def f6L3 (T : Tm) (a0 a5 a6 : AV) : Prop := T.n = 113 ∧ T.get 0 = a0 ∧ T.get 5 = a5 ∧ T.get 6 = a6
theorem f6_3_e (s : ByteArray) (b : AV) (st : St) : ((evS Tryd.prog E0 noOv noS 100000 [] (f6P 3) ⟨113, [(0, (str s)), (5, b)], []⟩ st []).map fun q => (q.1, q.2.1.n, ([q.2.1.get 0, q.2.1.get 5, q.2.1.get 6] : List AV), q.2.2.1, q.2.2.2.2)) = some (.normal, 113, [(str s), b, (i64 1)], st, []) := by kernel_rfl
theorem f6_3 {s : ByteArray} {b : AV} {st : St}  {T : Tm} (hT : f6L2 T (str s) b) : AW Tryd.prog (f6P 3) (fun ex T' st' => ex = .normal ∧ f6L3 T' (str s) b (i64 1) ∧ st' = st) T st := by
  obtain ⟨hn, g0, g5⟩ := hT
  exact (gen_run (G := fun T => ([T.get 0, T.get 5, T.get 6] : List AV)) hE (f6_3_e s b st) Ob.ok_nil hn (conz g0 (one g5))).mono fun ex T' st' ⟨q1, q2, q3, q4⟩ => by simp only [List.cons.injEq, and_true] at q3; exact ⟨q1, ⟨q2, q3⟩, q4⟩
theorem f6_4_TTT_e (s : ByteArray) (b v33 v34 : AV) (n6 n17 n22 n27 n32 n36 : Int) (st s1 s2 : St) : ((evS Tryd.prog E0 noOv noS 100000 [2033, 2034, 2052, 2053, 2091, 2092, 6012, 7017, 7018, 7022, 7023, 7027, 7028, 7032, 7036, 7038, 7040, 7041, 7044, 7045, 7046, 7050, 7051, 7055, 7057, 7059, 7060, 7064, 7065, 7067, 7072, 7073, 7075, 7080, 7081, 7083, 7086, 7087, 7089, 7094, 8000] (f6P 4) ⟨113, [(0, (str s)), (5, b), (6, (i64 n6))], []⟩ st [.av (i64 n17), .av TT, .av (u8 n22), .av TT, .av (u8 n27), .av TT, .av (u8 n32), .eff v33 (fun _ => s1), .eff v34 (fun _ => s2), .av (i64 n36)]).map fun q => (q.1, q.2.1.n, ([q.2.1.get 0, q.2.1.get 5, q.2.1.get 6] : List AV), q.2.2.1, q.2.2.2.2)) = some (.normal, 113, [(str s), v34, (i64 n36)], s2, [lenA E0 9 (str s) = some (i64 n17), binA E0 .lss 3 (i64 n6) (i64 n17) = some TT, indexA E0 9 (str s) (i64 n6) = some (u8 n22), binA E0 .neq 5 (u8 n22) (u8 34) = some TT, indexA E0 9 (str s) (i64 n6) = some (u8 n27), binA E0 .neq 5 (u8 n27) (u8 92) = some TT, indexA E0 9 (str s) (i64 n6) = some (u8 n32), buildSliceA E0 st 22 1 [(0, (u8 n32))] = some (v33, s1), appendA E0 s1 22 22 b v33 = some (v34, s2), binA E0 .add 3 (i64 n6) (i64 1) = some (i64 n36)]) := by kernel_rfl
theorem f6_4_TTT {s : ByteArray} {b v33 v34 : AV} {n6 n17 n22 n27 n32 n36 : Int} {st s1 s2 : St} (h1 : lenA E0 9 (str s) = some (i64 n17)) (h2 : binA E0 .lss 3 (i64 n6) (i64 n17) = some TT) (h3 : indexA E0 9 (str s) (i64 n6) = some (u8 n22)) (h4 : binA E0 .neq 5 (u8 n22) (u8 34) = some TT) (h5 : indexA E0 9 (str s) (i64 n6) = some (u8 n27)) (h6 : binA E0 .neq 5 (u8 n27) (u8 92) = some TT) (h7 : indexA E0 9 (str s) (i64 n6) = some (u8 n32)) (h8 : buildSliceA E0 st 22 1 [(0, (u8 n32))] = some (v33, s1)) (h9 : appendA E0 s1 22 22 b v33 = some (v34, s2)) (h10 : binA E0 .add 3 (i64 n6) (i64 1) = some (i64 n36)) {T : Tm} (hT : f6L3 T (str s) b (i64 n6)) : AW Tryd.prog (f6P 4) (fun ex T' st' => ex = .normal ∧ f6L3 T' (str s) v34 (i64 n36) ∧ st' = s2) T st := by
  obtain ⟨hn, g0, g5, g6⟩ := hT
  exact (gen_run (G := fun T => ([T.get 0, T.get 5, T.get 6] : List AV)) hE (f6_4_TTT_e s b v33 v34 n6 n17 n22 n27 n32 n36 st s1 s2) (Ob.ok_cons.2 ⟨h1, (Ob.ok_cons.2 ⟨h2, (Ob.ok_cons.2 ⟨h3, (Ob.ok_cons.2 ⟨h4, (Ob.ok_cons.2 ⟨h5, (Ob.ok_cons.2 ⟨h6, (Ob.ok_cons.2 ⟨h7, (Ob.ok_cons.2 ⟨h8, (Ob.ok_cons.2 ⟨h9, (Ob.ok_cons.2 ⟨h10, Ob.ok_nil⟩)⟩)⟩)⟩)⟩)⟩)⟩)⟩)⟩)⟩) hn (conz g0 (conz g5 (one g6)))).mono fun ex T' st' ⟨q1, q2, q3, q4⟩ => by simp only [List.cons.injEq, and_true] at q3; exact ⟨q1, ⟨q2, q3⟩, q4⟩
theorem f6_4_TTFT_e (s : ByteArray) (b : AV) (n6 n17 n22 n27 n38 n40 : Int) (st : St) : ((evS Tryd.prog E0 noOv noS 100000 [2033, 2034, 2052, 2053, 2091, 2092, 6012, 7017, 7018, 7022, 7023, 7027, 7028, 7032, 7036, 7038, 7040, 7041, 7044, 7045, 7046, 7050, 7051, 7055, 7057, 7059, 7060, 7064, 7065, 7067, 7072, 7073, 7075, 7080, 7081, 7083, 7086, 7087, 7089, 7094, 8000] (f6P 4) ⟨113, [(0, (str s)), (5, b), (6, (i64 n6))], []⟩ st [.av (i64 n17), .av TT, .av (u8 n22), .av TT, .av (u8 n27), .av FF, .av (i64 n38), .av (i64 n40), .av TT]).map fun q => (q.1, q.2.1.n, ([q.2.1.get 2, q.2.1.get 3, q.2.1.get 4] : List AV), q.2.2.1, q.2.2.2.2)) = some (.ret, 113, [.nils, (str ⟨#[]⟩), FF], st, [lenA E0 9 (str s) = some (i64 n17), binA E0 .lss 3 (i64 n6) (i64 n17) = some TT, indexA E0 9 (str s) (i64 n6) = some (u8 n22), binA E0 .neq 5 (u8 n22) (u8 34) = some TT, indexA E0 9 (str s) (i64 n6) = some (u8 n27), binA E0 .neq 5 (u8 n27) (u8 92) = some FF, binA E0 .add 3 (i64 n6) (i64 1) = some (i64 n38), lenA E0 9 (str s) = some (i64 n40), binA E0 .geq 3 (i64 n38) (i64 n40) = some TT]) := by kernel_rfl
theorem f6_4_TTFT {s : ByteArray} {b : AV} {n6 n17 n22 n27 n38 n40 : Int} {st : St} (h1 : lenA E0 9 (str s) = some (i64 n17)) (h2 : binA E0 .lss 3 (i64 n6) (i64 n17) = some TT) (h3 : indexA E0 9 (str s) (i64 n6) = some (u8 n22)) (h4 : binA E0 .neq 5 (u8 n22) (u8 34) = some TT) (h5 : indexA E0 9 (str s) (i64 n6) = some (u8 n27)) (h6 : binA E0 .neq 5 (u8 n27) (u8 92) = some FF) (h7 : binA E0 .add 3 (i64 n6) (i64 1) = some (i64 n38)) (h8 : lenA E0 9 (str s) = some (i64 n40)) (h9 : binA E0 .geq 3 (i64 n38) (i64 n40) = some TT) {T : Tm} (hT : f6L3 T (str s) b (i64 n6)) : AW Tryd.prog (f6P 4) (fun ex T' st' => ex = .ret ∧ f6L1 T' .nils (str ⟨#[]⟩) FF ∧ st' = st) T st := by
  obtain ⟨hn, g0, g5, g6⟩ := hT
  exact (gen_run (G := fun T => ([T.get 2, T.get 3, T.get 4] : List AV)) hE (f6_4_TTFT_e s b n6 n17 n22 n27 n38 n40 st) (Ob.ok_cons.2 ⟨h1, (Ob.ok_cons.2 ⟨h2, (Ob.ok_cons.2 ⟨h3, (Ob.ok_cons.2 ⟨h4, (Ob.ok_cons.2 ⟨h5, (Ob.ok_cons.2 ⟨h6, (Ob.ok_cons.2 ⟨h7, (Ob.ok_cons.2 ⟨h8, (Ob.ok_cons.2 ⟨h9, Ob.ok_nil⟩)⟩)⟩)⟩)⟩)⟩)⟩)⟩)⟩) hn (conz g0 (conz g5 (one g6)))).mono fun ex T' st' ⟨q1, q2, q3, q4⟩ => by simp only [List.cons.injEq, and_true] at q3; exact ⟨q1, ⟨q2, q3⟩, q4⟩
theorem f6_4_TTFFT_e (s : ByteArray) (b v52 v53 : AV) (n6 n17 n22 n27 n38 n40 n44 n45 n50 n51 n55 : Int) (st s1 s2 : St) : ((evS Tryd.prog E0 noOv noS 100000 [2033, 2034, 2052, 2053, 2091, 2092, 6012, 7017, 7018, 7022, 7023, 7027, 7028, 7032, 7036, 7038, 7040, 7041, 7044, 7045, 7046, 7050, 7051, 7055, 7057, 7059, 7060, 7064, 7065, 7067, 7072, 7073, 7075, 7080, 7081, 7083, 7086, 7087, 7089, 7094, 8000] (f6P 4) ⟨113, [(0, (str s)), (5, b), (6, (i64 n6))], []⟩ st [.av (i64 n17), .av TT, .av (u8 n22), .av TT, .av (u8 n27), .av FF, .av (i64 n38), .av (i64 n40), .av FF, .av (i64 n44), .av (u8 n45), .av TT, .av (i64 n50), .av (u8 n51), .eff v52 (fun _ => s1), .eff v53 (fun _ => s2), .av (i64 n55)]).map fun q => (q.1, q.2.1.n, ([q.2.1.get 0, q.2.1.get 5, q.2.1.get 6] : List AV), q.2.2.1, q.2.2.2.2)) = some (.normal, 113, [(str s), v53, (i64 n55)], s2, [lenA E0 9 (str s) = some (i64 n17), binA E0 .lss 3 (i64 n6) (i64 n17) = some TT, indexA E0 9 (str s) (i64 n6) = some (u8 n22), binA E0 .neq 5 (u8 n22) (u8 34) = some TT, indexA E0 9 (str s) (i64 n6) = some (u8 n27), binA E0 .neq 5 (u8 n27) (u8 92) = some FF, binA E0 .add 3 (i64 n6) (i64 1) = some (i64 n38), lenA E0 9 (str s) = some (i64 n40), binA E0 .geq 3 (i64 n38) (i64 n40) = some FF, binA E0 .add 3 (i64 n6) (i64 1) = some (i64 n44), indexA E0 9 (str s) (i64 n44) = some (u8 n45), binA E0 .neq 5 (u8 n45) (u8 120) = some TT, binA E0 .add 3 (i64 n6) (i64 1) = some (i64 n50), indexA E0 9 (str s) (i64 n50) = some (u8 n51), buildSliceA E0 st 22 1 [(0, (u8 n51))] = some (v52, s1), appendA E0 s1 22 22 b v52 = some (v53, s2), binA E0 .add 3 (i64 n6) (i64 2) = some (i64 n55)]) := by kernel_rfl
theorem f6_4_TTFFT {s : ByteArray} {b v52 v53 : AV} {n6 n17 n22 n27 n38 n40 n44 n45 n50 n51 n55 : Int} {st s1 s2 : St} (h1 : lenA E0 9 (str s) = some (i64 n17)) (h2 : binA E0 .lss 3 (i64 n6) (i64 n17) = some TT) (h3 : indexA E0 9 (str s) (i64 n6) = some (u8 n22)) (h4 : binA E0 .neq 5 (u8 n22) (u8 34) = some TT) (h5 : indexA E0 9 (str s) (i64 n6) = some (u8 n27)) (h6 : binA E0 .neq 5 (u8 n27) (u8 92) = some FF) (h7 : binA E0 .add 3 (i64 n6) (i64 1) = some (i64 n38)) (h8 : lenA E0 9 (str s) = some (i64 n40)) (h9 : binA E0 .geq 3 (i64 n38) (i64 n40) = some FF) (h10 : binA E0 .add 3 (i64 n6) (i64 1) = some (i64 n44)) (h11 : indexA E0 9 (str s) (i64 n44) = some (u8 n45)) (h12 : binA E0 .neq 5 (u8 n45) (u8 120) = some TT) (h13 : binA E0 .add 3 (i64 n6) (i64 1) = some (i64 n50)) (h14 : indexA E0 9 (str s) (i64 n50) = some (u8 n51)) (h15 : buildSliceA E0 st 22 1 [(0, (u8 n51))] = some (v52, s1)) (h16 : appendA E0 s1 22 22 b v52 = some (v53, s2)) (h17 : binA E0 .add 3 (i64 n6) (i64 2) = some (i64 n55)) {T : Tm} (hT : f6L3 T (str s) b (i64 n6)) : AW Tryd.prog (f6P 4) (fun ex T' st' => ex = .normal ∧ f6L3 T' (str s) v53 (i64 n55) ∧ st' = s2) T st := by
  obtain ⟨hn, g0, g5, g6⟩ := hT
  exact (gen_run (G := fun T => ([T.get 0, T.get 5, T.get 6] : List AV)) hE (f6_4_TTFFT_e s b v52 v53 n6 n17 n22 n27 n38 n40 n44 n45 n50 n51 n55 st s1 s2) (Ob.ok_cons.2 ⟨h1, (Ob.ok_cons.2 ⟨h2, (Ob.ok_cons.2 ⟨h3, (Ob.ok_cons.2 ⟨h4, (Ob.ok_cons.2 ⟨h5, (Ob.ok_cons.2 ⟨h6, (Ob.ok_cons.2 ⟨h7, (Ob.ok_cons.2 ⟨h8, (Ob.ok_cons.2 ⟨h9, (Ob.ok_cons.2 ⟨h10, (Ob.ok_cons.2 ⟨h11, (Ob.ok_cons.2 ⟨h12, (Ob.ok_cons.2 ⟨h13, (Ob.ok_cons.2 ⟨h14, (Ob.ok_cons.2 ⟨h15, (Ob.ok_cons.2 ⟨h16, (Ob.ok_cons.2 ⟨h17, Ob.ok_nil⟩)⟩)⟩)⟩)⟩)⟩)⟩)⟩)⟩)⟩)⟩)⟩)⟩)⟩)⟩)⟩)⟩) hn (conz g0 (conz g5 (one g6)))).mono fun ex T' st' ⟨q1, q2, q3, q4⟩ => by simp only [List.cons.injEq, and_true] at q3; exact ⟨q1, ⟨q2, q3⟩, q4⟩
theorem f6_4_TTFFFT_e (s : ByteArray) (b : AV) (n6 n17 n22 n27 n38 n40 n44 n45 n57 n59 : Int) (st : St) : ((evS Tryd.prog E0 noOv noS 100000 [2033, 2034, 2052, 2053, 2091, 2092, 6012, 7017, 7018, 7022, 7023, 7027, 7028, 7032, 7036, 7038, 7040, 7041, 7044, 7045, 7046, 7050, 7051, 7055, 7057, 7059, 7060, 7064, 7065, 7067, 7072, 7073, 7075, 7080, 7081, 7083, 7086, 7087, 7089, 7094, 8000] (f6P 4) ⟨113, [(0, (str s)), (5, b), (6, (i64 n6))], []⟩ st [.av (i64 n17), .av TT, .av (u8 n22), .av TT, .av (u8 n27), .av FF, .av (i64 n38), .av (i64 n40), .av FF, .av (i64 n44), .av (u8 n45), .av FF, .av (i64 n57), .av (i64 n59), .av TT]).map fun q => (q.1, q.2.1.n, ([q.2.1.get 2, q.2.1.get 3, q.2.1.get 4] : List AV), q.2.2.1, q.2.2.2.2)) = some (.ret, 113, [.nils, (str ⟨#[]⟩), FF], st, [lenA E0 9 (str s) = some (i64 n17), binA E0 .lss 3 (i64 n6) (i64 n17) = some TT, indexA E0 9 (str s) (i64 n6) = some (u8 n22), binA E0 .neq 5 (u8 n22) (u8 34) = some TT, indexA E0 9 (str s) (i64 n6) = some (u8 n27), binA E0 .neq 5 (u8 n27) (u8 92) = some FF, binA E0 .add 3 (i64 n6) (i64 1) = some (i64 n38), lenA E0 9 (str s) = some (i64 n40), binA E0 .geq 3 (i64 n38) (i64 n40) = some FF, binA E0 .add 3 (i64 n6) (i64 1) = some (i64 n44), indexA E0 9 (str s) (i64 n44) = some (u8 n45), binA E0 .neq 5 (u8 n45) (u8 120) = some FF, binA E0 .add 3 (i64 n6) (i64 3) = some (i64 n57), lenA E0 9 (str s) = some (i64 n59), binA E0 .geq 3 (i64 n57) (i64 n59) = some TT]) := by kernel_rfl
theorem f6_4_TTFFFT {s : ByteArray} {b : AV} {n6 n17 n22 n27 n38 n40 n44 n45 n57 n59 : Int} {st : St} (h1 : lenA E0 9 (str s) = some (i64 n17)) (h2 : binA E0 .lss 3 (i64 n6) (i64 n17) = some TT) (h3 : indexA E0 9 (str s) (i64 n6) = some (u8 n22)) (h4 : binA E0 .neq 5 (u8 n22) (u8 34) = some TT) (h5 : indexA E0 9 (str s) (i64 n6) = some (u8 n27)) (h6 : binA E0 .neq 5 (u8 n27) (u8 92) = some FF) (h7 : binA E0 .add 3 (i64 n6) (i64 1) = some (i64 n38)) (h8 : lenA E0 9 (str s) = some (i64 n40)) (h9 : binA E0 .geq 3 (i64 n38) (i64 n40) = some FF) (h10 : binA E0 .add 3 (i64 n6) (i64 1) = some (i64 n44)) (h11 : indexA E0 9 (str s) (i64 n44) = some (u8 n45)) (h12 : binA E0 .neq 5 (u8 n45) (u8 120) = some FF) (h13 : binA E0 .add 3 (i64 n6) (i64 3) = some (i64 n57)) (h14 : lenA E0 9 (str s) = some (i64 n59)) (h15 : binA E0 .geq 3 (i64 n57) (i64 n59) = some TT) {T : Tm} (hT : f6L3 T (str s) b (i64 n6)) : AW Tryd.prog (f6P 4) (fun ex T' st' => ex = .ret ∧ f6L1 T' .nils (str ⟨#[]⟩) FF ∧ st' = st) T st := by
  obtain ⟨hn, g0, g5, g6⟩ := hT
  exact (gen_run (G := fun T => ([T.get 2, T.get 3, T.get 4] : List AV)) hE (f6_4_TTFFFT_e s b n6 n17 n22 n27 n38 n40 n44 n45 n57 n59 st) (Ob.ok_cons.2 ⟨h1, (Ob.ok_cons.2 ⟨h2, (Ob.ok_cons.2 ⟨h3, (Ob.ok_cons.2 ⟨h4, (Ob.ok_cons.2 ⟨h5, (Ob.ok_cons.2 ⟨h6, (Ob.ok_cons.2 ⟨h7, (Ob.ok_cons.2 ⟨h8, (Ob.ok_cons.2 ⟨h9, (Ob.ok_cons.2 ⟨h10, (Ob.ok_cons.2 ⟨h11, (Ob.ok_cons.2 ⟨h12, (Ob.ok_cons.2 ⟨h13, (Ob.ok_cons.2 ⟨h14, (Ob.ok_cons.2 ⟨h15, Ob.ok_nil⟩)⟩)⟩)⟩)⟩)⟩)⟩)⟩)⟩)⟩)⟩)⟩)⟩)⟩)⟩) hn (conz g0 (conz g5 (one g6)))).mono fun ex T' st' ⟨q1, q2, q3, q4⟩ => by simp only [List.cons.injEq, and_true] at q3; exact ⟨q1, ⟨q2, q3⟩, q4⟩
theorem f6_4_TTFFFFT_e (s : ByteArray) (b : AV) (n6 n17 n22 n27 n38 n40 n44 n45 n57 n59 n64 n65 n66 : Int) (st s1 : St) : ((evS Tryd.prog E0 noOv noS 100000 [2033, 2034, 2052, 2053, 2091, 2092, 6012, 7017, 7018, 7022, 7023, 7027, 7028, 7032, 7036, 7038, 7040, 7041, 7044, 7045, 7046, 7050, 7051, 7055, 7057, 7059, 7060, 7064, 7065, 7067, 7072, 7073, 7075, 7080, 7081, 7083, 7086, 7087, 7089, 7094, 8000] (f6P 4) ⟨113, [(0, (str s)), (5, b), (6, (i64 n6))], []⟩ st [.av (i64 n17), .av TT, .av (u8 n22), .av TT, .av (u8 n27), .av FF, .av (i64 n38), .av (i64 n40), .av FF, .av (i64 n44), .av (u8 n45), .av FF, .av (i64 n57), .av (i64 n59), .av FF, .av (i64 n64), .av (u8 n65), .eff (i64 n66) (fun _ => s1), .av TT]).map fun q => (q.1, q.2.1.n, ([q.2.1.get 2, q.2.1.get 3, q.2.1.get 4] : List AV), q.2.2.1, q.2.2.2.2)) = some (.ret, 113, [.nils, (str ⟨#[]⟩), FF], s1, [lenA E0 9 (str s) = some (i64 n17), binA E0 .lss 3 (i64 n6) (i64 n17) = some TT, indexA E0 9 (str s) (i64 n6) = some (u8 n22), binA E0 .neq 5 (u8 n22) (u8 34) = some TT, indexA E0 9 (str s) (i64 n6) = some (u8 n27), binA E0 .neq 5 (u8 n27) (u8 92) = some FF, binA E0 .add 3 (i64 n6) (i64 1) = some (i64 n38), lenA E0 9 (str s) = some (i64 n40), binA E0 .geq 3 (i64 n38) (i64 n40) = some FF, binA E0 .add 3 (i64 n6) (i64 1) = some (i64 n44), indexA E0 9 (str s) (i64 n44) = some (u8 n45), binA E0 .neq 5 (u8 n45) (u8 120) = some FF, binA E0 .add 3 (i64 n6) (i64 3) = some (i64 n57), lenA E0 9 (str s) = some (i64 n59), binA E0 .geq 3 (i64 n57) (i64 n59) = some FF, binA E0 .add 3 (i64 n6) (i64 2) = some (i64 n64), indexA E0 9 (str s) (i64 n64) = some (u8 n65), obC 12 [(u8 n65)] st (i64 n66) s1, binA E0 .lss 3 (i64 n66) (i64 0) = some TT]) := by kernel_rfl
theorem f6_4_TTFFFFT {s : ByteArray} {b : AV} {n6 n17 n22 n27 n38 n40 n44 n45 n57 n59 n64 n65 n66 : Int} {st s1 : St} (h1 : lenA E0 9 (str s) = some (i64 n17)) (h2 : binA E0 .lss 3 (i64 n6) (i64 n17) = some TT) (h3 : indexA E0 9 (str s) (i64 n6) = some (u8 n22)) (h4 : binA E0 .neq 5 (u8 n22) (u8 34) = some TT) (h5 : indexA E0 9 (str s) (i64 n6) = some (u8 n27)) (h6 : binA E0 .neq 5 (u8 n27) (u8 92) = some FF) (h7 : binA E0 .add 3 (i64 n6) (i64 1) = some (i64 n38)) (h8 : lenA E0 9 (str s) = some (i64 n40)) (h9 : binA E0 .geq 3 (i64 n38) (i64 n40) = some FF) (h10 : binA E0 .add 3 (i64 n6) (i64 1) = some (i64 n44)) (h11 : indexA E0 9 (str s) (i64 n44) = some (u8 n45)) (h12 : binA E0 .neq 5 (u8 n45) (u8 120) = some FF) (h13 : binA E0 .add 3 (i64 n6) (i64 3) = some (i64 n57)) (h14 : lenA E0 9 (str s) = some (i64 n59)) (h15 : binA E0 .geq 3 (i64 n57) (i64 n59) = some FF) (h16 : binA E0 .add 3 (i64 n6) (i64 2) = some (i64 n64)) (h17 : indexA E0 9 (str s) (i64 n64) = some (u8 n65)) (h18 : obC 12 [(u8 n65)] st (i64 n66) s1) (h19 : binA E0 .lss 3 (i64 n66) (i64 0) = some TT) {T : Tm} (hT : f6L3 T (str s) b (i64 n6)) : AW Tryd.prog (f6P 4) (fun ex T' st' => ex = .ret ∧ f6L1 T' .nils (str ⟨#[]⟩) FF ∧ st' = s1) T st := by
  obtain ⟨hn, g0, g5, g6⟩ := hT
  exact (gen_run (G := fun T => ([T.get 2, T.get 3, T.get 4] : List AV)) hE (f6_4_TTFFFFT_e s b n6 n17 n22 n27 n38 n40 n44 n45 n57 n59 n64 n65 n66 st s1) (Ob.ok_cons.2 ⟨h1, (Ob.ok_cons.2 ⟨h2, (Ob.ok_cons.2 ⟨h3, (Ob.ok_cons.2 ⟨h4, (Ob.ok_cons.2 ⟨h5, (Ob.ok_cons.2 ⟨h6, (Ob.ok_cons.2 ⟨h7, (Ob.ok_cons.2 ⟨h8, (Ob.ok_cons.2 ⟨h9, (Ob.ok_cons.2 ⟨h10, (Ob.ok_cons.2 ⟨h11, (Ob.ok_cons.2 ⟨h12, (Ob.ok_cons.2 ⟨h13, (Ob.ok_cons.2 ⟨h14, (Ob.ok_cons.2 ⟨h15, (Ob.ok_cons.2 ⟨h16, (Ob.ok_cons.2 ⟨h17, (Ob.ok_cons.2 ⟨h18, (Ob.ok_cons.2 ⟨h19, Ob.ok_nil⟩)⟩)⟩)⟩)⟩)⟩)⟩)⟩)⟩)⟩)⟩)⟩)⟩)⟩)⟩)⟩)⟩)⟩)⟩) hn (conz g0 (conz g5 (one g6)))).mono fun ex T' st' ⟨q1, q2, q3, q4⟩ => by simp only [List.cons.injEq, and_true] at q3; exact ⟨q1, ⟨q2, q3⟩, q4⟩
theorem f6_4_TTFFFFFT_e (s : ByteArray) (b : AV) (n6 n17 n22 n27 n38 n40 n44 n45 n57 n59 n64 n65 n66 n72 n73 n74 : Int) (st s1 s2 : St) : ((evS Tryd.prog E0 noOv noS 100000 [2033, 2034, 2052, 2053, 2091, 2092, 6012, 7017, 7018, 7022, 7023, 7027, 7028, 7032, 7036, 7038, 7040, 7041, 7044, 7045, 7046, 7050, 7051, 7055, 7057, 7059, 7060, 7064, 7065, 7067, 7072, 7073, 7075, 7080, 7081, 7083, 7086, 7087, 7089, 7094, 8000] (f6P 4) ⟨113, [(0, (str s)), (5, b), (6, (i64 n6))], []⟩ st [.av (i64 n17), .av TT, .av (u8 n22), .av TT, .av (u8 n27), .av FF, .av (i64 n38), .av (i64 n40), .av FF, .av (i64 n44), .av (u8 n45), .av FF, .av (i64 n57), .av (i64 n59), .av FF, .av (i64 n64), .av (u8 n65), .eff (i64 n66) (fun _ => s1), .av FF, .av (i64 n72), .av (u8 n73), .eff (i64 n74) (fun _ => s2), .av TT]).map fun q => (q.1, q.2.1.n, ([q.2.1.get 2, q.2.1.get 3, q.2.1.get 4] : List AV), q.2.2.1, q.2.2.2.2)) = some (.ret, 113, [.nils, (str ⟨#[]⟩), FF], s2, [lenA E0 9 (str s) = some (i64 n17), binA E0 .lss 3 (i64 n6) (i64 n17) = some TT, indexA E0 9 (str s) (i64 n6) = some (u8 n22), binA E0 .neq 5 (u8 n22) (u8 34) = some TT, indexA E0 9 (str s) (i64 n6) = some (u8 n27), binA E0 .neq 5 (u8 n27) (u8 92) = some FF, binA E0 .add 3 (i64 n6) (i64 1) = some (i64 n38), lenA E0 9 (str s) = some (i64 n40), binA E0 .geq 3 (i64 n38) (i64 n40) = some FF, binA E0 .add 3 (i64 n6) (i64 1) = some (i64 n44), indexA E0 9 (str s) (i64 n44) = some (u8 n45), binA E0 .neq 5 (u8 n45) (u8 120) = some FF, binA E0 .add 3 (i64 n6) (i64 3) = some (i64 n57), lenA E0 9 (str s) = some (i64 n59), binA E0 .geq 3 (i64 n57) (i64 n59) = some FF, binA E0 .add 3 (i64 n6) (i64 2) = some (i64 n64), indexA E0 9 (str s) (i64 n64) = some (u8 n65), obC 12 [(u8 n65)] st (i64 n66) s1, binA E0 .lss 3 (i64 n66) (i64 0) = some FF, binA E0 .add 3 (i64 n6) (i64 3) = some (i64 n72), indexA E0 9 (str s) (i64 n72) = some (u8 n73), obC 12 [(u8 n73)] s1 (i64 n74) s2, binA E0 .lss 3 (i64 n74) (i64 0) = some TT]) := by kernel_rfl
theorem f6_4_TTFFFFFT {s : ByteArray} {b : AV} {n6 n17 n22 n27 n38 n40 n44 n45 n57 n59 n64 n65 n66 n72 n73 n74 : Int} {st s1 s2 : St} (h1 : lenA E0 9 (str s) = some (i64 n17)) (h2 : binA E0 .lss 3 (i64 n6) (i64 n17) = some TT) (h3 : indexA E0 9 (str s) (i64 n6) = some (u8 n22)) (h4 : binA E0 .neq 5 (u8 n22) (u8 34) = some TT) (h5 : indexA E0 9 (str s) (i64 n6) = some (u8 n27)) (h6 : binA E0 .neq 5 (u8 n27) (u8 92) = some FF) (h7 : binA E0 .add 3 (i64 n6) (i64 1) = some (i64 n38)) (h8 : lenA E0 9 (str s) = some (i64 n40)) (h9 : binA E0 .geq 3 (i64 n38) (i64 n40) = some FF) (h10 : binA E0 .add 3 (i64 n6) (i64 1) = some (i64 n44)) (h11 : indexA E0 9 (str s) (i64 n44) = some (u8 n45)) (h12 : binA E0 .neq 5 (u8 n45) (u8 120) = some FF) (h13 : binA E0 .add 3 (i64 n6) (i64 3) = some (i64 n57)) (h14 : lenA E0 9 (str s) = some (i64 n59)) (h15 : binA E0 .geq 3 (i64 n57) (i64 n59) = some FF) (h16 : binA E0 .add 3 (i64 n6) (i64 2) = some (i64 n64)) (h17 : indexA E0 9 (str s) (i64 n64) = some (u8 n65)) (h18 : obC 12 [(u8 n65)] st (i64 n66) s1) (h19 : binA E0 .lss 3 (i64 n66) (i64 0) = some FF) (h20 : binA E0 .add 3 (i64 n6) (i64 3) = some (i64 n72)) (h21 : indexA E0 9 (str s) (i64 n72) = some (u8 n73)) (h22 : obC 12 [(u8 n73)] s1 (i64 n74) s2) (h23 : binA E0 .lss 3 (i64 n74) (i64 0) = some TT) {T : Tm} (hT : f6L3 T (str s) b (i64 n6)) : AW Tryd.prog (f6P 4) (fun ex T' st' => ex = .ret ∧ f6L1 T' .nils (str ⟨#[]⟩) FF ∧ st' = s2) T st := by
  obtain ⟨hn, g0, g5, g6⟩ := hT
  exact (gen_run (G := fun T => ([T.get 2, T.get 3, T.get 4] : List AV)) hE (f6_4_TTFFFFFT_e s b n6 n17 n22 n27 n38 n40 n44 n45 n57 n59 n64 n65 n66 n72 n73 n74 st s1 s2) (Ob.ok_cons.2 ⟨h1, (Ob.ok_cons.2 ⟨h2, (Ob.ok_cons.2 ⟨h3, (Ob.ok_cons.2 ⟨h4, (Ob.ok_cons.2 ⟨h5, (Ob.ok_cons.2 ⟨h6, (Ob.ok_cons.2 ⟨h7, (Ob.ok_cons.2 ⟨h8, (Ob.ok_cons.2 ⟨h9, (Ob.ok_cons.2 ⟨h10, (Ob.ok_cons.2 ⟨h11, (Ob.ok_cons.2 ⟨h12, (Ob.ok_cons.2 ⟨h13, (Ob.ok_cons.2 ⟨h14, (Ob.ok_cons.2 ⟨h15, (Ob.ok_cons.2 ⟨h16, (Ob.ok_cons.2 ⟨h17, (Ob.ok_cons.2 ⟨h18, (Ob.ok_cons.2 ⟨h19, (Ob.ok_cons.2 ⟨h20, (Ob.ok_cons.2 ⟨h21, (Ob.ok_cons.2 ⟨h22, (Ob.ok_cons.2 ⟨h23, Ob.ok_nil⟩)⟩)⟩)⟩)⟩)⟩)⟩)⟩)⟩)⟩)⟩)⟩)⟩)⟩)⟩)⟩)⟩)⟩)⟩)⟩)⟩)⟩)⟩) hn (conz g0 (conz g5 (one g6)))).mono fun ex T' st' ⟨q1, q2, q3, q4⟩ => by simp only [List.cons.injEq, and_true] at q3; exact ⟨q1, ⟨q2, q3⟩, q4⟩
theorem f6_4_TTFFFFFF_e (s : ByteArray) (b v91 v92 : AV) (n6 n17 n22 n27 n38 n40 n44 n45 n57 n59 n64 n65 n66 n72 n73 n74 n80 n81 n86 n87 n82 n83 n88 n89 n94 : Int) (st s1 s2 s3 s4 s5 s6 : St) : ((evS Tryd.prog E0 noOv noS 100000 [2033, 2034, 2052, 2053, 2091, 2092, 6012, 7017, 7018, 7022, 7023, 7027, 7028, 7032, 7036, 7038, 7040, 7041, 7044, 7045, 7046, 7050, 7051, 7055, 7057, 7059, 7060, 7064, 7065, 7067, 7072, 7073, 7075, 7080, 7081, 7083, 7086, 7087, 7089, 7094, 8000] (f6P 4) ⟨113, [(0, (str s)), (5, b), (6, (i64 n6))], []⟩ st [.av (i64 n17), .av TT, .av (u8 n22), .av TT, .av (u8 n27), .av FF, .av (i64 n38), .av (i64 n40), .av FF, .av (i64 n44), .av (u8 n45), .av FF, .av (i64 n57), .av (i64 n59), .av FF, .av (i64 n64), .av (u8 n65), .eff (i64 n66) (fun _ => s1), .av FF, .av (i64 n72), .av (u8 n73), .eff (i64 n74) (fun _ => s2), .av FF, .eff (i64 n80) id, .eff (u8 n81) id, .eff (i64 n86) id, .eff (u8 n87) id, .eff (i64 n82) (fun _ => s3), .eff (i64 n83) id, .eff (i64 n88) (fun _ => s4), .eff (i64 n89) id, .eff v91 (fun _ => s5), .eff v92 (fun _ => s6), .av (i64 n94)]).map fun q => (q.1, q.2.1.n, ([q.2.1.get 0, q.2.1.get 5, q.2.1.get 6] : List AV), q.2.2.1, q.2.2.2.2)) = some (.normal, 113, [(str s), v92, (i64 n94)], s6, [lenA E0 9 (str s) = some (i64 n17), binA E0 .lss 3 (i64 n6) (i64 n17) = some TT, indexA E0 9 (str s) (i64 n6) = some (u8 n22), binA E0 .neq 5 (u8 n22) (u8 34) = some TT, indexA E0 9 (str s) (i64 n6) = some (u8 n27), binA E0 .neq 5 (u8 n27) (u8 92) = some FF, binA E0 .add 3 (i64 n6) (i64 1) = some (i64 n38), lenA E0 9 (str s) = some (i64 n40), binA E0 .geq 3 (i64 n38) (i64 n40) = some FF, binA E0 .add 3 (i64 n6) (i64 1) = some (i64 n44), indexA E0 9 (str s) (i64 n44) = some (u8 n45), binA E0 .neq 5 (u8 n45) (u8 120) = some FF, binA E0 .add 3 (i64 n6) (i64 3) = some (i64 n57), lenA E0 9 (str s) = some (i64 n59), binA E0 .geq 3 (i64 n57) (i64 n59) = some FF, binA E0 .add 3 (i64 n6) (i64 2) = some (i64 n64), indexA E0 9 (str s) (i64 n64) = some (u8 n65), obC 12 [(u8 n65)] st (i64 n66) s1, binA E0 .lss 3 (i64 n66) (i64 0) = some FF, binA E0 .add 3 (i64 n6) (i64 3) = some (i64 n72), indexA E0 9 (str s) (i64 n72) = some (u8 n73), obC 12 [(u8 n73)] s1 (i64 n74) s2, binA E0 .lss 3 (i64 n74) (i64 0) = some FF, ∀ k ∈ [], k < s2.next, binA E0 .add 3 (i64 n6) (i64 2) = some (i64 n80), indexA E0 9 (str s) (i64 n80) = some (u8 n81), binA E0 .add 3 (i64 n6) (i64 3) = some (i64 n86), indexA E0 9 (str s) (i64 n86) = some (u8 n87), (false = true → [].all (fun k => (s2.get k).isSome) = true), obC 12 [(u8 n81)] s2 (i64 n82) s3, binA E0 .mul 3 (i64 16) (i64 n82) = some (i64 n83), (false = true → [].all (fun k => (s3.get k).isSome) = true), obC 12 [(u8 n87)] s3 (i64 n88) s4, binA E0 .add 3 (i64 n83) (i64 n88) = some (i64 n89), (false = true → [].all (fun k => (s4.get k).isSome) = true), buildSliceA E0 s4 22 1 [(0, (u8 (IntKind.wrap .u8 (n89))))] = some (v91, s5), (false = true → [].all (fun k => (s5.get k).isSome) = true), appendA E0 s5 22 22 b v91 = some (v92, s6), binA E0 .add 3 (i64 n6) (i64 4) = some (i64 n94)]) := by kernel_rfl
theorem f6_4_TTFFFFFF {s : ByteArray} {b v91 v92 : AV} {n6 n17 n22 n27 n38 n40 n44 n45 n57 n59 n64 n65 n66 n72 n73 n74 n80 n81 n86 n87 n82 n83 n88 n89 n94 : Int} {st s1 s2 s3 s4 s5 s6 : St} (h1 : lenA E0 9 (str s) = some (i64 n17)) (h2 : binA E0 .lss 3 (i64 n6) (i64 n17) = some TT) (h3 : indexA E0 9 (str s) (i64 n6) = some (u8 n22)) (h4 : binA E0 .neq 5 (u8 n22) (u8 34) = some TT) (h5 : indexA E0 9 (str s) (i64 n6) = some (u8 n27)) (h6 : binA E0 .neq 5 (u8 n27) (u8 92) = some FF) (h7 : binA E0 .add 3 (i64 n6) (i64 1) = some (i64 n38)) (h8 : lenA E0 9 (str s) = some (i64 n40)) (h9 : binA E0 .geq 3 (i64 n38) (i64 n40) = some FF) (h10 : binA E0 .add 3 (i64 n6) (i64 1) = some (i64 n44)) (h11 : indexA E0 9 (str s) (i64 n44) = some (u8 n45)) (h12 : binA E0 .neq 5 (u8 n45) (u8 120) = some FF) (h13 : binA E0 .add 3 (i64 n6) (i64 3) = some (i64 n57)) (h14 : lenA E0 9 (str s) = some (i64 n59)) (h15 : binA E0 .geq 3 (i64 n57) (i64 n59) = some FF) (h16 : binA E0 .add 3 (i64 n6) (i64 2) = some (i64 n64)) (h17 : indexA E0 9 (str s) (i64 n64) = some (u8 n65)) (h18 : obC 12 [(u8 n65)] st (i64 n66) s1) (h19 : binA E0 .lss 3 (i64 n66) (i64 0) = some FF) (h20 : binA E0 .add 3 (i64 n6) (i64 3) = some (i64 n72)) (h21 : indexA E0 9 (str s) (i64 n72) = some (u8 n73)) (h22 : obC 12 [(u8 n73)] s1 (i64 n74) s2) (h23 : binA E0 .lss 3 (i64 n74) (i64 0) = some FF) (h24 : ∀ k ∈ [], k < s2.next) (h25 : binA E0 .add 3 (i64 n6) (i64 2) = some (i64 n80)) (h26 : indexA E0 9 (str s) (i64 n80) = some (u8 n81)) (h27 : binA E0 .add 3 (i64 n6) (i64 3) = some (i64 n86)) (h28 : indexA E0 9 (str s) (i64 n86) = some (u8 n87)) (h29 : obC 12 [(u8 n81)] s2 (i64 n82) s3) (h30 : binA E0 .mul 3 (i64 16) (i64 n82) = some (i64 n83)) (h31 : obC 12 [(u8 n87)] s3 (i64 n88) s4) (h32 : binA E0 .add 3 (i64 n83) (i64 n88) = some (i64 n89)) (h33 : buildSliceA E0 s4 22 1 [(0, (u8 (IntKind.wrap .u8 (n89))))] = some (v91, s5)) (h34 : appendA E0 s5 22 22 b v91 = some (v92, s6)) (h35 : binA E0 .add 3 (i64 n6) (i64 4) = some (i64 n94)) {T : Tm} (hT : f6L3 T (str s) b (i64 n6)) : AW Tryd.prog (f6P 4) (fun ex T' st' => ex = .normal ∧ f6L3 T' (str s) v92 (i64 n94) ∧ st' = s6) T st := by
  obtain ⟨hn, g0, g5, g6⟩ := hT
  exact (gen_run (G := fun T => ([T.get 0, T.get 5, T.get 6] : List AV)) hE (f6_4_TTFFFFFF_e s b v91 v92 n6 n17 n22 n27 n38 n40 n44 n45 n57 n59 n64 n65 n66 n72 n73 n74 n80 n81 n86 n87 n82 n83 n88 n89 n94 st s1 s2 s3 s4 s5 s6) (Ob.ok_cons.2 ⟨h1, (Ob.ok_cons.2 ⟨h2, (Ob.ok_cons.2 ⟨h3, (Ob.ok_cons.2 ⟨h4, (Ob.ok_cons.2 ⟨h5, (Ob.ok_cons.2 ⟨h6, (Ob.ok_cons.2 ⟨h7, (Ob.ok_cons.2 ⟨h8, (Ob.ok_cons.2 ⟨h9, (Ob.ok_cons.2 ⟨h10, (Ob.ok_cons.2 ⟨h11, (Ob.ok_cons.2 ⟨h12, (Ob.ok_cons.2 ⟨h13, (Ob.ok_cons.2 ⟨h14, (Ob.ok_cons.2 ⟨h15, (Ob.ok_cons.2 ⟨h16, (Ob.ok_cons.2 ⟨h17, (Ob.ok_cons.2 ⟨h18, (Ob.ok_cons.2 ⟨h19, (Ob.ok_cons.2 ⟨h20, (Ob.ok_cons.2 ⟨h21, (Ob.ok_cons.2 ⟨h22, (Ob.ok_cons.2 ⟨h23, (Ob.ok_cons.2 ⟨h24, (Ob.ok_cons.2 ⟨h25, (Ob.ok_cons.2 ⟨h26, (Ob.ok_cons.2 ⟨h27, (Ob.ok_cons.2 ⟨h28, (Ob.ok_cons.2 ⟨(fun h => by cases h), (Ob.ok_cons.2 ⟨h29, (Ob.ok_cons.2 ⟨h30, (Ob.ok_cons.2 ⟨(fun h => by cases h), (Ob.ok_cons.2 ⟨h31, (Ob.ok_cons.2 ⟨h32, (Ob.ok_cons.2 ⟨(fun h => by cases h), (Ob.ok_cons.2 ⟨h33, (Ob.ok_cons.2 ⟨(fun h => by cases h), (Ob.ok_cons.2 ⟨h34, (Ob.ok_cons.2 ⟨h35, Ob.ok_nil⟩)⟩)⟩)⟩)⟩)⟩)⟩)⟩)⟩)⟩)⟩)⟩)⟩)⟩)⟩)⟩)⟩)⟩)⟩)⟩)⟩)⟩)⟩)⟩)⟩)⟩)⟩)⟩)⟩)⟩)⟩)⟩)⟩)⟩)⟩)⟩)⟩)⟩)⟩) hn (conz g0 (conz g5 (one g6)))).mono fun ex T' st' ⟨q1, q2, q3, q4⟩ => by simp only [List.cons.injEq, and_true] at q3; exact ⟨q1, ⟨q2, q3⟩, q4⟩
theorem f6_4_TF_e (s : ByteArray) (b : AV) (n6 n17 n22 : Int) (st : St) : ((evS Tryd.prog E0 noOv noS 100000 [2033, 2034, 2052, 2053, 2091, 2092, 6012, 7017, 7018, 7022, 7023, 7027, 7028, 7032, 7036, 7038, 7040, 7041, 7044, 7045, 7046, 7050, 7051, 7055, 7057, 7059, 7060, 7064, 7065, 7067, 7072, 7073, 7075, 7080, 7081, 7083, 7086, 7087, 7089, 7094, 8000] (f6P 4) ⟨113, [(0, (str s)), (5, b), (6, (i64 n6))], []⟩ st [.av (i64 n17), .av TT, .av (u8 n22), .av FF]).map fun q => (q.1, q.2.1.n, ([q.2.1.get 0, q.2.1.get 5, q.2.1.get 6] : List AV), q.2.2.1, q.2.2.2.2)) = some ((.exit 0), 113, [(str s), b, (i64 n6)], st, [lenA E0 9 (str s) = some (i64 n17), binA E0 .lss 3 (i64 n6) (i64 n17) = some TT, indexA E0 9 (str s) (i64 n6) = some (u8 n22), binA E0 .neq 5 (u8 n22) (u8 34) = some FF]) := by kernel_rfl
theorem f6_4_TF {s : ByteArray} {b : AV} {n6 n17 n22 : Int} {st : St} (h1 : lenA E0 9 (str s) = some (i64 n17)) (h2 : binA E0 .lss 3 (i64 n6) (i64 n17) = some TT) (h3 : indexA E0 9 (str s) (i64 n6) = some (u8 n22)) (h4 : binA E0 .neq 5 (u8 n22) (u8 34) = some FF) {T : Tm} (hT : f6L3 T (str s) b (i64 n6)) : AW Tryd.prog (f6P 4) (fun ex T' st' => ex = (.exit 0) ∧ f6L3 T' (str s) b (i64 n6) ∧ st' = st) T st := by
  obtain ⟨hn, g0, g5, g6⟩ := hT
  exact (gen_run (G := fun T => ([T.get 0, T.get 5, T.get 6] : List AV)) hE (f6_4_TF_e s b n6 n17 n22 st) (Ob.ok_cons.2 ⟨h1, (Ob.ok_cons.2 ⟨h2, (Ob.ok_cons.2 ⟨h3, (Ob.ok_cons.2 ⟨h4, Ob.ok_nil⟩)⟩)⟩)⟩) hn (conz g0 (conz g5 (one g6)))).mono fun ex T' st' ⟨q1, q2, q3, q4⟩ => by simp only [List.cons.injEq, and_true] at q3; exact ⟨q1, ⟨q2, q3⟩, q4⟩
theorem f6_4_F_e (s : ByteArray) (b : AV) (n6 n17 : Int) (st : St) : ((evS Tryd.prog E0 noOv noS 100000 [2033, 2034, 2052, 2053, 2091, 2092, 6012, 7017, 7018, 7022, 7023, 7027, 7028, 7032, 7036, 7038, 7040, 7041, 7044, 7045, 7046, 7050, 7051, 7055, 7057, 7059, 7060, 7064, 7065, 7067, 7072, 7073, 7075, 7080, 7081, 7083, 7086, 7087, 7089, 7094, 8000] (f6P 4) ⟨113, [(0, (str s)), (5, b), (6, (i64 n6))], []⟩ st [.av (i64 n17), .av FF]).map fun q => (q.1, q.2.1.n, ([q.2.1.get 0, q.2.1.get 5, q.2.1.get 6] : List AV), q.2.2.1, q.2.2.2.2)) = some ((.exit 0), 113, [(str s), b, (i64 n6)], st, [lenA E0 9 (str s) = some (i64 n17), binA E0 .lss 3 (i64 n6) (i64 n17) = some FF]) := by kernel_rfl
theorem f6_4_F {s : ByteArray} {b : AV} {n6 n17 : Int} {st : St} (h1 : lenA E0 9 (str s) = some (i64 n17)) (h2 : binA E0 .lss 3 (i64 n6) (i64 n17) = some FF) {T : Tm} (hT : f6L3 T (str s) b (i64 n6)) : AW Tryd.prog (f6P 4) (fun ex T' st' => ex = (.exit 0) ∧ f6L3 T' (str s) b (i64 n6) ∧ st' = st) T st := by
  obtain ⟨hn, g0, g5, g6⟩ := hT
  exact (gen_run (G := fun T => ([T.get 0, T.get 5, T.get 6] : List AV)) hE (f6_4_F_e s b n6 n17 st) (Ob.ok_cons.2 ⟨h1, (Ob.ok_cons.2 ⟨h2, Ob.ok_nil⟩)⟩) hn (conz g0 (conz g5 (one g6)))).mono fun ex T' st' ⟨q1, q2, q3, q4⟩ => by simp only [List.cons.injEq, and_true] at q3; exact ⟨q1, ⟨q2, q3⟩, q4⟩
theorem f6_5_T_e (s : ByteArray) (b : AV) (n6 n97 : Int) (st : St) : ((evS Tryd.prog E0 noOv noS 100000 [6008, 7097, 7098, 7104, 7105, 7106, 7111, 7112, 8000] (f6P 5) ⟨113, [(0, (str s)), (5, b), (6, (i64 n6))], []⟩ st [.eff (i64 n97) id, .eff TT id]).map fun q => (q.1, q.2.1.n, ([q.2.1.get 2, q.2.1.get 3, q.2.1.get 4] : List AV), q.2.2.1, q.2.2.2.2)) = some (.ret, 113, [.nils, (str ⟨#[]⟩), FF], st, [∀ k ∈ [], k < st.next, lenA E0 9 (str s) = some (i64 n97), binA E0 .geq 3 (i64 n6) (i64 n97) = some TT]) := by kernel_rfl
theorem f6_5_T {s : ByteArray} {b : AV} {n6 n97 : Int} {st : St} (h1 : ∀ k ∈ [], k < st.next) (h2 : lenA E0 9 (str s) = some (i64 n97)) (h3 : binA E0 .geq 3 (i64 n6) (i64 n97) = some TT) {T : Tm} (hT : f6L3 T (str s) b (i64 n6)) : AW Tryd.prog (f6P 5) (fun ex T' st' => ex = .ret ∧ f6L1 T' .nils (str ⟨#[]⟩) FF ∧ st' = st) T st := by
  obtain ⟨hn, g0, g5, g6⟩ := hT
  exact (gen_run (G := fun T => ([T.get 2, T.get 3, T.get 4] : List AV)) hE (f6_5_T_e s b n6 n97 st) (Ob.ok_cons.2 ⟨h1, (Ob.ok_cons.2 ⟨h2, (Ob.ok_cons.2 ⟨h3, Ob.ok_nil⟩)⟩)⟩) hn (conz g0 (conz g5 (one g6)))).mono fun ex T' st' ⟨q1, q2, q3, q4⟩ => by simp only [List.cons.injEq, and_true] at q3; exact ⟨q1, ⟨q2, q3⟩, q4⟩
theorem f6_5_FT_e (s w105 w101 : ByteArray) (b : AV) (n6 n97 n104 : Int) (st s1 : St) : ((evS Tryd.prog E0 noOv noS 100000 [6008, 7097, 7098, 7104, 7105, 7106, 7111, 7112, 8000] (f6P 5) ⟨113, [(0, (str s)), (5, b), (6, (i64 n6))], []⟩ st [.eff (i64 n97) id, .eff FF id, .eff (i64 n104) id, .eff (str w105) id, .eff (str w101) (fun _ => s1), .eff TT id]).map fun q => (q.1, q.2.1.n, ([q.2.1.get 2, q.2.1.get 3, q.2.1.get 4] : List AV), q.2.2.1, q.2.2.2.2)) = some (.ret, 113, [.nils, (str ⟨#[]⟩), FF], s1, [∀ k ∈ [], k < st.next, lenA E0 9 (str s) = some (i64 n97), binA E0 .geq 3 (i64 n6) (i64 n97) = some FF, binA E0 .add 3 (i64 n6) (i64 1) = some (i64 n104), sliceA E0 st 9 (str s) none (some (i64 n104)) none = some (str w105), (false = true → [].all (fun k => (st.get k).isSome) = true), obC 8 [b] st (str w101) s1, binA E0 .neq 9 (str w101) (str w105) = some TT]) := by kernel_rfl
theorem f6_5_FT {s w105 w101 : ByteArray} {b : AV} {n6 n97 n104 : Int} {st s1 : St} (h1 : ∀ k ∈ [], k < st.next) (h2 : lenA E0 9 (str s) = some (i64 n97)) (h3 : binA E0 .geq 3 (i64 n6) (i64 n97) = some FF) (h4 : binA E0 .add 3 (i64 n6) (i64 1) = some (i64 n104)) (h5 : sliceA E0 st 9 (str s) none (some (i64 n104)) none = some (str w105)) (h6 : obC 8 [b] st (str w101) s1) (h7 : binA E0 .neq 9 (str w101) (str w105) = some TT) {T : Tm} (hT : f6L3 T (str s) b (i64 n6)) : AW Tryd.prog (f6P 5) (fun ex T' st' => ex = .ret ∧ f6L1 T' .nils (str ⟨#[]⟩) FF ∧ st' = s1) T st := by
  obtain ⟨hn, g0, g5, g6⟩ := hT
  exact (gen_run (G := fun T => ([T.get 2, T.get 3, T.get 4] : List AV)) hE (f6_5_FT_e s w105 w101 b n6 n97 n104 st s1) (Ob.ok_cons.2 ⟨h1, (Ob.ok_cons.2 ⟨h2, (Ob.ok_cons.2 ⟨h3, (Ob.ok_cons.2 ⟨h4, (Ob.ok_cons.2 ⟨h5, (Ob.ok_cons.2 ⟨(fun h => by cases h), (Ob.ok_cons.2 ⟨h6, (Ob.ok_cons.2 ⟨h7, Ob.ok_nil⟩)⟩)⟩)⟩)⟩)⟩)⟩)⟩) hn (conz g0 (conz g5 (one g6)))).mono fun ex T' st' ⟨q1, q2, q3, q4⟩ => by simp only [List.cons.injEq, and_true] at q3; exact ⟨q1, ⟨q2, q3⟩, q4⟩
theorem f6_5_FF_e (s w105 w101 w112 : ByteArray) (b : AV) (n6 n97 n104 n111 : Int) (st s1 : St) : ((evS Tryd.prog E0 noOv noS 100000 [6008, 7097, 7098, 7104, 7105, 7106, 7111, 7112, 8000] (f6P 5) ⟨113, [(0, (str s)), (5, b), (6, (i64 n6))], []⟩ st [.eff (i64 n97) id, .eff FF id, .eff (i64 n104) id, .eff (str w105) id, .eff (str w101) (fun _ => s1), .eff FF id, .eff (i64 n111) id, .eff (str w112) id]).map fun q => (q.1, q.2.1.n, ([q.2.1.get 2, q.2.1.get 3, q.2.1.get 4] : List AV), q.2.2.1, q.2.2.2.2)) = some (.ret, 113, [b, (str w112), TT], s1, [∀ k ∈ [], k < st.next, lenA E0 9 (str s) = some (i64 n97), binA E0 .geq 3 (i64 n6) (i64 n97) = some FF, binA E0 .add 3 (i64 n6) (i64 1) = some (i64 n104), sliceA E0 st 9 (str s) none (some (i64 n104)) none = some (str w105), (false = true → [].all (fun k => (st.get k).isSome) = true), obC 8 [b] st (str w101) s1, binA E0 .neq 9 (str w101) (str w105) = some FF, ∀ k ∈ [], k < s1.next, binA E0 .add 3 (i64 n6) (i64 1) = some (i64 n111), sliceA E0 s1 9 (str s) (some (i64 n111)) none none = some (str w112)]) := by kernel_rfl
theorem f6_5_FF {s w105 w101 w112 : ByteArray} {b : AV} {n6 n97 n104 n111 : Int} {st s1 : St} (h1 : ∀ k ∈ [], k < st.next) (h2 : lenA E0 9 (str s) = some (i64 n97)) (h3 : binA E0 .geq 3 (i64 n6) (i64 n97) = some FF) (h4 : binA E0 .add 3 (i64 n6) (i64 1) = some (i64 n104)) (h5 : sliceA E0 st 9 (str s) none (some (i64 n104)) none = some (str w105)) (h6 : obC 8 [b] st (str w101) s1) (h7 : binA E0 .neq 9 (str w101) (str w105) = some FF) (h8 : ∀ k ∈ [], k < s1.next) (h9 : binA E0 .add 3 (i64 n6) (i64 1) = some (i64 n111)) (h10 : sliceA E0 s1 9 (str s) (some (i64 n111)) none none = some (str w112)) {T : Tm} (hT : f6L3 T (str s) b (i64 n6)) : AW Tryd.prog (f6P 5) (fun ex T' st' => ex = .ret ∧ f6L1 T' b (str w112) TT ∧ st' = s1) T st := by
  obtain ⟨hn, g0, g5, g6⟩ := hT
  exact (gen_run (G := fun T => ([T.get 2, T.get 3, T.get 4] : List AV)) hE (f6_5_FF_e s w105 w101 w112 b n6 n97 n104 n111 st s1) (Ob.ok_cons.2 ⟨h1, (Ob.ok_cons.2 ⟨h2, (Ob.ok_cons.2 ⟨h3, (Ob.ok_cons.2 ⟨h4, (Ob.ok_cons.2 ⟨h5, (Ob.ok_cons.2 ⟨(fun h => by cases h), (Ob.ok_cons.2 ⟨h6, (Ob.ok_cons.2 ⟨h7, (Ob.ok_cons.2 ⟨h8, (Ob.ok_cons.2 ⟨h9, (Ob.ok_cons.2 ⟨h10, Ob.ok_nil⟩)⟩)⟩)⟩)⟩)⟩)⟩)⟩)⟩)⟩)⟩) hn (conz g0 (conz g5 (one g6)))).mono fun ex T' st' ⟨q1, q2, q3, q4⟩ => by simp only [List.cons.injEq, and_true] at q3; exact ⟨q1, ⟨q2, q3⟩, q4⟩
noncomputable def f3P (i : Nat) : Code := match Tryd.f3.body with
  | some x0 => [x0].getD i .skip
  | _ => .skip
theorem f3body : Tryd.f3.body = some (f3P 0) := by kernel_rfl
def f3L0 (T : Tm) (a0 a1 : AV) : Prop := T.n = 48 ∧ T.get 0 = a0 ∧ T.get 1 = a1
def f3L1 (T : Tm) (a4 : AV) : Prop := T.n = 48 ∧ T.get 4 = a4
theorem f3_0_TTTT_e (x v13a v19a : AV) (t w13b w19b w24 w26 w30 w32 : ByteArray) (st s1 s2 s3 s4 s5 : St) (b13c b19c b46 : Bool) : ((evS Tryd.prog E0 noOv noS 100000 [2030, 2032, 6005, 6006, 6007, 6008, 6009, 7027, 7033, 7038, 7043] (f3P 0) ⟨48, [(0, x), (1, (str t))], []⟩ st [.eff (.tup [v13a, (str w13b), (bo b13c)]) (fun _ => s1), .eff (.tup [v19a, (str w19b), (bo b19c)]) (fun _ => s2), .eff (str w24) (fun _ => s3), .eff (str w26) (fun _ => s4), .av TT, .eff (str w30) id, .eff (str w32) id, .av TT, .av TT, .av TT, .eff (bo b46) (fun _ => s5)]).map fun q => (q.1, q.2.1.n, ([q.2.1.get 4] : List AV), q.2.2.1, q.2.2.2.2)) = some (.ret, 48, [(bo b46)], s5, [obC 5 [(str t)] st (.tup [v13a, (str w13b), (bo b13c)]) s1, obC 6 [(str t)] s1 (.tup [v19a, (str w19b), (bo b19c)]) s2, obC 7 [x] s2 (str w24) s3, obC 8 [x] s3 (str w26) s4, binA E0 .eql 9 (str w24) (str w26) = some TT, convO E0 s4 22 9 v13a = some ((str w30), s4), convO E0 s4 22 9 v19a = some ((str w32), s4), binA E0 .eql 9 (str w30) (str w32) = some TT, binA E0 .eql 9 (str w13b) (str w19b) = some TT, binA E0 .eql 4 (bo b13c) (bo b19c) = some TT, obC 9 [] s4 (bo b46) s5]) := by kernel_rfl
theorem f3_0_TTTT {x v13a v19a : AV} {t w13b w19b w24 w26 w30 w32 : ByteArray} {st s1 s2 s3 s4 s5 : St} {b13c b19c b46 : Bool} (h1 : obC 5 [(str t)] st (.tup [v13a, (str w13b), (bo b13c)]) s1) (h2 : obC 6 [(str t)] s1 (.tup [v19a, (str w19b), (bo b19c)]) s2) (h3 : obC 7 [x] s2 (str w24) s3) (h4 : obC 8 [x] s3 (str w26) s4) (h5 : binA E0 .eql 9 (str w24) (str w26) = some TT) (h6 : convO E0 s4 22 9 v13a = some ((str w30), s4)) (h7 : convO E0 s4 22 9 v19a = some ((str w32), s4)) (h8 : binA E0 .eql 9 (str w30) (str w32) = some TT) (h9 : binA E0 .eql 9 (str w13b) (str w19b) = some TT) (h10 : binA E0 .eql 4 (bo b13c) (bo b19c) = some TT) (h11 : obC 9 [] s4 (bo b46) s5) {T : Tm} (hT : f3L0 T x (str t)) : AW Tryd.prog (f3P 0) (fun ex T' st' => ex = .ret ∧ f3L1 T' (bo b46) ∧ st' = s5) T st := by
  obtain ⟨hn, g0, g1⟩ := hT
  exact (gen_run (G := fun T => ([T.get 4] : List AV)) hE (f3_0_TTTT_e x v13a v19a t w13b w19b w24 w26 w30 w32 st s1 s2 s3 s4 s5 b13c b19c b46) (Ob.ok_cons.2 ⟨h1, (Ob.ok_cons.2 ⟨h2, (Ob.ok_cons.2 ⟨h3, (Ob.ok_cons.2 ⟨h4, (Ob.ok_cons.2 ⟨h5, (Ob.ok_cons.2 ⟨h6, (Ob.ok_cons.2 ⟨h7, (Ob.ok_cons.2 ⟨h8, (Ob.ok_cons.2 ⟨h9, (Ob.ok_cons.2 ⟨h10, (Ob.ok_cons.2 ⟨h11, Ob.ok_nil⟩)⟩)⟩)⟩)⟩)⟩)⟩)⟩)⟩)⟩)⟩) hn (conz g0 (one g1))).mono fun ex T' st' ⟨q1, q2, q3, q4⟩ => by simp only [List.cons.injEq, and_true] at q3; exact ⟨q1, ⟨q2, q3⟩, q4⟩
theorem f3_0_TTTF_e (x v13a v19a : AV) (t w13b w19b w24 w26 w30 w32 : ByteArray) (st s1 s2 s3 s4 : St) (b13c b19c : Bool) : ((evS Tryd.prog E0 noOv noS 100000 [2030, 2032, 6005, 6006, 6007, 6008, 6009, 7027, 7033, 7038, 7043] (f3P 0) ⟨48, [(0, x), (1, (str t))], []⟩ st [.eff (.tup [v13a, (str w13b), (bo b13c)]) (fun _ => s1), .eff (.tup [v19a, (str w19b), (bo b19c)]) (fun _ => s2), .eff (str w24) (fun _ => s3), .eff (str w26) (fun _ => s4), .av TT, .eff (str w30) id, .eff (str w32) id, .av TT, .av TT, .av FF]).map fun q => (q.1, q.2.1.n, ([q.2.1.get 4] : List AV), q.2.2.1, q.2.2.2.2)) = some (.ret, 48, [FF], s4, [obC 5 [(str t)] st (.tup [v13a, (str w13b), (bo b13c)]) s1, obC 6 [(str t)] s1 (.tup [v19a, (str w19b), (bo b19c)]) s2, obC 7 [x] s2 (str w24) s3, obC 8 [x] s3 (str w26) s4, binA E0 .eql 9 (str w24) (str w26) = some TT, convO E0 s4 22 9 v13a = some ((str w30), s4), convO E0 s4 22 9 v19a = some ((str w32), s4), binA E0 .eql 9 (str w30) (str w32) = some TT, binA E0 .eql 9 (str w13b) (str w19b) = some TT, binA E0 .eql 4 (bo b13c) (bo b19c) = some FF]) := by kernel_rfl
theorem f3_0_TTTF {x v13a v19a : AV} {t w13b w19b w24 w26 w30 w32 : ByteArray} {st s1 s2 s3 s4 : St} {b13c b19c : Bool} (h1 : obC 5 [(str t)] st (.tup [v13a, (str w13b), (bo b13c)]) s1) (h2 : obC 6 [(str t)] s1 (.tup [v19a, (str w19b), (bo b19c)]) s2) (h3 : obC 7 [x] s2 (str w24) s3) (h4 : obC 8 [x] s3 (str w26) s4) (h5 : binA E0 .eql 9 (str w24) (str w26) = some TT) (h6 : convO E0 s4 22 9 v13a = some ((str w30), s4)) (h7 : convO E0 s4 22 9 v19a = some ((str w32), s4)) (h8 : binA E0 .eql 9 (str w30) (str w32) = some TT) (h9 : binA E0 .eql 9 (str w13b) (str w19b) = some TT) (h10 : binA E0 .eql 4 (bo b13c) (bo b19c) = some FF) {T : Tm} (hT : f3L0 T x (str t)) : AW Tryd.prog (f3P 0) (fun ex T' st' => ex = .ret ∧ f3L1 T' FF ∧ st' = s4) T st := by
  obtain ⟨hn, g0, g1⟩ := hT
  exact (gen_run (G := fun T => ([T.get 4] : List AV)) hE (f3_0_TTTF_e x v13a v19a t w13b w19b w24 w26 w30 w32 st s1 s2 s3 s4 b13c b19c) (Ob.ok_cons.2 ⟨h1, (Ob.ok_cons.2 ⟨h2, (Ob.ok_cons.2 ⟨h3, (Ob.ok_cons.2 ⟨h4, (Ob.ok_cons.2 ⟨h5, (Ob.ok_cons.2 ⟨h6, (Ob.ok_cons.2 ⟨h7, (Ob.ok_cons.2 ⟨h8, (Ob.ok_cons.2 ⟨h9, (Ob.ok_cons.2 ⟨h10, Ob.ok_nil⟩)⟩)⟩)⟩)⟩)⟩)⟩)⟩)⟩)⟩) hn (conz g0 (one g1))).mono fun ex T' st' ⟨q1, q2, q3, q4⟩ => by simp only [List.cons.injEq, and_true] at q3; exact ⟨q1, ⟨q2, q3⟩, q4⟩
theorem f3_0_TTF_e (x v13a v19a : AV) (t w13b w19b w24 w26 w30 w32 : ByteArray) (st s1 s2 s3 s4 : St) (b13c b19c : Bool) : ((evS Tryd.prog E0 noOv noS 100000 [2030, 2032, 6005, 6006, 6007, 6008, 6009, 7027, 7033, 7038, 7043] (f3P 0) ⟨48, [(0, x), (1, (str t))], []⟩ st [.eff (.tup [v13a, (str w13b), (bo b13c)]) (fun _ => s1), .eff (.tup [v19a, (str w19b), (bo b19c)]) (fun _ => s2), .eff (str w24) (fun _ => s3), .eff (str w26) (fun _ => s4), .av TT, .eff (str w30) id, .eff (str w32) id, .av TT, .av FF]).map fun q => (q.1, q.2.1.n, ([q.2.1.get 4] : List AV), q.2.2.1, q.2.2.2.2)) = some (.ret, 48, [FF], s4, [obC 5 [(str t)] st (.tup [v13a, (str w13b), (bo b13c)]) s1, obC 6 [(str t)] s1 (.tup [v19a, (str w19b), (bo b19c)]) s2, obC 7 [x] s2 (str w24) s3, obC 8 [x] s3 (str w26) s4, binA E0 .eql 9 (str w24) (str w26) = some TT, convO E0 s4 22 9 v13a = some ((str w30), s4), convO E0 s4 22 9 v19a = some ((str w32), s4), binA E0 .eql 9 (str w30) (str w32) = some TT, binA E0 .eql 9 (str w13b) (str w19b) = some FF]) := by kernel_rfl
theorem f3_0_TTF {x v13a v19a : AV} {t w13b w19b w24 w26 w30 w32 : ByteArray} {st s1 s2 s3 s4 : St} {b13c b19c : Bool} (h1 : obC 5 [(str t)] st (.tup [v13a, (str w13b), (bo b13c)]) s1) (h2 : obC 6 [(str t)] s1 (.tup [v19a, (str w19b), (bo b19c)]) s2) (h3 : obC 7 [x] s2 (str w24) s3) (h4 : obC 8 [x] s3 (str w26) s4) (h5 : binA E0 .eql 9 (str w24) (str w26) = some TT) (h6 : convO E0 s4 22 9 v13a = some ((str w30), s4)) (h7 : convO E0 s4 22 9 v19a = some ((str w32), s4)) (h8 : binA E0 .eql 9 (str w30) (str w32) = some TT) (h9 : binA E0 .eql 9 (str w13b) (str w19b) = some FF) {T : Tm} (hT : f3L0 T x (str t)) : AW Tryd.prog (f3P 0) (fun ex T' st' => ex = .ret ∧ f3L1 T' FF ∧ st' = s4) T st := by
  obtain ⟨hn, g0, g1⟩ := hT
  exact (gen_run (G := fun T => ([T.get 4] : List AV)) hE (f3_0_TTF_e x v13a v19a t w13b w19b w24 w26 w30 w32 st s1 s2 s3 s4 b13c b19c) (Ob.ok_cons.2 ⟨h1, (Ob.ok_cons.2 ⟨h2, (Ob.ok_cons.2 ⟨h3, (Ob.ok_cons.2 ⟨h4, (Ob.ok_cons.2 ⟨h5, (Ob.ok_cons.2 ⟨h6, (Ob.ok_cons.2 ⟨h7, (Ob.ok_cons.2 ⟨h8, (Ob.ok_cons.2 ⟨h9, Ob.ok_nil⟩)⟩)⟩)⟩)⟩)⟩)⟩)⟩)⟩) hn (conz g0 (one g1))).mono fun ex T' st' ⟨q1, q2, q3, q4⟩ => by simp only [List.cons.injEq, and_true] at q3; exact ⟨q1, ⟨q2, q3⟩, q4⟩
theorem f3_0_TF_e (x v13a v19a : AV) (t w13b w19b w24 w26 w30 w32 : ByteArray) (st s1 s2 s3 s4 : St) (b13c b19c : Bool) : ((evS Tryd.prog E0 noOv noS 100000 [2030, 2032, 6005, 6006, 6007, 6008, 6009, 7027, 7033, 7038, 7043] (f3P 0) ⟨48, [(0, x), (1, (str t))], []⟩ st [.eff (.tup [v13a, (str w13b), (bo b13c)]) (fun _ => s1), .eff (.tup [v19a, (str w19b), (bo b19c)]) (fun _ => s2), .eff (str w24) (fun _ => s3), .eff (str w26) (fun _ => s4), .av TT, .eff (str w30) id, .eff (str w32) id, .av FF]).map fun q => (q.1, q.2.1.n, ([q.2.1.get 4] : List AV), q.2.2.1, q.2.2.2.2)) = some (.ret, 48, [FF], s4, [obC 5 [(str t)] st (.tup [v13a, (str w13b), (bo b13c)]) s1, obC 6 [(str t)] s1 (.tup [v19a, (str w19b), (bo b19c)]) s2, obC 7 [x] s2 (str w24) s3, obC 8 [x] s3 (str w26) s4, binA E0 .eql 9 (str w24) (str w26) = some TT, convO E0 s4 22 9 v13a = some ((str w30), s4), convO E0 s4 22 9 v19a = some ((str w32), s4), binA E0 .eql 9 (str w30) (str w32) = some FF]) := by kernel_rfl
theorem f3_0_TF {x v13a v19a : AV} {t w13b w19b w24 w26 w30 w32 : ByteArray} {st s1 s2 s3 s4 : St} {b13c b19c : Bool} (h1 : obC 5 [(str t)] st (.tup [v13a, (str w13b), (bo b13c)]) s1) (h2 : obC 6 [(str t)] s1 (.tup [v19a, (str w19b), (bo b19c)]) s2) (h3 : obC 7 [x] s2 (str w24) s3) (h4 : obC 8 [x] s3 (str w26) s4) (h5 : binA E0 .eql 9 (str w24) (str w26) = some TT) (h6 : convO E0 s4 22 9 v13a = some ((str w30), s4)) (h7 : convO E0 s4 22 9 v19a = some ((str w32), s4)) (h8 : binA E0 .eql 9 (str w30) (str w32) = some FF) {T : Tm} (hT : f3L0 T x (str t)) : AW Tryd.prog (f3P 0) (fun ex T' st' => ex = .ret ∧ f3L1 T' FF ∧ st' = s4) T st := by
  obtain ⟨hn, g0, g1⟩ := hT
  exact (gen_run (G := fun T => ([T.get 4] : List AV)) hE (f3_0_TF_e x v13a v19a t w13b w19b w24 w26 w30 w32 st s1 s2 s3 s4 b13c b19c) (Ob.ok_cons.2 ⟨h1, (Ob.ok_cons.2 ⟨h2, (Ob.ok_cons.2 ⟨h3, (Ob.ok_cons.2 ⟨h4, (Ob.ok_cons.2 ⟨h5, (Ob.ok_cons.2 ⟨h6, (Ob.ok_cons.2 ⟨h7, (Ob.ok_cons.2 ⟨h8, Ob.ok_nil⟩)⟩)⟩)⟩)⟩)⟩)⟩)⟩) hn (conz g0 (one g1))).mono fun ex T' st' ⟨q1, q2, q3, q4⟩ => by simp only [List.cons.injEq, and_true] at q3; exact ⟨q1, ⟨q2, q3⟩, q4⟩
theorem f3_0_F_e (x v13a v19a : AV) (t w13b w19b w24 w26 : ByteArray) (st s1 s2 s3 s4 : St) (b13c b19c : Bool) : ((evS Tryd.prog E0 noOv noS 100000 [2030, 2032, 6005, 6006, 6007, 6008, 6009, 7027, 7033, 7038, 7043] (f3P 0) ⟨48, [(0, x), (1, (str t))], []⟩ st [.eff (.tup [v13a, (str w13b), (bo b13c)]) (fun _ => s1), .eff (.tup [v19a, (str w19b), (bo b19c)]) (fun _ => s2), .eff (str w24) (fun _ => s3), .eff (str w26) (fun _ => s4), .av FF]).map fun q => (q.1, q.2.1.n, ([q.2.1.get 4] : List AV), q.2.2.1, q.2.2.2.2)) = some (.ret, 48, [FF], s4, [obC 5 [(str t)] st (.tup [v13a, (str w13b), (bo b13c)]) s1, obC 6 [(str t)] s1 (.tup [v19a, (str w19b), (bo b19c)]) s2, obC 7 [x] s2 (str w24) s3, obC 8 [x] s3 (str w26) s4, binA E0 .eql 9 (str w24) (str w26) = some FF]) := by kernel_rfl
theorem f3_0_F {x v13a v19a : AV} {t w13b w19b w24 w26 : ByteArray} {st s1 s2 s3 s4 : St} {b13c b19c : Bool} (h1 : obC 5 [(str t)] st (.tup [v13a, (str w13b), (bo b13c)]) s1) (h2 : obC 6 [(str t)] s1 (.tup [v19a, (str w19b), (bo b19c)]) s2) (h3 : obC 7 [x] s2 (str w24) s3) (h4 : obC 8 [x] s3 (str w26) s4) (h5 : binA E0 .eql 9 (str w24) (str w26) = some FF) {T : Tm} (hT : f3L0 T x (str t)) : AW Tryd.prog (f3P 0) (fun ex T' st' => ex = .ret ∧ f3L1 T' FF ∧ st' = s4) T st := by
  obtain ⟨hn, g0, g1⟩ := hT
  exact (gen_run (G := fun T => ([T.get 4] : List AV)) hE (f3_0_F_e x v13a v19a t w13b w19b w24 w26 st s1 s2 s3 s4 b13c b19c) (Ob.ok_cons.2 ⟨h1, (Ob.ok_cons.2 ⟨h2, (Ob.ok_cons.2 ⟨h3, (Ob.ok_cons.2 ⟨h4, (Ob.ok_cons.2 ⟨h5, Ob.ok_nil⟩)⟩)⟩)⟩)⟩) hn (conz g0 (one g1))).mono fun ex T' st' ⟨q1, q2, q3, q4⟩ => by simp only [List.cons.injEq, and_true] at q3; exact ⟨q1, ⟨q2, q3⟩, q4⟩
end
section
set_option maxRecDepth 8000
/-! ### words, told apart: plain laws -/
theorem dig_hex : ∀ k : Fin 16, digV (hexD k.val) = some k.val := by decide
theorem scan_esc (c : UInt8) {n : Nat} {t B : List UInt8} : scanP (n + 1) (escB c ++ t) B = scanP n t (B ++ [c]) := by
  have hc := c.toNat_lt
  unfold escB
  split
  · have h1 : digV (hexD (c.toNat / 16)) = some (c.toNat / 16) := dig_hex ⟨c.toNat / 16, by omega⟩
    have h2 : digV (hexD (c.toNat % 16)) = some (c.toNat % 16) := dig_hex ⟨c.toNat % 16, by omega⟩
    have e : UInt8.ofNat (16 * (c.toNat / 16) + c.toNat % 16) = c := by
      rw [Nat.div_add_mod]; exact UInt8.ofNat_toNat
    show scanP (n + 1) (92 :: 120 :: hexD (c.toNat / 16) :: hexD (c.toNat % 16) :: t) B = _
    simp only [scanP]
    rw [if_neg (by decide), if_pos trivial, if_pos trivial, h1, h2]
    simp only [e]
  · split
    · rename_i h1 h
      have hx : c ≠ 120 := by rcases h with rfl | rfl <;> decide
      show scanP (n + 1) (92 :: c :: t) B = _
      simp only [scanP]
      rw [if_neg (by decide), if_pos trivial, if_neg hx]
    · rename_i h1 h
      show scanP (n + 1) (c :: t) B = _
      simp only [scanP]
      rw [if_neg (fun e => h (.inl e)), if_neg (fun e => h (.inr e))]
theorem scan_word (r : List UInt8) : ∀ (b : List UInt8) (n : Nat) (B : List UInt8), b.length < n → scanP n (b.flatMap escB ++ 34 :: r) B = some (B ++ b, r)
  | [], n + 1, B, _ => by
    show scanP (n + 1) (34 :: r) B = _
    simp only [scanP]
    rw [if_pos trivial, List.append_nil]
  | c :: b, n + 1, B, h => by
    rw [List.flatMap_cons, List.append_assoc, scan_esc, scan_word r b n (B ++ [c]) (by simp at h; omega)]
    simp
theorem esc_pos (c : UInt8) : 0 < (escB c).length := by
  unfold escB; split
  · simp
  · split <;> simp
theorem flat_ge : ∀ b : List UInt8, b.length ≤ (b.flatMap escB).length
  | [] => by simp
  | c :: b => by
    have := flat_ge b
    have := esc_pos c
    simp only [List.flatMap_cons, List.length_append, List.length_cons]; omega
theorem unq_word (b r : List UInt8) : unqP (quoteF b ++ r) = some (b, r) := by
  have e : quoteF b ++ r = 34 :: (b.flatMap escB ++ 34 :: r) := by simp [quoteF]
  rw [e]
  have h := scan_word r b ((b.flatMap escB ++ 34 :: r).length + 1) [] (by have := flat_ge b; simp only [List.length_append, List.length_cons]; omega)
  simp only [unqP, h, List.nil_append]
  rw [if_pos e]
theorem unq_some {s B r : List UInt8} (h : unqP s = some (B, r)) : quoteF B ++ r = s := by
  unfold unqP at h
  split at h
  · split at h
    · split at h
      · rename_i h2
        simp only [Option.some.injEq, Prod.mk.injEq] at h
        obtain ⟨rfl, rfl⟩ := h
        exact h2
      · cases h
    · cases h
  · cases h
theorem quote_inj {a b : List UInt8} (h : quoteF a = quoteF b) : a = b := by
  have h1 := unq_word a []
  rw [h, unq_word b []] at h1
  simp only [Option.some.injEq, Prod.mk.injEq, and_true] at h1
  exact h1.symm
theorem quote_pre {a b : List UInt8} (h : quoteF a <+: quoteF b) : a = b := by
  obtain ⟨t, ht⟩ := h
  have h1 := unq_word a t
  rw [ht] at h1
  have h2 := unq_word b []
  rw [List.append_nil, h1] at h2
  simp only [Option.some.injEq, Prod.mk.injEq] at h2
  exact h2.1
theorem hex_print : ∀ k : Fin 16, 32 ≤ (hexD k.val).toNat ∧ (hexD k.val).toNat ≤ 126 := by decide
theorem esc_print {c x : UInt8} (h : x ∈ escB c) : 32 ≤ x.toNat ∧ x.toNat ≤ 126 := by
  have hc := c.toNat_lt
  unfold escB at h
  split at h
  · simp only [List.mem_cons, List.mem_nil_iff, or_false] at h
    rcases h with rfl | rfl | rfl | rfl
    · decide
    · decide
    · exact hex_print ⟨c.toNat / 16, by omega⟩
    · exact hex_print ⟨c.toNat % 16, by omega⟩
  · rename_i h1
    split at h
    · simp only [List.mem_cons, List.mem_nil_iff, or_false] at h
      rcases h with rfl | rfl
      · decide
      · omega
    · simp only [List.mem_cons, List.mem_nil_iff, or_false] at h
      subst h; omega
theorem quote_print {a : List UInt8} {x : UInt8} (h : x ∈ quoteF a) : 32 ≤ x.toNat ∧ x.toNat ≤ 126 := by
  simp only [quoteF, List.mem_append, List.mem_cons, List.mem_flatMap, List.mem_nil_iff, or_false] at h
  rcases h with (rfl | ⟨c, _, h⟩) | rfl
  · decide
  · exact esc_print h
  · decide
end
section
set_option maxRecDepth 8000
/-! ### the document's Unquote -/
theorem conv53 (st : St) (k : Nat) (h : k < 256) : convO E0 st 5 3 (u8 k) = some (i64 k, st) := by
  have : convO E0 st 5 3 (u8 k) = some (i64 (IntKind.i64.wrap (k : Int)), st) := by kernel_rfl
  rw [this, IntWalk.i64_in _ (by omega)]
theorem sub5 {a b : Nat} (h : b ≤ a) (h2 : a < 256) : binA E0 .sub 5 (u8 a) (u8 b) = some (u8 ((a - b : Nat) : Int)) := by
  have e : (IntKind.u8.wrap ((a : Int) - b)) = ((a - b : Nat) : Int) := by
    show ((a : Int) - b) % 256 = _
    omega
  have : binA E0 .sub 5 (u8 a) (u8 b) = some (u8 (IntKind.u8.wrap ((a : Int) - b))) := rfl
  rw [this, e]
theorem rdig_ok (st : St) (c : UInt8) : obC 12 [u8 c.toNat] st (i64 (digI (digV c))) st := by
  have hc := u8lt c
  by_cases h1 : 48 ≤ c.toNat
  · by_cases h2 : c.toNat ≤ 57
    · have e : digV c = some (c.toNat - 48) := by unfold digV; rw [if_pos ⟨h1, h2⟩]
      rw [e]
      exact f12_TT (geqT (by omega)) (leqT (by omega)) (sub5 (a := c.toNat) (b := 48) h1 hc) (conv53 st _ (by omega))
    · by_cases h3 : 97 ≤ c.toNat
      · by_cases h4 : c.toNat ≤ 102
        · have e : digV c = some (c.toNat - 87) := by unfold digV; rw [if_neg (by omega), if_pos ⟨h3, h4⟩]
          rw [e]
          have := f12_TFTT (st := st) (c := c.toNat) (geqT (by omega)) (leqF (by omega)) (geqT (by omega)) (leqT (by omega)) (sub5 (a := c.toNat) (b := 97) h3 hc) (conv53 st _ (by omega)) (add3 (a := c.toNat - 97) (b := 10) (by omega))
          rw [show c.toNat - 97 + 10 = c.toNat - 87 by omega] at this
          exact this
        · have e : digV c = none := by unfold digV; rw [if_neg (by omega), if_neg (by omega)]
          rw [e]
          exact f12_TFTF (geqT (by omega)) (leqF (by omega)) (geqT (by omega)) (leqF (by omega))
      · have e : digV c = none := by unfold digV; rw [if_neg (by omega), if_neg (by omega)]
        rw [e]
        exact f12_TFF (geqT (by omega)) (leqF (by omega)) (geqF (by omega))
  · have e : digV c = none := by unfold digV; rw [if_neg (by omega), if_neg (by omega)]
    rw [e]
    exact f12_FF (geqF (by omega)) (geqF (by omega))
/-- the document's scan -/
def scanR : Nat → List UInt8 → List UInt8 → Option (List UInt8 × List UInt8)
  | 0, _, _ => none
  | _ + 1, [], _ => none
  | n + 1, c :: t, B => if c = 34 then some (B, t) else if c = 92 then (match t with
      | [] => none
      | d :: t1 => if d = 120 then (match t1 with
          | x :: y :: t2 => (match digV x, digV y with
            | some p, some q => scanR n t2 (B ++ [UInt8.ofNat (16 * p + q)])
            | _, _ => none)
          | _ => none)
        else scanR n t1 (B ++ [d]))
    else scanR n t (B ++ [c])
theorem scanR_esc (c : UInt8) {n : Nat} {t B : List UInt8} : scanR (n + 1) (escB c ++ t) B = scanR n t (B ++ [c]) := by
  have hc := c.toNat_lt
  unfold escB
  split
  · have h1 : digV (hexD (c.toNat / 16)) = some (c.toNat / 16) := dig_hex ⟨c.toNat / 16, by omega⟩
    have h2 : digV (hexD (c.toNat % 16)) = some (c.toNat % 16) := dig_hex ⟨c.toNat % 16, by omega⟩
    have e : UInt8.ofNat (16 * (c.toNat / 16) + c.toNat % 16) = c := by
      rw [Nat.div_add_mod]; exact UInt8.ofNat_toNat
    show scanR (n + 1) (92 :: 120 :: hexD (c.toNat / 16) :: hexD (c.toNat % 16) :: t) B = _
    simp only [scanR]
    rw [if_neg (by decide), if_pos trivial, if_pos trivial, h1, h2]
    simp only [e]
  · split
    · rename_i h1 h
      have hx : c ≠ 120 := by rcases h with rfl | rfl <;> decide
      show scanR (n + 1) (92 :: c :: t) B = _
      simp only [scanR]
      rw [if_neg (by decide), if_pos trivial, if_neg hx]
    · rename_i h1 h
      show scanR (n + 1) (c :: t) B = _
      simp only [scanR]
      rw [if_neg (fun e => h (.inl e)), if_neg (fun e => h (.inr e))]
theorem scanR_word (r : List UInt8) : ∀ (b : List UInt8) (n : Nat) (B : List UInt8), b.length < n → scanR n (b.flatMap escB ++ 34 :: r) B = some (B ++ b, r)
  | [], n + 1, B, _ => by
    show scanR (n + 1) (34 :: r) B = _
    simp only [scanR]
    rw [if_pos trivial, List.append_nil]
  | c :: b, n + 1, B, h => by
    rw [List.flatMap_cons, List.append_assoc, scanR_esc, scanR_word r b n (B ++ [c]) (by simp at h; omega)]
    simp
/-- both scans, held against the word, say the same -/
theorem scans_agree {s t : List UInt8} (hs : s = 34 :: t) : (match scanR (t.length + 1) t [] with
    | some (B, r) => if quoteF B ++ r = s then some (B, r) else none
    | none => none) = unqP s := by
  cases hu : unqP s with
  | some p =>
    obtain ⟨B, r⟩ := p
    have e := unq_some hu
    have e2 : t = B.flatMap escB ++ 34 :: r := by
      rw [hs] at e
      simp only [quoteF, List.cons_append, List.cons.injEq, true_and] at e
      rw [← e]; simp
    have h := scanR_word r B (t.length + 1) [] (by rw [e2]; have := flat_ge B; simp only [List.length_append, List.length_cons]; omega)
    rw [← e2] at h
    rw [h]
    simp only [List.nil_append]
    rw [if_pos e]
  | none =>
    cases hr : scanR (t.length + 1) t [] with
    | none => rfl
    | some p =>
      obtain ⟨B, r⟩ := p
      simp only
      rw [if_neg]
      intro e
      rw [← e, unq_word] at hu
      cases hu
/-- what the loop comes to -/
def OutR (s : List UInt8) (n0 : Nat) (R : Option (List UInt8 × List UInt8)) (o : Option (AV × Nat)) (sf : St) : Prop := match R with
  | some (B, r) => ∃ v a, o = some (v, a) ∧ OwnB sf v B ∧ a < s.length ∧ r = s.drop (a + 1) ∧ (∀ j ∈ fid v, n0 ≤ j) ∧ B.length ≤ a
  | none => o = none ∨ ∃ v, o = some (v, s.length)
def QR (s : List UInt8) (o : Option (AV × Nat)) (sf : St) : Exit → Tm → St → Prop := fun ex T z => z = sf ∧ match o with
  | some (v, a) => ex = .exit 0 ∧ f6L3 T (sb s) v (i64 (a : Nat))
  | none => ex = .ret ∧ f6L1 T .nils (str ⟨#[]⟩) FF
theorem ap_one {st0 σ : St} {v : AV} {B : List UInt8} (hw0 : st0.wf) (hl0 : st0.lock = []) (hr : Rest st0 σ []) (ho : OwnB σ v B) (hf : ∀ j ∈ fid v, st0.next ≤ j) (hB : B.length ≤ 2000000000) (x : UInt8) : ∃ v' σ', (∃ σ1 v1, buildSliceA E0 σ 22 1 [(0, u8 x.toNat)] = some (v1, σ1) ∧ appendA E0 σ1 22 22 v v1 = some (v', σ')) ∧ OwnB σ' v' (B ++ [x]) ∧ Rest st0 σ' [] ∧ ∀ j ∈ fid v', st0.next ≤ j := by
  obtain ⟨s5, p1, p2, p3, p4⟩ := bapp (c := [x]) ho hr.wf (hr.lock.trans hl0) (by simp only [List.length_singleton]; omega) (by simp) (b1 σ x.toNat)
  exact ⟨_, s5, ⟨_, _, b1 σ x.toNat, p1⟩, p2, hr.fresh p3 hw0 hf, fun j hj => by simp only [fid, List.mem_singleton] at hj; have := hr.next; omega⟩
theorem mul16 {p : Nat} (h : p < 16) : binA E0 .mul 3 (i64 16) (i64 p) = some (i64 ((16 * p : Nat) : Int)) := by
  have : binA E0 .mul 3 (i64 16) (i64 p) = some (i64 (IntKind.i64.wrap ((16 : Int) * p))) := rfl
  rw [this, IntWalk.i64_in _ (by omega)]
  rfl
theorem runq_loop {s : List UInt8} {st0 : St} (hw0 : st0.wf) (hl0 : st0.lock = []) (hs : s.length ≤ 2000000000) : ∀ (n : Nat) (t : List UInt8) (a : Nat) (σ : St) (v : AV) (B : List UInt8), t = s.drop a → t.length < n → Rest st0 σ [] → OwnB σ v B → (∀ j ∈ fid v, st0.next ≤ j) → B.length ≤ a → a ≤ s.length →
    ∃ o sf, OutR s st0.next (scanR n t B) o sf ∧ Rest st0 sf [] ∧ ∀ T, f6L3 T (sb s) v (i64 a) → LoopIn Tryd.prog (f6P 4) (QR s o sf) n T σ := by
  intro n
  induction n with
  | zero => intro t a σ v B ht hn; omega
  | succ n ih =>
    intro t a σ v B ht hn hr ho hf hB ha
    have hlen := len_sb s
    cases t with
    | nil =>
      have e : a = s.length := by
        have := congrArg List.length ht
        rw [List.length_drop] at this
        simp at this; omega
      exact ⟨some (v, s.length), σ, .inr ⟨v, rfl⟩, hr, fun T hT => LoopIn.out (by simp) (f6_4_F hlen (lssF (by omega)) hT) fun T' hT' => ⟨rfl, rfl, by rw [e] at hT'; exact hT'⟩⟩
    | cons c t =>
      obtain ⟨hc, ht1, htl⟩ := drop_cons ht
      have hi := idx_sb hc
      have hlt : binA E0 .lss 3 (i64 a) (i64 s.length) = some TT := lssT (by omega)
      have a1 : binA E0 .add 3 (i64 a) (i64 1) = some (i64 ((a + 1 : Nat) : Int)) := add3 (a := a) (b := 1) (by omega)
      have a2 : binA E0 .add 3 (i64 a) (i64 2) = some (i64 ((a + 2 : Nat) : Int)) := add3 (a := a) (b := 2) (by omega)
      have a3 : binA E0 .add 3 (i64 a) (i64 3) = some (i64 ((a + 3 : Nat) : Int)) := add3 (a := a) (b := 3) (by omega)
      have a4 : binA E0 .add 3 (i64 a) (i64 4) = some (i64 ((a + 4 : Nat) : Int)) := add3 (a := a) (b := 4) (by omega)
      have ap := ap_one hw0 hl0 hr ho hf (by omega)
      by_cases h34 : c = 34
      · have c34 : binA E0 .neq 5 (u8 c.toNat) (u8 34) = some FF := neqF (by rw [h34]; rfl)
        have e0 : scanR (n + 1) (c :: t) B = some (B, t) := by simp only [scanR]; rw [if_pos h34]
        rw [e0]
        exact ⟨some (v, a), σ, ⟨v, a, rfl, ho, by omega, ht1, hf, hB⟩, hr, fun T hT => LoopIn.out (by simp) (f6_4_TF hlen hlt hi c34 hT) fun T' hT' => ⟨rfl, rfl, hT'⟩⟩
      · have c34 : binA E0 .neq 5 (u8 c.toNat) (u8 34) = some TT := neqT (fun e => h34 (UInt8.toNat_inj.1 (by show c.toNat = 34; omega)))
        by_cases h92 : c = 92
        · have c92 : binA E0 .neq 5 (u8 c.toNat) (u8 92) = some FF := neqF (by rw [h92]; rfl)
          cases t with
          | nil =>
            have e0 : scanR (n + 1) [c] B = none := by simp only [scanR]; rw [if_neg h34, if_pos h92]
            rw [e0]
            simp only [List.length_nil] at htl
            exact ⟨none, σ, .inl rfl, hr, fun T hT => LoopIn.out (by simp) (f6_4_TTFT hlen hlt hi c34 hi c92 a1 hlen (geqT (by omega)) hT) fun T' hT' => ⟨rfl, rfl, hT'⟩⟩
          | cons d t1 =>
            obtain ⟨hd, ht2, htl2⟩ := drop_cons ht1
            have hi1 : indexA E0 9 (sb s) (i64 ((a + 1 : Nat) : Int)) = some (u8 d.toNat) := idx_sb hd
            have ge1 : binA E0 .geq 3 (i64 ((a + 1 : Nat) : Int)) (i64 s.length) = some FF := geqF (by omega)
            by_cases h120 : d = 120
            · have d120 : binA E0 .neq 5 (u8 d.toNat) (u8 120) = some FF := neqF (by rw [h120]; rfl)
              have short : t1.length < 2 → scanR (n + 1) (c :: d :: t1) B = none := fun h => by
                match t1, h with
                | [], _ => simp only [scanR]; rw [if_neg h34, if_pos h92, if_pos h120]
                | [x], _ => simp only [scanR]; rw [if_neg h34, if_pos h92, if_pos h120]
              by_cases hsh : t1.length < 2
              · rw [short hsh]
                exact ⟨none, σ, .inl rfl, hr, fun T hT => LoopIn.out (by simp) (f6_4_TTFFFT hlen hlt hi c34 hi c92 a1 hlen ge1 a1 hi1 d120 a3 hlen (geqT (by omega)) hT) fun T' hT' => ⟨rfl, rfl, hT'⟩⟩
              · match t1, ht2, htl2, hsh with
                | [], _, _, hsh => simp at hsh
                | [x], _, _, hsh => simp at hsh
                | x :: y :: t2, ht2, htl2, hsh =>
                  obtain ⟨hx, ht3, htl3⟩ := drop_cons ht2
                  obtain ⟨hy, ht4, htl4⟩ := drop_cons ht3
                  have hi2 : indexA E0 9 (sb s) (i64 ((a + 2 : Nat) : Int)) = some (u8 x.toNat) := idx_sb hx
                  have hi3 : indexA E0 9 (sb s) (i64 ((a + 3 : Nat) : Int)) = some (u8 y.toNat) := idx_sb hy
                  have ge3 : binA E0 .geq 3 (i64 ((a + 3 : Nat) : Int)) (i64 s.length) = some FF := geqF (by omega)
                  have e0 : scanR (n + 1) (c :: d :: x :: y :: t2) B = (match digV x, digV y with
                      | some p, some q => scanR n t2 (B ++ [UInt8.ofNat (16 * p + q)])
                      | _, _ => none) := by simp only [scanR]; rw [if_neg h34, if_pos h92, if_pos h120]
                  have dx := rdig_ok σ x
                  have dy := rdig_ok σ y
                  cases hvx : digV x with
                  | none =>
                    rw [hvx] at dx
                    rw [e0, hvx]
                    exact ⟨none, σ, .inl rfl, hr, fun T hT => LoopIn.out (by simp) (f6_4_TTFFFFT hlen hlt hi c34 hi c92 a1 hlen ge1 a1 hi1 d120 a3 hlen ge3 a2 hi2 dx (lssT (by decide)) hT) fun T' hT' => ⟨rfl, rfl, hT'⟩⟩
                  | some p =>
                    rw [hvx] at dx
                    have hp := digV_lt hvx
                    cases hvy : digV y with
                    | none =>
                      rw [hvy] at dy
                      rw [e0, hvx, hvy]
                      exact ⟨none, σ, .inl rfl, hr, fun T hT => LoopIn.out (by simp) (f6_4_TTFFFFFT hlen hlt hi c34 hi c92 a1 hlen ge1 a1 hi1 d120 a3 hlen ge3 a2 hi2 dx (lssF (by simp [digI])) a3 hi3 dy (lssT (by decide)) hT) fun T' hT' => ⟨rfl, rfl, hT'⟩⟩
                    | some q =>
                      rw [hvy] at dy
                      have hq := digV_lt hvy
                      obtain ⟨v', σ', ⟨σ1, v1, p1, p2⟩, p3, p4, p5⟩ := ap (UInt8.ofNat (16 * p + q))
                      have e8 : (UInt8.ofNat (16 * p + q)).toNat = 16 * p + q := by
                        rw [UInt8.toNat_ofNat']; exact Nat.mod_eq_of_lt (by omega)
                      rw [e8] at p1
                      have ew : IntKind.wrap .u8 ((16 * p + q : Nat) : Int) = ((16 * p + q : Nat) : Int) := by
                        show ((16 * p + q : Nat) : Int) % 256 = _
                        omega
                      obtain ⟨o, sf, q1, q2, q3⟩ := ih t2 (a + 4) σ' v' (B ++ [UInt8.ofNat (16 * p + q)]) ht4 (by simp at hn ⊢; omega) p4 p3 p5 (by simp; omega) (by omega)
                      rw [e0, hvx, hvy]
                      exact ⟨o, sf, q1, q2, fun T hT => LoopIn.go (f6_4_TTFFFFFF hlen hlt hi c34 hi c92 a1 hlen ge1 a1 hi1 d120 a3 hlen ge3 a2 hi2 dx (lssF (by simp [digI])) a3 hi3 dy (lssF (by simp [digI])) (fun k hk => by cases hk) a2 hi2 a3 hi3 dx (mul16 hp) dy (add3 (a := 16 * p) (b := q) (by omega)) (by rw [ew]; exact p1) p2 a4 hT) q3⟩
            · have d120 : binA E0 .neq 5 (u8 d.toNat) (u8 120) = some TT := neqT (fun e => h120 (UInt8.toNat_inj.1 (by show d.toNat = 120; omega)))
              have e0 : scanR (n + 1) (c :: d :: t1) B = scanR n t1 (B ++ [d]) := by simp only [scanR]; rw [if_neg h34, if_pos h92, if_neg h120]
              obtain ⟨v', σ', ⟨σ1, v1, p1, p2⟩, p3, p4, p5⟩ := ap d
              obtain ⟨o, sf, q1, q2, q3⟩ := ih t1 (a + 2) σ' v' (B ++ [d]) ht2 (by simp at hn ⊢; omega) p4 p3 p5 (by simp; omega) (by omega)
              rw [e0]
              exact ⟨o, sf, q1, q2, fun T hT => LoopIn.go (f6_4_TTFFT hlen hlt hi c34 hi c92 a1 hlen ge1 a1 hi1 d120 a1 hi1 p1 p2 a2 hT) q3⟩
        · have c92 : binA E0 .neq 5 (u8 c.toNat) (u8 92) = some TT := neqT (fun e => h92 (UInt8.toNat_inj.1 (by show c.toNat = 92; omega)))
          have e0 : scanR (n + 1) (c :: t) B = scanR n t (B ++ [c]) := by simp only [scanR]; rw [if_neg h34, if_neg h92]
          obtain ⟨v', σ', ⟨σ1, v1, p1, p2⟩, p3, p4, p5⟩ := ap c
          obtain ⟨o, sf, q1, q2, q3⟩ := ih t (a + 1) σ' v' (B ++ [c]) ht1 (by simp at hn ⊢; omega) p4 p3 p5 (by simp; omega) (by omega)
          rw [e0]
          exact ⟨o, sf, q1, q2, fun T hT => LoopIn.go (f6_4_TTT hlen hlt hi c34 hi c92 hi p1 p2 a1 hT) q3⟩
theorem runquote_ok {st : St} {s : List UInt8} (hw : st.wf) (hl : st.lock = []) (hs : s.length ≤ 2000000000) :
    ∃ st' r, obC 6 [sb s] st r st' ∧ Rest st st' [] ∧ match unqP s with
      | some (B, rest) => ∃ v, r = .tup [v, sb rest, TT] ∧ OwnB st' v B ∧ ∀ j ∈ fid v, st.next ≤ j
      | none => r = .tup [.nils, str ⟨#[]⟩, FF] := by
  have fin : ∀ {T : Tm} {a b c : AV} {z : St}, f6L1 T a b c → endA E0 Tryd.f6 (fun r s => r = .tup [a, b, c] ∧ s = z) .ret T z := fun {T a b c z} q => ⟨[T.get 2, T.get 3, T.get 4], rfl, by obtain ⟨_, q1, q2, q3⟩ := q; rw [q1, q2, q3]; rfl, rfl⟩
  cases s with
  | nil =>
    refine ⟨st, .tup [.nils, str ⟨#[]⟩, FF], ?_, .refl hw _, rfl⟩
    refine ACalls.body (E := E0) hE Tryd.func6 f6body ?_
    refine AW.andThen (f6_0 (s := ⟨([] : List UInt8).toArray⟩) ⟨rfl, rfl⟩) fun T1 q1 => ?_
    exact AW.retThen (f6_1_T (len_sb []) (eqlT rfl) q1) fun T2 q2 => fin q2
  | cons c t =>
    have l0 : binA E0 .eql 3 (i64 ((c :: t).length : Nat)) (i64 0) = some FF := eqlF (by simp only [List.length_cons]; omega)
    have i0 : indexA E0 9 (sb (c :: t)) (i64 0) = some (u8 c.toNat) := idx_sb (l := c :: t) (i := 0) rfl
    by_cases h34 : c = 34
    · subst h34
      obtain ⟨o, sf, out, r1, lp⟩ := runq_loop (s := 34 :: t) hw hl hs (t.length + 1) t 1 st .nils [] rfl (by omega) (.refl hw _) (.inl ⟨rfl, rfl, rfl⟩) (fun j hj => by cases hj) (by simp) (by simp)
      have start : ∀ (r : AV) (z : St), (∀ T ex, QR (34 :: t) o sf ex T sf → (ex = .exit 0 ∧ AW Tryd.prog (f6P 5) (endA E0 Tryd.f6 (fun r' s => r' = r ∧ s = z)) T sf) ∨ (ex = .ret ∧ endA E0 Tryd.f6 (fun r' s => r' = r ∧ s = z) .ret T sf)) → obC 6 [sb (34 :: t)] st r z := by
        intro r z hk
        refine ACalls.body (E := E0) hE Tryd.func6 f6body ?_
        refine AW.andThen (f6_0 (s := ⟨(34 :: t).toArray⟩) ⟨rfl, rfl⟩) fun T1 q1 => ?_
        refine AW.andThen (f6_1_FF (len_sb _) l0 i0 (neqF rfl) q1) fun T2 q2 => ?_
        refine AW.andThen (f6_2 q2) fun T3 q3 => ?_
        refine AW.andThen (f6_3 q3) fun T4 q4 => ?_
        refine .seq (AW.block ((AW.loopIn (lp T4 q4)).mono fun ex T5 z' hq => ?_))
        have hz : z' = sf := hq.1
        subst hz
        rcases hk T5 ex hq with ⟨rfl, h4⟩ | ⟨rfl, h4⟩
        · simp only [blockA, if_true]
          exact h4
        · exact h4
      have long : ∀ v, o = some (v, (34 :: t).length) → obC 6 [sb (34 :: t)] st (.tup [.nils, str ⟨#[]⟩, FF]) sf := fun v ho => start _ sf fun T ex hq => by
        rw [ho] at hq
        obtain ⟨_, rfl, h2⟩ := hq
        exact .inl ⟨rfl, AW.atRet (f6_5_T (fun k hk => by cases hk) (len_sb _) (geqT (by omega)) h2) fun T' q => fin q⟩
      have ag := scans_agree (s := 34 :: t) rfl
      cases hsc : scanR (t.length + 1) t [] with
      | none =>
        rw [hsc] at ag out
        rw [← ag]
        rcases out with h | ⟨v, h⟩
        · refine ⟨sf, .tup [.nils, str ⟨#[]⟩, FF], start _ sf fun T ex hq => ?_, r1, rfl⟩
          rw [h] at hq
          obtain ⟨_, rfl, h2⟩ := hq
          exact .inr ⟨rfl, fin h2⟩
        · exact ⟨sf, _, long v h, r1, rfl⟩
      | some p =>
        obtain ⟨B, r⟩ := p
        rw [hsc] at ag out
        simp only at ag
        rw [← ag]
        obtain ⟨v, a, ho, hB, ha, hr, hf, hBa⟩ := out
        obtain ⟨s8, h8, k8⟩ := rquote_ok hB.bs r1.wf (r1.lock.trans hl) (by omega)
        have ad : binA E0 .add 3 (i64 a) (i64 1) = some (i64 ((a + 1 : Nat) : Int)) := add3 (a := a) (b := 1) (by omega)
        have hsp : 34 :: t = (34 :: t).take (a + 1) ++ r := by rw [hr, List.take_append_drop]
        have sl := slice_hi sf (l := 34 :: t) (k := a + 1) (by omega)
        by_cases hq : quoteF B = (34 :: t).take (a + 1)
        · rw [if_pos (by rw [hq, ← hsp])]
          refine ⟨s8, _, start _ s8 fun T ex hq2 => ?_, r1.trans k8, v, rfl, hB.rest k8 fun _ _ => by simp, hf⟩
          rw [ho] at hq2
          obtain ⟨_, rfl, h2⟩ := hq2
          refine .inl ⟨rfl, AW.atRet (f6_5_FF (fun k hk => by cases hk) (len_sb _) (geqF (by omega)) ad sl h8 (ne_sbF hq) (fun k hk => by cases hk) ad (slice_lo s8 (l := 34 :: t) (k := a + 1) (by omega)) h2) fun T' q => ?_⟩
          rw [hr]
          exact fin q
        · rw [if_neg (fun e => hq (List.append_cancel_right (e.trans hsp)))]
          refine ⟨s8, .tup [.nils, str ⟨#[]⟩, FF], start _ s8 fun T ex hq2 => ?_, r1.trans k8, rfl⟩
          rw [ho] at hq2
          obtain ⟨_, rfl, h2⟩ := hq2
          exact .inl ⟨rfl, AW.atRet (f6_5_FT (fun k hk => by cases hk) (len_sb _) (geqF (by omega)) ad sl h8 (ne_sbT hq) h2) fun T' q => fin q⟩
    · have e0 : unqP (c :: t) = none := by
        unfold unqP
        split
        · rename_i t' e; simp only [List.cons.injEq] at e; exact absurd e.1 h34
        · rfl
      rw [e0]
      refine ⟨st, .tup [.nils, str ⟨#[]⟩, FF], ?_, .refl hw _, rfl⟩
      refine ACalls.body (E := E0) hE Tryd.func6 f6body ?_
      refine AW.andThen (f6_0 (s := ⟨(c :: t).toArray⟩) ⟨rfl, rfl⟩) fun T1 q1 => ?_
      exact AW.retThen (f6_1_FT (len_sb _) l0 i0 (neqT (fun e => h34 (UInt8.toNat_inj.1 (by show c.toNat = 34; omega)))) q1) fun T2 q2 => fin q2
end
section
set_option maxRecDepth 100000
theorem f31_e (st s1 : St) (s : ByteArray) (a1 : Nat) : evCallS Tryd.prog E0 noOv (fun _ => [2001]) 100000 31 [(str s)] st [.eff (.ptr a1 0) (fun _ => s1)] = some ((.fn (.func 46) [] [(.ptr a1 0)]), s1, [], [boxA st 9 (str s) = some ((.ptr a1 0), s1)]) := by kernel_rfl
theorem f31 {st s1 : St} {s : ByteArray} {a1 : Nat} (h1 : boxA st 9 (str s) = some ((.ptr a1 0), s1)) : obC 31 [(str s)] st (.fn (.func 46) [] [(.ptr a1 0)]) s1 := ACalls.run hE noOv_ok (f31_e st s1 s a1) (Ob.ok_cons.2 ⟨h1, Ob.ok_nil⟩)
theorem f25_e (st s1 s2 s3 : St) (d : Nat) (s : ByteArray) (v12 v14 : AV) (n18 : Int) : evCallS Tryd.prog E0 noOv (fun _ => [2012, 2014, 5000, 6042, 7018]) 100000 25 [(.ptr d 0), (str s)] st [.eff (.tup []) (fun _ => s1), .eff v12 id, .eff v14 (fun _ => s2), .eff .undef (fun _ => s3), .av (i64 n18)] = some ((.tup [(i64 n18), .nili]), s3, [], [obC 42 [(.ptr d 0)] st (.tup []) s1, loadA E0 s1 22 (.ptr d 1) = some v12 ∧ s1 = s1, appendA E0 s1 22 9 v12 (str s) = some (v14, s2), storeA E0 s2 22 (.ptr d 1) v14 = some s3, lenA E0 9 (str s) = some (i64 n18)]) := by kernel_rfl
theorem f25 {st s1 s2 s3 : St} {d : Nat} {s : ByteArray} {v12 v14 : AV} {n18 : Int} (h1 : obC 42 [(.ptr d 0)] st (.tup []) s1) (h2 : loadA E0 s1 22 (.ptr d 1) = some v12) (h3 : appendA E0 s1 22 9 v12 (str s) = some (v14, s2)) (h4 : storeA E0 s2 22 (.ptr d 1) v14 = some s3) (h5 : lenA E0 9 (str s) = some (i64 n18)) : obC 25 [(.ptr d 0), (str s)] st (.tup [(i64 n18), .nili]) s3 := ACalls.run hE noOv_ok (f25_e st s1 s2 s3 d s v12 v14 n18) (Ob.ok_cons.2 ⟨h1, (Ob.ok_cons.2 ⟨⟨h2, rfl⟩, (Ob.ok_cons.2 ⟨h3, (Ob.ok_cons.2 ⟨h4, (Ob.ok_cons.2 ⟨h5, Ob.ok_nil⟩)⟩)⟩)⟩)⟩)
theorem f26_e (st : St) (d : Nat) (v6 : AV) (n7 : Int) : evCallS Tryd.prog E0 noOv (fun _ => [2006, 7007]) 100000 26 [(.ptr d 0)] st [.eff v6 id, .av (i64 n7)] = some ((i64 n7), st, [], [loadA E0 st 22 (.ptr d 1) = some v6 ∧ st = st, lenA E0 22 v6 = some (i64 n7)]) := by kernel_rfl
theorem f26 {st : St} {d : Nat} {v6 : AV} {n7 : Int} (h1 : loadA E0 st 22 (.ptr d 1) = some v6) (h2 : lenA E0 22 v6 = some (i64 n7)) : obC 26 [(.ptr d 0)] st (i64 n7) st := ACalls.run hE noOv_ok (f26_e st d v6 n7) (Ob.ok_cons.2 ⟨⟨h1, rfl⟩, (Ob.ok_cons.2 ⟨h2, Ob.ok_nil⟩)⟩)
theorem f15_e (st s1 : St) (s : ByteArray) (v6a : AV) (n6b n6c : Int) : evCallS Tryd.prog E0 noOv (fun _ => [6022]) 100000 15 [(str s)] st [.eff (.tup [v6a, (i64 n6b), (i64 n6c)]) (fun _ => s1)] = some ((.tup [v6a, (i64 n6b), (i64 n6c)]), s1, [], [obC 22 [(str s), (.fn (.func 23) [] [])] st (.tup [v6a, (i64 n6b), (i64 n6c)]) s1]) := by kernel_rfl
theorem f15 {st s1 : St} {s : ByteArray} {v6a : AV} {n6b n6c : Int} (h1 : obC 22 [(str s), (.fn (.func 23) [] [])] st (.tup [v6a, (i64 n6b), (i64 n6c)]) s1) : obC 15 [(str s)] st (.tup [v6a, (i64 n6b), (i64 n6c)]) s1 := ACalls.run hE noOv_ok (f15_e st s1 s v6a n6b n6c) (Ob.ok_cons.2 ⟨h1, Ob.ok_nil⟩)
theorem f13_e (st s1 : St) (x : AV) (w5a : ByteArray) (n5b : Int) : evCallS Tryd.prog E0 noOv (fun _ => [6018]) 100000 13 [x] st [.eff (.tup [(str w5a), (i64 n5b)]) (fun _ => s1)] = some ((.tup [(str w5a), (i64 n5b)]), s1, [], [obC 18 [x, (.fn (.func 19) [] [])] st (.tup [(str w5a), (i64 n5b)]) s1]) := by kernel_rfl
theorem f13 {st s1 : St} {x : AV} {w5a : ByteArray} {n5b : Int} (h1 : obC 18 [x, (.fn (.func 19) [] [])] st (.tup [(str w5a), (i64 n5b)]) s1) : obC 13 [x] st (.tup [(str w5a), (i64 n5b)]) s1 := ACalls.run hE noOv_ok (f13_e st s1 x w5a n5b) (Ob.ok_cons.2 ⟨h1, Ob.ok_nil⟩)
theorem f14_e (st s1 : St) (x : AV) (w5a : ByteArray) (n5b : Int) : evCallS Tryd.prog E0 noOv (fun _ => [6020]) 100000 14 [x] st [.eff (.tup [(str w5a), (i64 n5b)]) (fun _ => s1)] = some ((.tup [(str w5a), (i64 n5b)]), s1, [], [obC 20 [x, (.fn (.func 21) [] [])] st (.tup [(str w5a), (i64 n5b)]) s1]) := by kernel_rfl
theorem f14 {st s1 : St} {x : AV} {w5a : ByteArray} {n5b : Int} (h1 : obC 20 [x, (.fn (.func 21) [] [])] st (.tup [(str w5a), (i64 n5b)]) s1) : obC 14 [x] st (.tup [(str w5a), (i64 n5b)]) s1 := ACalls.run hE noOv_ok (f14_e st s1 x w5a n5b) (Ob.ok_cons.2 ⟨h1, Ob.ok_nil⟩)
noncomputable def f22P (i : Nat) : Code := match Tryd.f22.body with
  | some (.seq x0 (.seq x1 (.seq x2 (.seq (.seq x3 (.block 0 (.rangeFunc _ _ x4 x5))) x6)))) => [x0, x1, x2, x3, x4, x5, x6].getD i .skip
  | _ => .skip
theorem f22body : Tryd.f22.body = some (.seq (f22P 0) (.seq (f22P 1) (.seq (f22P 2) (.seq (.seq (f22P 3) (.block 0 (.rangeFunc (.tmp 17) #[18] (f22P 4) (f22P 5)))) (f22P 6))))) := by kernel_rfl
def f22L0 (T : Tm) (a0 a1 : AV) : Prop := T.n = 44 ∧ T.get 0 = a0 ∧ T.get 1 = a1
def f22L1 (T : Tm) (a0 a3 a4 a5 a6 : AV) : Prop := T.n = 44 ∧ T.get 0 = a0 ∧ T.get 3 = a3 ∧ T.get 4 = a4 ∧ T.get 5 = a5 ∧ T.get 6 = a6
theorem f22_0_e (w0 : ByteArray) (st s1 s2 s3 s4 : St) (a3 a4 a5 a6 : Nat) : ((evS Tryd.prog E0 noOv noS 100000 [2003, 2004, 2005, 2006] (f22P 0) ⟨44, [(0, (str w0)), (1, (.fn (.func 23) [] []))], []⟩ st [.eff (.ptr a3 0) (fun _ => s1), .eff (.ptr a4 0) (fun _ => s2), .eff (.ptr a5 0) (fun _ => s3), .eff (.ptr a6 0) (fun _ => s4)]).map fun q => (q.1, q.2.1.n, ([q.2.1.get 0, q.2.1.get 3, q.2.1.get 4, q.2.1.get 5, q.2.1.get 6] : List AV), q.2.2.1, q.2.2.2.2)) = some (.normal, 44, [(str w0), (.ptr a3 0), (.ptr a4 0), (.ptr a5 0), (.ptr a6 0)], s4, [boxA st 52 (.fn (.func 23) [] []) = some ((.ptr a3 0), s1), allocA E0 s1 40 = some ((.ptr a4 0), s2), allocA E0 s2 3 = some ((.ptr a5 0), s3), allocA E0 s3 33 = some ((.ptr a6 0), s4)]) := by kernel_rfl
theorem f22_0 {w0 : ByteArray} {st s1 s2 s3 s4 : St} {a3 a4 a5 a6 : Nat} (h1 : boxA st 52 (.fn (.func 23) [] []) = some ((.ptr a3 0), s1)) (h2 : allocA E0 s1 40 = some ((.ptr a4 0), s2)) (h3 : allocA E0 s2 3 = some ((.ptr a5 0), s3)) (h4 : allocA E0 s3 33 = some ((.ptr a6 0), s4)) {T : Tm} (hT : f22L0 T (str w0) (.fn (.func 23) [] [])) : AW Tryd.prog (f22P 0) (fun ex T' st' => ex = .normal ∧ f22L1 T' (str w0) (.ptr a3 0) (.ptr a4 0) (.ptr a5 0) (.ptr a6 0) ∧ st' = s4) T st := by
  obtain ⟨hn, g0, g1⟩ := hT
  exact (gen_run (G := fun T => ([T.get 0, T.get 3, T.get 4, T.get 5, T.get 6] : List AV)) hE (f22_0_e w0 st s1 s2 s3 s4 a3 a4 a5 a6) (Ob.ok_cons.2 ⟨h1, (Ob.ok_cons.2 ⟨h2, (Ob.ok_cons.2 ⟨h3, (Ob.ok_cons.2 ⟨h4, Ob.ok_nil⟩)⟩)⟩)⟩) hn (conz g0 (one g1))).mono fun ex T' st' ⟨q1, q2, q3, q4⟩ => by simp only [List.cons.injEq, and_true] at q3; exact ⟨q1, ⟨q2, q3⟩, q4⟩
def f22L2 (T : Tm) (a4 a5 a6 : AV) : Prop := T.n = 44 ∧ T.get 4 = a4 ∧ T.get 5 = a5 ∧ T.get 6 = a6
theorem f22_1_T_e (w0 : ByteArray) (p3 p4 p5 p6 : Nat) (st s1 s2 s3 : St) (n14 : Int) : ((evS Tryd.prog E0 noOv noS 100000 [5000, 7014, 7015] (f22P 1) ⟨44, [(0, (str w0)), (3, (.ptr p3 0)), (4, (.ptr p4 0)), (5, (.ptr p5 0)), (6, (.ptr p6 0))], []⟩ st [.av (i64 n14), .av TT, .eff .undef (fun _ => s1), .eff .undef (fun _ => s2), .eff .undef (fun _ => s3)]).map fun q => (q.1, q.2.1.n, ([q.2.1.get 4, q.2.1.get 5, q.2.1.get 6] : List AV), q.2.2.1, q.2.2.2.2)) = some (.ret, 44, [(.ptr p4 0), (.ptr p5 0), (.ptr p6 0)], s3, [lenA E0 9 (str w0) = some (i64 n14), binA E0 .gtr 3 (i64 n14) (i64 65536) = some TT, storeA E0 st 40 (.ptr p4 0) .nils = some s1, storeA E0 s1 3 (.ptr p5 0) (i64 0) = some s2, storeA E0 s2 33 (.ptr p6 0) (i64 3) = some s3]) := by kernel_rfl
theorem f22_1_T {w0 : ByteArray} {p3 p4 p5 p6 : Nat} {st s1 s2 s3 : St} {n14 : Int} (h1 : lenA E0 9 (str w0) = some (i64 n14)) (h2 : binA E0 .gtr 3 (i64 n14) (i64 65536) = some TT) (h3 : storeA E0 st 40 (.ptr p4 0) .nils = some s1) (h4 : storeA E0 s1 3 (.ptr p5 0) (i64 0) = some s2) (h5 : storeA E0 s2 33 (.ptr p6 0) (i64 3) = some s3) {T : Tm} (hT : f22L1 T (str w0) (.ptr p3 0) (.ptr p4 0) (.ptr p5 0) (.ptr p6 0)) : AW Tryd.prog (f22P 1) (fun ex T' st' => ex = .ret ∧ f22L2 T' (.ptr p4 0) (.ptr p5 0) (.ptr p6 0) ∧ st' = s3) T st := by
  obtain ⟨hn, g0, g3, g4, g5, g6⟩ := hT
  exact (gen_run (G := fun T => ([T.get 4, T.get 5, T.get 6] : List AV)) hE (f22_1_T_e w0 p3 p4 p5 p6 st s1 s2 s3 n14) (Ob.ok_cons.2 ⟨h1, (Ob.ok_cons.2 ⟨h2, (Ob.ok_cons.2 ⟨h3, (Ob.ok_cons.2 ⟨h4, (Ob.ok_cons.2 ⟨h5, Ob.ok_nil⟩)⟩)⟩)⟩)⟩) hn (conz g0 (conz g3 (conz g4 (conz g5 (one g6)))))).mono fun ex T' st' ⟨q1, q2, q3, q4⟩ => by simp only [List.cons.injEq, and_true] at q3; exact ⟨q1, ⟨q2, q3⟩, q4⟩
theorem f22_1_F_e (w0 : ByteArray) (p3 p4 p5 p6 : Nat) (st : St) (n14 : Int) : ((evS Tryd.prog E0 noOv noS 100000 [5000, 7014, 7015] (f22P 1) ⟨44, [(0, (str w0)), (3, (.ptr p3 0)), (4, (.ptr p4 0)), (5, (.ptr p5 0)), (6, (.ptr p6 0))], []⟩ st [.av (i64 n14), .av FF]).map fun q => (q.1, q.2.1.n, ([q.2.1.get 0, q.2.1.get 3, q.2.1.get 4, q.2.1.get 5, q.2.1.get 6] : List AV), q.2.2.1, q.2.2.2.2)) = some (.normal, 44, [(str w0), (.ptr p3 0), (.ptr p4 0), (.ptr p5 0), (.ptr p6 0)], st, [lenA E0 9 (str w0) = some (i64 n14), binA E0 .gtr 3 (i64 n14) (i64 65536) = some FF]) := by kernel_rfl
theorem f22_1_F {w0 : ByteArray} {p3 p4 p5 p6 : Nat} {st : St} {n14 : Int} (h1 : lenA E0 9 (str w0) = some (i64 n14)) (h2 : binA E0 .gtr 3 (i64 n14) (i64 65536) = some FF) {T : Tm} (hT : f22L1 T (str w0) (.ptr p3 0) (.ptr p4 0) (.ptr p5 0) (.ptr p6 0)) : AW Tryd.prog (f22P 1) (fun ex T' st' => ex = .normal ∧ f22L1 T' (str w0) (.ptr p3 0) (.ptr p4 0) (.ptr p5 0) (.ptr p6 0) ∧ st' = st) T st := by
  obtain ⟨hn, g0, g3, g4, g5, g6⟩ := hT
  exact (gen_run (G := fun T => ([T.get 0, T.get 3, T.get 4, T.get 5, T.get 6] : List AV)) hE (f22_1_F_e w0 p3 p4 p5 p6 st n14) (Ob.ok_cons.2 ⟨h1, (Ob.ok_cons.2 ⟨h2, Ob.ok_nil⟩)⟩) hn (conz g0 (conz g3 (conz g4 (conz g5 (one g6)))))).mono fun ex T' st' ⟨q1, q2, q3, q4⟩ => by simp only [List.cons.injEq, and_true] at q3; exact ⟨q1, ⟨q2, q3⟩, q4⟩
def f22L3 (T : Tm) (a0 a3 a4 a5 a6 a7 : AV) : Prop := T.n = 44 ∧ T.get 0 = a0 ∧ T.get 3 = a3 ∧ T.get 4 = a4 ∧ T.get 5 = a5 ∧ T.get 6 = a6 ∧ T.get 7 = a7
theorem f22_2_e (w0 : ByteArray) (p3 p4 p5 p6 a7 : Nat) (st s1 : St) : ((evS Tryd.prog E0 noOv noS 100000 [2007] (f22P 2) ⟨44, [(0, (str w0)), (3, (.ptr p3 0)), (4, (.ptr p4 0)), (5, (.ptr p5 0)), (6, (.ptr p6 0))], []⟩ st [.eff (.ptr a7 0) (fun _ => s1)]).map fun q => (q.1, q.2.1.n, ([q.2.1.get 0, q.2.1.get 3, q.2.1.get 4, q.2.1.get 5, q.2.1.get 6, q.2.1.get 7] : List AV), q.2.2.1, q.2.2.2.2)) = some (.normal, 44, [(str w0), (.ptr p3 0), (.ptr p4 0), (.ptr p5 0), (.ptr p6 0), (.ptr a7 0)], s1, [allocA E0 st 40 = some ((.ptr a7 0), s1)]) := by kernel_rfl
theorem f22_2 {w0 : ByteArray} {p3 p4 p5 p6 a7 : Nat} {st s1 : St} (h1 : allocA E0 st 40 = some ((.ptr a7 0), s1)) {T : Tm} (hT : f22L1 T (str w0) (.ptr p3 0) (.ptr p4 0) (.ptr p5 0) (.ptr p6 0)) : AW Tryd.prog (f22P 2) (fun ex T' st' => ex = .normal ∧ f22L3 T' (str w0) (.ptr p3 0) (.ptr p4 0) (.ptr p5 0) (.ptr p6 0) (.ptr a7 0) ∧ st' = s1) T st := by
  obtain ⟨hn, g0, g3, g4, g5, g6⟩ := hT
  exact (gen_run (G := fun T => ([T.get 0, T.get 3, T.get 4, T.get 5, T.get 6, T.get 7] : List AV)) hE (f22_2_e w0 p3 p4 p5 p6 a7 st s1) (Ob.ok_cons.2 ⟨h1, Ob.ok_nil⟩) hn (conz g0 (conz g3 (conz g4 (conz g5 (one g6)))))).mono fun ex T' st' ⟨q1, q2, q3, q4⟩ => by simp only [List.cons.injEq, and_true] at q3; exact ⟨q1, ⟨q2, q3⟩, q4⟩
def f22L4 (T : Tm) (a3 a4 a5 a6 a7 a17 : AV) : Prop := T.n = 44 ∧ T.get 3 = a3 ∧ T.get 4 = a4 ∧ T.get 5 = a5 ∧ T.get 6 = a6 ∧ T.get 7 = a7 ∧ T.get 17 = a17
theorem f22_3_e (w0 : ByteArray) (p3 p4 p5 p6 p7 p : Nat) (st s1 : St) : ((evS Tryd.prog E0 noOv noS 100000 [6031] (f22P 3) ⟨44, [(0, (str w0)), (3, (.ptr p3 0)), (4, (.ptr p4 0)), (5, (.ptr p5 0)), (6, (.ptr p6 0)), (7, (.ptr p7 0))], []⟩ st [.eff (.fn (.func 46) [] [(.ptr p 0)]) (fun _ => s1)]).map fun q => (q.1, q.2.1.n, ([q.2.1.get 3, q.2.1.get 4, q.2.1.get 5, q.2.1.get 6, q.2.1.get 7, q.2.1.get 17] : List AV), q.2.2.1, q.2.2.2.2)) = some (.normal, 44, [(.ptr p3 0), (.ptr p4 0), (.ptr p5 0), (.ptr p6 0), (.ptr p7 0), (.fn (.func 46) [] [(.ptr p 0)])], s1, [obC 31 [(str w0)] st (.fn (.func 46) [] [(.ptr p 0)]) s1]) := by kernel_rfl
theorem f22_3 {w0 : ByteArray} {p3 p4 p5 p6 p7 p : Nat} {st s1 : St} (h1 : obC 31 [(str w0)] st (.fn (.func 46) [] [(.ptr p 0)]) s1) {T : Tm} (hT : f22L3 T (str w0) (.ptr p3 0) (.ptr p4 0) (.ptr p5 0) (.ptr p6 0) (.ptr p7 0)) : AW Tryd.prog (f22P 3) (fun ex T' st' => ex = .normal ∧ f22L4 T' (.ptr p3 0) (.ptr p4 0) (.ptr p5 0) (.ptr p6 0) (.ptr p7 0) (.fn (.func 46) [] [(.ptr p 0)]) ∧ st' = s1) T st := by
  obtain ⟨hn, g0, g3, g4, g5, g6, g7⟩ := hT
  exact (gen_run (G := fun T => ([T.get 3, T.get 4, T.get 5, T.get 6, T.get 7, T.get 17] : List AV)) hE (f22_3_e w0 p3 p4 p5 p6 p7 p st s1) (Ob.ok_cons.2 ⟨h1, Ob.ok_nil⟩) hn (conz g0 (conz g3 (conz g4 (conz g5 (conz g6 (one g7))))))).mono fun ex T' st' ⟨q1, q2, q3, q4⟩ => by simp only [List.cons.injEq, and_true] at q3; exact ⟨q1, ⟨q2, q3⟩, q4⟩
def f22L5 (T : Tm) (a3 a4 a5 a6 a7 a18 : AV) : Prop := T.n = 44 ∧ T.get 3 = a3 ∧ T.get 4 = a4 ∧ T.get 5 = a5 ∧ T.get 6 = a6 ∧ T.get 7 = a7 ∧ T.get 18 = a18
def f22L6 (T : Tm) (a3 a4 a5 a6 a7 a8 : AV) : Prop := T.n = 44 ∧ T.get 3 = a3 ∧ T.get 4 = a4 ∧ T.get 5 = a5 ∧ T.get 6 = a6 ∧ T.get 7 = a7 ∧ T.get 8 = a8
theorem f22_4_e (p3 p4 p5 p6 p7 : Nat) (ln : ByteArray) (st : St) : ((evR Tryd.prog E0 noOv noS 100000 [] (f22P 4) ⟨44, [(3, (.ptr p3 0)), (4, (.ptr p4 0)), (5, (.ptr p5 0)), (6, (.ptr p6 0)), (7, (.ptr p7 0)), (18, (str ln))], []⟩ st []).map fun q => (q.1, q.2.1.n, ([q.2.1.get 3, q.2.1.get 4, q.2.1.get 5, q.2.1.get 6, q.2.1.get 7, q.2.1.get 8] : List AV), q.2.2.1, q.2.2.2.2)) = some (.normal, 44, [(.ptr p3 0), (.ptr p4 0), (.ptr p5 0), (.ptr p6 0), (.ptr p7 0), (str ln)], st, []) := by kernel_rfl
theorem f22_4 {p3 p4 p5 p6 p7 : Nat} {ln : ByteArray} {st : St}  {T : Tm} {ro : Option Nat} (hT : f22L5 T (.ptr p3 0) (.ptr p4 0) (.ptr p5 0) (.ptr p6 0) (.ptr p7 0) (str ln)) : AWR ro Tryd.prog (f22P 4) (fun ex T' st' => ex = .normal ∧ f22L6 T' (.ptr p3 0) (.ptr p4 0) (.ptr p5 0) (.ptr p6 0) (.ptr p7 0) (str ln) ∧ st' = st) T st := by
  obtain ⟨hn, g3, g4, g5, g6, g7, g18⟩ := hT
  exact (gen_runR (G := fun T => ([T.get 3, T.get 4, T.get 5, T.get 6, T.get 7, T.get 8] : List AV)) hE (f22_4_e p3 p4 p5 p6 p7 ln st) Ob.ok_nil hn (conz g3 (conz g4 (conz g5 (conz g6 (conz g7 (one g18))))))).mono fun ex T' st' ⟨q1, q2, q3, q4⟩ => by simp only [List.cons.injEq, and_true] at q3; exact ⟨q1, ⟨q2, q3⟩, q4⟩
def f22L7 (T : Tm) : Prop := T.n = 44
theorem f22_5_TT_e (p3 p4 p5 p6 p7 a11 : Nat) (ln w21a : ByteArray) (st s1 s2 s3 s4 s5 s6 s7 : St) (v27a v39 v40 v41 v42 : AV) : ((evR Tryd.prog E0 noOv noS 100000 [2011, 2025, 2039, 2040, 2041, 2042, 5000, 6023, 6032, 7037, 7038, 8000] (f22P 5) ⟨44, [(3, (.ptr p3 0)), (4, (.ptr p4 0)), (5, (.ptr p5 0)), (6, (.ptr p6 0)), (7, (.ptr p7 0)), (8, (str ln))], []⟩ st [.eff (.tup [(str w21a), TT]) (fun _ => s1), .eff (.fn (.func 23) [] []) id, .eff (.tup [v27a, TT]) (fun _ => s2), .eff (.ptr a11 0) (fun _ => s3), .eff .undef (fun _ => s4), .eff v39 id, .eff v40 id, .eff v41 (fun _ => s5), .eff v42 (fun _ => s6), .eff .undef (fun _ => s7)]).map fun q => (q.1, q.2.1.n, ([] : List AV), q.2.2.1, q.2.2.2.2)) = some (.normal, 44, [], s7, [obC 32 [(str ln), (str ⟨#[10]⟩)] st (.tup [(str w21a), TT]) s1, loadA E0 s1 52 (.ptr p3 0) = some (.fn (.func 23) [] []) ∧ s1 = s1, obC 23 [(str w21a)] s1 (.tup [v27a, TT]) s2, allocA E0 s2 38 = some ((.ptr a11 0), s3), storeA E0 s3 38 (.ptr a11 0) v27a = some s4, loadA E0 s4 40 (.ptr p7 0) = some v39 ∧ s4 = s4, loadA E0 s4 38 (.ptr a11 0) = some v40 ∧ s4 = s4, buildSliceA E0 s4 40 1 [(0, v40)] = some (v41, s5), appendA E0 s5 40 40 v39 v41 = some (v42, s6), storeA E0 s6 40 (.ptr p7 0) v42 = some s7]) := by kernel_rfl
theorem f22_5_TT {p3 p4 p5 p6 p7 a11 : Nat} {ln w21a : ByteArray} {st s1 s2 s3 s4 s5 s6 s7 : St} {v27a v39 v40 v41 v42 : AV} (h1 : obC 32 [(str ln), (str ⟨#[10]⟩)] st (.tup [(str w21a), TT]) s1) (h2 : loadA E0 s1 52 (.ptr p3 0) = some (.fn (.func 23) [] [])) (h3 : obC 23 [(str w21a)] s1 (.tup [v27a, TT]) s2) (h4 : allocA E0 s2 38 = some ((.ptr a11 0), s3)) (h5 : storeA E0 s3 38 (.ptr a11 0) v27a = some s4) (h6 : loadA E0 s4 40 (.ptr p7 0) = some v39) (h7 : loadA E0 s4 38 (.ptr a11 0) = some v40) (h8 : buildSliceA E0 s4 40 1 [(0, v40)] = some (v41, s5)) (h9 : appendA E0 s5 40 40 v39 v41 = some (v42, s6)) (h10 : storeA E0 s6 40 (.ptr p7 0) v42 = some s7) {T : Tm} {ro : Option Nat} (hT : f22L6 T (.ptr p3 0) (.ptr p4 0) (.ptr p5 0) (.ptr p6 0) (.ptr p7 0) (str ln)) : AWR ro Tryd.prog (f22P 5) (fun ex T' st' => ex = .normal ∧ f22L7 T'  ∧ st' = s7) T st := by
  obtain ⟨hn, g3, g4, g5, g6, g7, g8⟩ := hT
  exact (gen_runR (G := fun T => ([] : List AV)) hE (f22_5_TT_e p3 p4 p5 p6 p7 a11 ln w21a st s1 s2 s3 s4 s5 s6 s7 v27a v39 v40 v41 v42) (Ob.ok_cons.2 ⟨h1, (Ob.ok_cons.2 ⟨⟨h2, rfl⟩, (Ob.ok_cons.2 ⟨h3, (Ob.ok_cons.2 ⟨h4, (Ob.ok_cons.2 ⟨h5, (Ob.ok_cons.2 ⟨⟨h6, rfl⟩, (Ob.ok_cons.2 ⟨⟨h7, rfl⟩, (Ob.ok_cons.2 ⟨h8, (Ob.ok_cons.2 ⟨h9, (Ob.ok_cons.2 ⟨h10, Ob.ok_nil⟩)⟩)⟩)⟩)⟩)⟩)⟩)⟩)⟩)⟩) hn (conz g3 (conz g4 (conz g5 (conz g6 (conz g7 (one g8))))))).mono fun ex T' st' ⟨q1, q2, q3, q4⟩ => by exact ⟨q1, q2, q4⟩
theorem f22_5_TF_e (p3 p4 p5 p6 p7 a11 : Nat) (ln w21a : ByteArray) (st s1 s2 s3 s4 s5 s6 s7 : St) (v27a v36 : AV) (n37 n38 : Int) : ((evR Tryd.prog E0 noOv noS 100000 [2011, 2025, 2039, 2040, 2041, 2042, 5000, 6023, 6032, 7037, 7038, 8000] (f22P 5) ⟨44, [(3, (.ptr p3 0)), (4, (.ptr p4 0)), (5, (.ptr p5 0)), (6, (.ptr p6 0)), (7, (.ptr p7 0)), (8, (str ln))], []⟩ st [.eff (.tup [(str w21a), TT]) (fun _ => s1), .eff (.fn (.func 23) [] []) id, .eff (.tup [v27a, FF]) (fun _ => s2), .eff (.ptr a11 0) (fun _ => s3), .eff .undef (fun _ => s4), .eff v36 id, .eff (i64 n37) id, .eff (i64 n38) id, .eff (.tup []) (fun _ => s5), .eff (.tup []) (fun _ => s6), .eff (.tup []) (fun _ => s7)]).map fun q => (q.1, q.2.1.n, ([] : List AV), q.2.2.1, q.2.2.2.2)) = some (.ret, 44, [], s7, [obC 32 [(str ln), (str ⟨#[10]⟩)] st (.tup [(str w21a), TT]) s1, loadA E0 s1 52 (.ptr p3 0) = some (.fn (.func 23) [] []) ∧ s1 = s1, obC 23 [(str w21a)] s1 (.tup [v27a, FF]) s2, allocA E0 s2 38 = some ((.ptr a11 0), s3), storeA E0 s3 38 (.ptr a11 0) v27a = some s4, ∀ k ∈ [p7], k < s4.next, [p7].contains p7 = true ∧ loadA E0 s4 40 (.ptr p7 0) = some v36, lenA E0 40 v36 = some (i64 n37), binA E0 .add 3 (i64 n37) (i64 1) = some (i64 n38), (true = true → [p7].all (fun k => (s4.get k).isSome) = true), storeA E0 (s4.hide [p7]) 40 (.ptr p4 0) .nils = some s5, (false = true → [p7].all (fun k => ((s5.show s4 [p7]).get k).isSome) = true), storeA E0 (s5.show s4 [p7]) 3 (.ptr p5 0) (i64 n38) = some s6, (false = true → [p7].all (fun k => (s6.get k).isSome) = true), storeA E0 s6 33 (.ptr p6 0) (i64 5) = some s7]) := by kernel_rfl
theorem f22_5_TF {p3 p4 p5 p6 p7 a11 : Nat} {ln w21a : ByteArray} {st s1 s2 s3 s4 s5 s6 s7 : St} {v27a v36 : AV} {n37 n38 : Int} (h1 : obC 32 [(str ln), (str ⟨#[10]⟩)] st (.tup [(str w21a), TT]) s1) (h2 : loadA E0 s1 52 (.ptr p3 0) = some (.fn (.func 23) [] [])) (h3 : obC 23 [(str w21a)] s1 (.tup [v27a, FF]) s2) (h4 : allocA E0 s2 38 = some ((.ptr a11 0), s3)) (h5 : storeA E0 s3 38 (.ptr a11 0) v27a = some s4) (h6 : ∀ k ∈ [p7], k < s4.next) (h7 : loadA E0 s4 40 (.ptr p7 0) = some v36) (h8 : lenA E0 40 v36 = some (i64 n37)) (h9 : binA E0 .add 3 (i64 n37) (i64 1) = some (i64 n38)) (h10 : [p7].all (fun k => (s4.get k).isSome) = true) (h11 : storeA E0 (s4.hide [p7]) 40 (.ptr p4 0) .nils = some s5) (h12 : storeA E0 (s5.show s4 [p7]) 3 (.ptr p5 0) (i64 n38) = some s6) (h13 : storeA E0 s6 33 (.ptr p6 0) (i64 5) = some s7) {T : Tm} {ro : Option Nat} (hT : f22L6 T (.ptr p3 0) (.ptr p4 0) (.ptr p5 0) (.ptr p6 0) (.ptr p7 0) (str ln)) : AWR ro Tryd.prog (f22P 5) (fun ex T' st' => ex = .ret ∧ f22L7 T'  ∧ st' = s7) T st := by
  obtain ⟨hn, g3, g4, g5, g6, g7, g8⟩ := hT
  exact (gen_runR (G := fun T => ([] : List AV)) hE (f22_5_TF_e p3 p4 p5 p6 p7 a11 ln w21a st s1 s2 s3 s4 s5 s6 s7 v27a v36 n37 n38) (Ob.ok_cons.2 ⟨h1, (Ob.ok_cons.2 ⟨⟨h2, rfl⟩, (Ob.ok_cons.2 ⟨h3, (Ob.ok_cons.2 ⟨h4, (Ob.ok_cons.2 ⟨h5, (Ob.ok_cons.2 ⟨h6, (Ob.ok_cons.2 ⟨⟨by simp, h7⟩, (Ob.ok_cons.2 ⟨h8, (Ob.ok_cons.2 ⟨h9, (Ob.ok_cons.2 ⟨(fun _ => h10), (Ob.ok_cons.2 ⟨h11, (Ob.ok_cons.2 ⟨(fun h => by cases h), (Ob.ok_cons.2 ⟨h12, (Ob.ok_cons.2 ⟨(fun h => by cases h), (Ob.ok_cons.2 ⟨h13, Ob.ok_nil⟩)⟩)⟩)⟩)⟩)⟩)⟩)⟩)⟩)⟩)⟩)⟩)⟩)⟩)⟩) hn (conz g3 (conz g4 (conz g5 (conz g6 (conz g7 (one g8))))))).mono fun ex T' st' ⟨q1, q2, q3, q4⟩ => by exact ⟨q1, q2, q4⟩
theorem f22_5_F_e (p3 p4 p5 p6 p7 a11 : Nat) (ln w21a : ByteArray) (st s1 s2 s3 s4 s5 s6 s7 : St) (v27a v36 : AV) (b27b : Bool) (n37 n38 : Int) : ((evR Tryd.prog E0 noOv noS 100000 [2011, 2025, 2039, 2040, 2041, 2042, 5000, 6023, 6032, 7037, 7038, 8000] (f22P 5) ⟨44, [(3, (.ptr p3 0)), (4, (.ptr p4 0)), (5, (.ptr p5 0)), (6, (.ptr p6 0)), (7, (.ptr p7 0)), (8, (str ln))], []⟩ st [.eff (.tup [(str w21a), FF]) (fun _ => s1), .eff (.fn (.func 23) [] []) id, .eff (.tup [v27a, (bo b27b)]) (fun _ => s2), .eff (.ptr a11 0) (fun _ => s3), .eff .undef (fun _ => s4), .eff v36 id, .eff (i64 n37) id, .eff (i64 n38) id, .eff (.tup []) (fun _ => s5), .eff (.tup []) (fun _ => s6), .eff (.tup []) (fun _ => s7)]).map fun q => (q.1, q.2.1.n, ([] : List AV), q.2.2.1, q.2.2.2.2)) = some (.ret, 44, [], s7, [obC 32 [(str ln), (str ⟨#[10]⟩)] st (.tup [(str w21a), FF]) s1, loadA E0 s1 52 (.ptr p3 0) = some (.fn (.func 23) [] []) ∧ s1 = s1, obC 23 [(str w21a)] s1 (.tup [v27a, (bo b27b)]) s2, allocA E0 s2 38 = some ((.ptr a11 0), s3), storeA E0 s3 38 (.ptr a11 0) v27a = some s4, ∀ k ∈ [p7], k < s4.next, [p7].contains p7 = true ∧ loadA E0 s4 40 (.ptr p7 0) = some v36, lenA E0 40 v36 = some (i64 n37), binA E0 .add 3 (i64 n37) (i64 1) = some (i64 n38), (true = true → [p7].all (fun k => (s4.get k).isSome) = true), storeA E0 (s4.hide [p7]) 40 (.ptr p4 0) .nils = some s5, (false = true → [p7].all (fun k => ((s5.show s4 [p7]).get k).isSome) = true), storeA E0 (s5.show s4 [p7]) 3 (.ptr p5 0) (i64 n38) = some s6, (false = true → [p7].all (fun k => (s6.get k).isSome) = true), storeA E0 s6 33 (.ptr p6 0) (i64 5) = some s7]) := by kernel_rfl
theorem f22_5_F {p3 p4 p5 p6 p7 a11 : Nat} {ln w21a : ByteArray} {st s1 s2 s3 s4 s5 s6 s7 : St} {v27a v36 : AV} {b27b : Bool} {n37 n38 : Int} (h1 : obC 32 [(str ln), (str ⟨#[10]⟩)] st (.tup [(str w21a), FF]) s1) (h2 : loadA E0 s1 52 (.ptr p3 0) = some (.fn (.func 23) [] [])) (h3 : obC 23 [(str w21a)] s1 (.tup [v27a, (bo b27b)]) s2) (h4 : allocA E0 s2 38 = some ((.ptr a11 0), s3)) (h5 : storeA E0 s3 38 (.ptr a11 0) v27a = some s4) (h6 : ∀ k ∈ [p7], k < s4.next) (h7 : loadA E0 s4 40 (.ptr p7 0) = some v36) (h8 : lenA E0 40 v36 = some (i64 n37)) (h9 : binA E0 .add 3 (i64 n37) (i64 1) = some (i64 n38)) (h10 : [p7].all (fun k => (s4.get k).isSome) = true) (h11 : storeA E0 (s4.hide [p7]) 40 (.ptr p4 0) .nils = some s5) (h12 : storeA E0 (s5.show s4 [p7]) 3 (.ptr p5 0) (i64 n38) = some s6) (h13 : storeA E0 s6 33 (.ptr p6 0) (i64 5) = some s7) {T : Tm} {ro : Option Nat} (hT : f22L6 T (.ptr p3 0) (.ptr p4 0) (.ptr p5 0) (.ptr p6 0) (.ptr p7 0) (str ln)) : AWR ro Tryd.prog (f22P 5) (fun ex T' st' => ex = .ret ∧ f22L7 T'  ∧ st' = s7) T st := by
  obtain ⟨hn, g3, g4, g5, g6, g7, g8⟩ := hT
  exact (gen_runR (G := fun T => ([] : List AV)) hE (f22_5_F_e p3 p4 p5 p6 p7 a11 ln w21a st s1 s2 s3 s4 s5 s6 s7 v27a v36 b27b n37 n38) (Ob.ok_cons.2 ⟨h1, (Ob.ok_cons.2 ⟨⟨h2, rfl⟩, (Ob.ok_cons.2 ⟨h3, (Ob.ok_cons.2 ⟨h4, (Ob.ok_cons.2 ⟨h5, (Ob.ok_cons.2 ⟨h6, (Ob.ok_cons.2 ⟨⟨by simp, h7⟩, (Ob.ok_cons.2 ⟨h8, (Ob.ok_cons.2 ⟨h9, (Ob.ok_cons.2 ⟨(fun _ => h10), (Ob.ok_cons.2 ⟨h11, (Ob.ok_cons.2 ⟨(fun h => by cases h), (Ob.ok_cons.2 ⟨h12, (Ob.ok_cons.2 ⟨(fun h => by cases h), (Ob.ok_cons.2 ⟨h13, Ob.ok_nil⟩)⟩)⟩)⟩)⟩)⟩)⟩)⟩)⟩)⟩)⟩)⟩)⟩)⟩)⟩) hn (conz g3 (conz g4 (conz g5 (conz g6 (conz g7 (one g8))))))).mono fun ex T' st' ⟨q1, q2, q3, q4⟩ => by exact ⟨q1, q2, q4⟩
def f22L8 (T : Tm) (a4 a5 a6 a7 : AV) : Prop := T.n = 44 ∧ T.get 4 = a4 ∧ T.get 5 = a5 ∧ T.get 6 = a6 ∧ T.get 7 = a7
theorem f22_6_e (p4 p5 p6 p7 : Nat) (st s1 s2 s3 : St) (v43 : AV) : ((evG Tryd.prog E0 noOv noS 100000 [2043, 5000] (f22P 6) ⟨44, [(4, (.ptr p4 0)), (5, (.ptr p5 0)), (6, (.ptr p6 0)), (7, (.ptr p7 0))], []⟩ st [.eff v43 id, .eff .undef (fun _ => s1), .eff .undef (fun _ => s2), .eff .undef (fun _ => s3)]).map fun q => (q.1, q.2.1.n, ([q.2.1.get 4, q.2.1.get 5, q.2.1.get 6] : List AV), q.2.2.1, q.2.2.2.2)) = some (.ret, 44, [(.ptr p4 0), (.ptr p5 0), (.ptr p6 0)], s3, [loadA E0 st 40 (.ptr p7 0) = some v43 ∧ st = st, storeA E0 st 40 (.ptr p4 0) v43 = some s1, storeA E0 s1 3 (.ptr p5 0) (i64 0) = some s2, storeA E0 s2 33 (.ptr p6 0) (i64 0) = some s3]) := by kernel_rfl
theorem f22_6 {p4 p5 p6 p7 : Nat} {st s1 s2 s3 : St} {v43 : AV} (h1 : loadA E0 st 40 (.ptr p7 0) = some v43) (h2 : storeA E0 st 40 (.ptr p4 0) v43 = some s1) (h3 : storeA E0 s1 3 (.ptr p5 0) (i64 0) = some s2) (h4 : storeA E0 s2 33 (.ptr p6 0) (i64 0) = some s3) {T : Tm} {ro : Option Nat} (hT : f22L8 T (.ptr p4 0) (.ptr p5 0) (.ptr p6 0) (.ptr p7 0)) : AWG ro Tryd.prog (f22P 6) (fun ex T' st' => ex = .ret ∧ f22L2 T' (.ptr p4 0) (.ptr p5 0) (.ptr p6 0) ∧ st' = s3) T st := by
  obtain ⟨hn, g4, g5, g6, g7⟩ := hT
  exact (gen_runG (G := fun T => ([T.get 4, T.get 5, T.get 6] : List AV)) hE (f22_6_e p4 p5 p6 p7 st s1 s2 s3 v43) (Ob.ok_cons.2 ⟨⟨h1, rfl⟩, (Ob.ok_cons.2 ⟨h2, (Ob.ok_cons.2 ⟨h3, (Ob.ok_cons.2 ⟨h4, Ob.ok_nil⟩)⟩)⟩)⟩) hn (conz g4 (conz g5 (conz g6 (one g7))))).mono fun ex T' st' ⟨q1, q2, q3, q4⟩ => by simp only [List.cons.injEq, and_true] at q3; exact ⟨q1, ⟨q2, q3⟩, q4⟩
noncomputable def f46P (i : Nat) : Code := match Tryd.f46.body with
  | some (.block 0 (.loop (.seq x0 (.block 1 (.seq x1 (.seq x2 (.seq x3 x4))))))) => [x0, x1, x2, x3, x4].getD i .skip
  | _ => .skip
theorem f46body : Tryd.f46.body = some (.block 0 (.loop (.seq (f46P 0) (.block 1 (.seq (f46P 1) (.seq (f46P 2) (.seq (f46P 3) (f46P 4)))))))) := by kernel_rfl
def f46L0 (T : Tm) (a0 a1 : AV) : Prop := T.n = 25 ∧ T.get 0 = a0 ∧ T.get 1 = a1
theorem f46_0_T_e (yf : AV) (p : Nat) (st : St) (w5 : ByteArray) (n6 : Int) : ((evS Tryd.prog E0 noOv noS 100000 [2005, 7006, 7007] (f46P 0) ⟨25, [(0, yf), (1, (.ptr p 0))], []⟩ st [.eff (str w5) id, .av (i64 n6), .av TT]).map fun q => (q.1, q.2.1.n, ([q.2.1.get 0, q.2.1.get 1] : List AV), q.2.2.1, q.2.2.2.2)) = some (.normal, 25, [yf, (.ptr p 0)], st, [loadA E0 st 9 (.ptr p 0) = some (str w5) ∧ st = st, lenA E0 9 (str w5) = some (i64 n6), binA E0 .gtr 3 (i64 n6) (i64 0) = some TT]) := by kernel_rfl
theorem f46_0_T {yf : AV} {p : Nat} {st : St} {w5 : ByteArray} {n6 : Int} (h1 : loadA E0 st 9 (.ptr p 0) = some (str w5)) (h2 : lenA E0 9 (str w5) = some (i64 n6)) (h3 : binA E0 .gtr 3 (i64 n6) (i64 0) = some TT) {T : Tm} (hT : f46L0 T yf (.ptr p 0)) : AW Tryd.prog (f46P 0) (fun ex T' st' => ex = .normal ∧ f46L0 T' yf (.ptr p 0) ∧ st' = st) T st := by
  obtain ⟨hn, g0, g1⟩ := hT
  exact (gen_run (G := fun T => ([T.get 0, T.get 1] : List AV)) hE (f46_0_T_e yf p st w5 n6) (Ob.ok_cons.2 ⟨⟨h1, rfl⟩, (Ob.ok_cons.2 ⟨h2, (Ob.ok_cons.2 ⟨h3, Ob.ok_nil⟩)⟩)⟩) hn (conz g0 (one g1))).mono fun ex T' st' ⟨q1, q2, q3, q4⟩ => by simp only [List.cons.injEq, and_true] at q3; exact ⟨q1, ⟨q2, q3⟩, q4⟩
def f46L1 (T : Tm) : Prop := T.n = 25
theorem f46_0_F_e (yf : AV) (p : Nat) (st : St) (w5 : ByteArray) (n6 : Int) : ((evS Tryd.prog E0 noOv noS 100000 [2005, 7006, 7007] (f46P 0) ⟨25, [(0, yf), (1, (.ptr p 0))], []⟩ st [.eff (str w5) id, .av (i64 n6), .av FF]).map fun q => (q.1, q.2.1.n, ([] : List AV), q.2.2.1, q.2.2.2.2)) = some ((.exit 0), 25, [], st, [loadA E0 st 9 (.ptr p 0) = some (str w5) ∧ st = st, lenA E0 9 (str w5) = some (i64 n6), binA E0 .gtr 3 (i64 n6) (i64 0) = some FF]) := by kernel_rfl
theorem f46_0_F {yf : AV} {p : Nat} {st : St} {w5 : ByteArray} {n6 : Int} (h1 : loadA E0 st 9 (.ptr p 0) = some (str w5)) (h2 : lenA E0 9 (str w5) = some (i64 n6)) (h3 : binA E0 .gtr 3 (i64 n6) (i64 0) = some FF) {T : Tm} (hT : f46L0 T yf (.ptr p 0)) : AW Tryd.prog (f46P 0) (fun ex T' st' => ex = (.exit 0) ∧ f46L1 T'  ∧ st' = st) T st := by
  obtain ⟨hn, g0, g1⟩ := hT
  exact (gen_run (G := fun T => ([] : List AV)) hE (f46_0_F_e yf p st w5 n6) (Ob.ok_cons.2 ⟨⟨h1, rfl⟩, (Ob.ok_cons.2 ⟨h2, (Ob.ok_cons.2 ⟨h3, Ob.ok_nil⟩)⟩)⟩) hn (conz g0 (one g1))).mono fun ex T' st' ⟨q1, q2, q3, q4⟩ => by exact ⟨q1, q2, q4⟩
theorem f46_1_e (yf : AV) (p : Nat) (st : St) : ((evS Tryd.prog E0 noOv noS 100000 [] (f46P 1) ⟨25, [(0, yf), (1, (.ptr p 0))], []⟩ st []).map fun q => (q.1, q.2.1.n, ([q.2.1.get 0, q.2.1.get 1] : List AV), q.2.2.1, q.2.2.2.2)) = some (.normal, 25, [yf, (.ptr p 0)], st, []) := by kernel_rfl
theorem f46_1 {yf : AV} {p : Nat} {st : St}  {T : Tm} (hT : f46L0 T yf (.ptr p 0)) : AW Tryd.prog (f46P 1) (fun ex T' st' => ex = .normal ∧ f46L0 T' yf (.ptr p 0) ∧ st' = st) T st := by
  obtain ⟨hn, g0, g1⟩ := hT
  exact (gen_run (G := fun T => ([T.get 0, T.get 1] : List AV)) hE (f46_1_e yf p st) Ob.ok_nil hn (conz g0 (one g1))).mono fun ex T' st' ⟨q1, q2, q3, q4⟩ => by simp only [List.cons.injEq, and_true] at q3; exact ⟨q1, ⟨q2, q3⟩, q4⟩
def f46L2 (T : Tm) (a0 a1 a3 : AV) : Prop := T.n = 25 ∧ T.get 0 = a0 ∧ T.get 1 = a1 ∧ T.get 3 = a3
theorem f46_2_T_e (yf : AV) (p : Nat) (st s1 s2 : St) (w8 w12 w15 w16 w19 : ByteArray) (n9 n14 n18 : Int) : ((evS Tryd.prog E0 noOv noS 100000 [2008, 2020, 5000, 6011, 7011, 7014, 7015, 7018, 7019, 8000] (f46P 2) ⟨25, [(0, yf), (1, (.ptr p 0))], []⟩ st [.eff (str w8) id, .eff (i64 n9) (fun _ => s1), .av TT, .eff (str w12) id, .eff (i64 n14) id, .eff (str w15) id, .eff (str w16) id, .eff (i64 n18) id, .eff (str w19) id, .eff (.tup []) (fun _ => s2)]).map fun q => (q.1, q.2.1.n, ([q.2.1.get 0, q.2.1.get 1, q.2.1.get 3] : List AV), q.2.2.1, q.2.2.2.2)) = some (.normal, 25, [yf, (.ptr p 0), (str w15)], s2, [loadA E0 st 9 (.ptr p 0) = some (str w8) ∧ st = st, obC 11 [(str w8), (u8 10)] st (i64 n9) s1, binA E0 .geq 3 (i64 n9) (i64 0) = some TT, ∀ k ∈ [p, p], k < s1.next, [p, p].contains p = true ∧ loadA E0 s1 9 (.ptr p 0) = some (str w12), binA E0 .add 3 (i64 n9) (i64 1) = some (i64 n14), sliceA E0 s1 9 (str w12) none (some (i64 n14)) none = some (str w15), [p, p].contains p = true ∧ loadA E0 s1 9 (.ptr p 0) = some (str w16), binA E0 .add 3 (i64 n9) (i64 1) = some (i64 n18), sliceA E0 s1 9 (str w16) (some (i64 n18)) none none = some (str w19), (false = true → [p, p].all (fun k => (s1.get k).isSome) = true), storeA E0 s1 9 (.ptr p 0) (str w19) = some s2]) := by kernel_rfl
theorem f46_2_T {yf : AV} {p : Nat} {st s1 s2 : St} {w8 w12 w15 w16 w19 : ByteArray} {n9 n14 n18 : Int} (h1 : loadA E0 st 9 (.ptr p 0) = some (str w8)) (h2 : obC 11 [(str w8), (u8 10)] st (i64 n9) s1) (h3 : binA E0 .geq 3 (i64 n9) (i64 0) = some TT) (h4 : ∀ k ∈ [p, p], k < s1.next) (h5 : loadA E0 s1 9 (.ptr p 0) = some (str w12)) (h6 : binA E0 .add 3 (i64 n9) (i64 1) = some (i64 n14)) (h7 : sliceA E0 s1 9 (str w12) none (some (i64 n14)) none = some (str w15)) (h8 : loadA E0 s1 9 (.ptr p 0) = some (str w16)) (h9 : binA E0 .add 3 (i64 n9) (i64 1) = some (i64 n18)) (h10 : sliceA E0 s1 9 (str w16) (some (i64 n18)) none none = some (str w19)) (h11 : storeA E0 s1 9 (.ptr p 0) (str w19) = some s2) {T : Tm} (hT : f46L0 T yf (.ptr p 0)) : AW Tryd.prog (f46P 2) (fun ex T' st' => ex = .normal ∧ f46L2 T' yf (.ptr p 0) (str w15) ∧ st' = s2) T st := by
  obtain ⟨hn, g0, g1⟩ := hT
  exact (gen_run (G := fun T => ([T.get 0, T.get 1, T.get 3] : List AV)) hE (f46_2_T_e yf p st s1 s2 w8 w12 w15 w16 w19 n9 n14 n18) (Ob.ok_cons.2 ⟨⟨h1, rfl⟩, (Ob.ok_cons.2 ⟨h2, (Ob.ok_cons.2 ⟨h3, (Ob.ok_cons.2 ⟨h4, (Ob.ok_cons.2 ⟨⟨by simp, h5⟩, (Ob.ok_cons.2 ⟨h6, (Ob.ok_cons.2 ⟨h7, (Ob.ok_cons.2 ⟨⟨by simp, h8⟩, (Ob.ok_cons.2 ⟨h9, (Ob.ok_cons.2 ⟨h10, (Ob.ok_cons.2 ⟨(fun h => by cases h), (Ob.ok_cons.2 ⟨h11, Ob.ok_nil⟩)⟩)⟩)⟩)⟩)⟩)⟩)⟩)⟩)⟩)⟩)⟩) hn (conz g0 (one g1))).mono fun ex T' st' ⟨q1, q2, q3, q4⟩ => by simp only [List.cons.injEq, and_true] at q3; exact ⟨q1, ⟨q2, q3⟩, q4⟩
theorem f46_2_F_e (yf : AV) (p : Nat) (st s1 s2 : St) (w8 w20 : ByteArray) (n9 : Int) : ((evS Tryd.prog E0 noOv noS 100000 [2008, 2020, 5000, 6011, 7011, 7014, 7015, 7018, 7019, 8000] (f46P 2) ⟨25, [(0, yf), (1, (.ptr p 0))], []⟩ st [.eff (str w8) id, .eff (i64 n9) (fun _ => s1), .av FF, .eff (str w20) id, .eff .undef (fun _ => s2)]).map fun q => (q.1, q.2.1.n, ([q.2.1.get 0, q.2.1.get 1, q.2.1.get 3] : List AV), q.2.2.1, q.2.2.2.2)) = some (.normal, 25, [yf, (.ptr p 0), (str w20)], s2, [loadA E0 st 9 (.ptr p 0) = some (str w8) ∧ st = st, obC 11 [(str w8), (u8 10)] st (i64 n9) s1, binA E0 .geq 3 (i64 n9) (i64 0) = some FF, loadA E0 s1 9 (.ptr p 0) = some (str w20) ∧ s1 = s1, storeA E0 s1 9 (.ptr p 0) (str ⟨#[]⟩) = some s2]) := by kernel_rfl
theorem f46_2_F {yf : AV} {p : Nat} {st s1 s2 : St} {w8 w20 : ByteArray} {n9 : Int} (h1 : loadA E0 st 9 (.ptr p 0) = some (str w8)) (h2 : obC 11 [(str w8), (u8 10)] st (i64 n9) s1) (h3 : binA E0 .geq 3 (i64 n9) (i64 0) = some FF) (h4 : loadA E0 s1 9 (.ptr p 0) = some (str w20)) (h5 : storeA E0 s1 9 (.ptr p 0) (str ⟨#[]⟩) = some s2) {T : Tm} (hT : f46L0 T yf (.ptr p 0)) : AW Tryd.prog (f46P 2) (fun ex T' st' => ex = .normal ∧ f46L2 T' yf (.ptr p 0) (str w20) ∧ st' = s2) T st := by
  obtain ⟨hn, g0, g1⟩ := hT
  exact (gen_run (G := fun T => ([T.get 0, T.get 1, T.get 3] : List AV)) hE (f46_2_F_e yf p st s1 s2 w8 w20 n9) (Ob.ok_cons.2 ⟨⟨h1, rfl⟩, (Ob.ok_cons.2 ⟨h2, (Ob.ok_cons.2 ⟨h3, (Ob.ok_cons.2 ⟨⟨h4, rfl⟩, (Ob.ok_cons.2 ⟨h5, Ob.ok_nil⟩)⟩)⟩)⟩)⟩) hn (conz g0 (one g1))).mono fun ex T' st' ⟨q1, q2, q3, q4⟩ => by simp only [List.cons.injEq, and_true] at q3; exact ⟨q1, ⟨q2, q3⟩, q4⟩
def f46L3 (T : Tm) (a0 a1 a24 : AV) : Prop := T.n = 25 ∧ T.get 0 = a0 ∧ T.get 1 = a1 ∧ T.get 24 = a24
theorem f46_4_T_e (yf : AV) (p : Nat) (st : St) : ((evS Tryd.prog E0 noOv noS 100000 [] (f46P 4) ⟨25, [(0, yf), (1, (.ptr p 0)), (24, TT)], []⟩ st []).map fun q => (q.1, q.2.1.n, ([] : List AV), q.2.2.1, q.2.2.2.2)) = some (.ret, 25, [], st, []) := by kernel_rfl
theorem f46_4_T {yf : AV} {p : Nat} {st : St}  {T : Tm} (hT : f46L3 T yf (.ptr p 0) TT) : AW Tryd.prog (f46P 4) (fun ex T' st' => ex = .ret ∧ f46L1 T'  ∧ st' = st) T st := by
  obtain ⟨hn, g0, g1, g24⟩ := hT
  exact (gen_run (G := fun T => ([] : List AV)) hE (f46_4_T_e yf p st) Ob.ok_nil hn (conz g0 (conz g1 (one g24)))).mono fun ex T' st' ⟨q1, q2, q3, q4⟩ => by exact ⟨q1, q2, q4⟩
theorem f46_4_F_e (yf : AV) (p : Nat) (st : St) : ((evS Tryd.prog E0 noOv noS 100000 [] (f46P 4) ⟨25, [(0, yf), (1, (.ptr p 0)), (24, FF)], []⟩ st []).map fun q => (q.1, q.2.1.n, ([q.2.1.get 0, q.2.1.get 1] : List AV), q.2.2.1, q.2.2.2.2)) = some (.normal, 25, [yf, (.ptr p 0)], st, []) := by kernel_rfl
theorem f46_4_F {yf : AV} {p : Nat} {st : St}  {T : Tm} (hT : f46L3 T yf (.ptr p 0) FF) : AW Tryd.prog (f46P 4) (fun ex T' st' => ex = .normal ∧ f46L0 T' yf (.ptr p 0) ∧ st' = st) T st := by
  obtain ⟨hn, g0, g1, g24⟩ := hT
  exact (gen_run (G := fun T => ([T.get 0, T.get 1] : List AV)) hE (f46_4_F_e yf p st) Ob.ok_nil hn (conz g0 (conz g1 (one g24)))).mono fun ex T' st' ⟨q1, q2, q3, q4⟩ => by simp only [List.cons.injEq, and_true] at q3; exact ⟨q1, ⟨q2, q3⟩, q4⟩
end
section
set_option maxRecDepth 100000
/-! ### strings.Lines: the iterator -/
theorem AWY.temps {y : YK} {P : Program} {b : Option Code} {c : Code} {Q : Option Code → Exit → Tm → St → Prop} {T0 T : Tm} {st : St} (h : AWY y P b c Q T0 st) (hn : T.n = T0.n) (hT : ∀ t, T0.get t = .undef ∨ T.get t = T0.get t) (hgl : T0.gl = []) : AWY y P b c Q T st :=
  fun g0 st0 w0 g w a hs hl hg hr hTR => h g0 st0 w0 g w a hs hl hg hr (hTR.temps hn hT hgl)
noncomputable def ops6 : Array Oper := match f46P 3 with | .region _ ops _ => ops | _ => #[]
noncomputable def op6 (i : Nat) : Oper := ops6.toList.getD i default
noncomputable def ts6 : Array TypeId := match (op6 2).op with | .call ⟨_, _, ts⟩ => ts | _ => #[]
theorem f46P3 : f46P 3 = .region 6 ops6 false := by kernel_rfl
theorem ops6_eq : ops6.toList = [op6 0, op6 1] ++ op6 2 :: [op6 3] := by kernel_rfl
theorem op6_2 : (op6 2).op = .call ⟨.value (.tmp 21), #[.tmp 22], ts6⟩ := by kernel_rfl
theorem op6_g : (op6 2).guard = none := by kernel_rfl
theorem op6_d : (op6 2).dst = some 23 := by kernel_rfl
def T6 (yf pa ln : AV) : Tm := ⟨25, [(0, yf), (1, pa), (3, ln)], []⟩
theorem pre6 (yf pa ln : AV) (st : St) : evOpsS Tryd.prog E0 noOv noS 1000 [] ops6 [op6 0, op6 1] (T6 yf pa ln) st [] = some (((T6 yf pa ln).put (some 21) yf).put (some 22) ln, st, [], []) := by kernel_rfl
theorem post6T (yf pa ln : AV) (st : St) : evOpsS Tryd.prog E0 noOv noS 1000 [] ops6 [op6 3] ((((T6 yf pa ln).put (some 21) yf).put (some 22) ln).put (some 23) TT) st [] = some (((((T6 yf pa ln).put (some 21) yf).put (some 22) ln).put (some 23) TT).put (some 24) FF, st, [], []) := by kernel_rfl
theorem post6F (yf pa ln : AV) (st : St) : evOpsS Tryd.prog E0 noOv noS 1000 [] ops6 [op6 3] ((((T6 yf pa ln).put (some 21) yf).put (some 22) ln).put (some 23) FF) st [] = some (((((T6 yf pa ln).put (some 21) yf).put (some 22) ln).put (some 23) FF).put (some 24) TT, st, [], []) := by kernel_rfl
theorem yield6 {y : YK} {T0 T : Tm} {st : St} {p : Nat} {ln : ByteArray} {K : Option Code → St → Prop} (hT : f46L2 T (.fn (.yield y.l) [] []) (.ptr p 0) (str ln)) (hT0 : TR y.gE T0 ⟨y.tmps, []⟩) (hR : RoundA Tryd.prog y.p y.assign y.body T0 (str ln) st K) :
    AWY y Tryd.prog none (f46P 3) (fun b ex T' z => ex = .normal ∧ f46L3 T' (.fn (.yield y.l) [] []) (.ptr p 0) (bo b.isSome) ∧ K b z) T st := by
  rw [f46P3]
  obtain ⟨hn, h0, h1, h3⟩ := hT
  refine AWY.temps (T0 := T6 (.fn (.yield y.l) [] []) (.ptr p 0) (str ln)) ?_ hn (fun t => look_or T _ (fun q hq => ?_) t) rfl
  · refine AWY.yield hE ops6_eq op6_2 op6_g hT0 ?_
    refine AOps.mono ?_ _ ((evS_ok hE noOv_ok 1000).ops _ _ _ _ _ _ _ _ _ _ (pre6 _ _ _ _) Ob.ok_nil)
    rintro e T1 z ⟨rfl, rfl, rfl⟩
    refine ⟨rfl, by rw [op6_d]; rfl, K, hR, fun b st2 hK => ?_⟩
    rw [op6_d]
    cases b with
    | none =>
      refine AOps.mono ?_ _ ((evS_ok hE noOv_ok 1000).ops _ _ _ _ _ _ _ _ _ _ (post6T _ _ _ _) Ob.ok_nil)
      rintro e T2 z2 ⟨rfl, rfl, rfl⟩
      exact ⟨rfl, ⟨rfl, rfl, rfl, rfl⟩, hK⟩
    | some c =>
      refine AOps.mono ?_ _ ((evS_ok hE noOv_ok 1000).ops _ _ _ _ _ _ _ _ _ _ (post6F _ _ _ _) Ob.ok_nil)
      rintro e T2 z2 ⟨rfl, rfl, rfl⟩
      exact ⟨rfl, ⟨rfl, rfl, rfl, rfl⟩, hK⟩
  · simp only [T6, List.mem_cons, List.mem_nil_iff, or_false] at hq
    rcases hq with rfl | rfl | rfl
    · exact h0
    · exact h1
    · exact h3
/-! the loop, turn by turn -/
def LoopY (y : YK) (P : Program) (c : Code) (Q : Option Code → Exit → Tm → St → Prop) : Nat → Option Code → Tm → St → Prop
  | 0 => fun _ _ _ => False
  | k + 1 => fun b T st => AWY y P b c (fun b' => thenA (fun T st => LoopY y P c Q k b' T st) (Q b')) T st
theorem AWY.loopY {y : YK} {P : Program} {c : Code} {Q : Option Code → Exit → Tm → St → Prop} {k : Nat} {b : Option Code} {T : Tm} {st : St} (h : LoopY y P c Q k b T st) : AWY y P b (.loop c) Q T st := by
  refine AWY.loop (LoopY y P c Q) k h fun n b T st hI => ?_
  cases n with
  | zero => exact hI.elim
  | succ m =>
    refine AWY.mono hI fun b' ex T' st' hq => ?_
    cases ex with
    | normal => exact ⟨m, Nat.lt_succ_self m, hq⟩
    | _ => exact hq
/-- the first line, and whether it is ended; the rest -/
def lineOf (s : List UInt8) : List UInt8 × Bool × List UInt8 := if 10 ∈ s then (s.takeWhile (· ≠ 10), true, (s.dropWhile (· ≠ 10)).drop 1) else (s, false, [])
/-- the line as the iterator gives it -/
def lineB (s : List UInt8) : List UInt8 := if 10 ∈ s then s.takeWhile (· ≠ 10) ++ [10] else s
theorem ib_ten : ∀ s : List UInt8, Lib.indexByte s 10 = if 10 ∈ s then ((s.takeWhile (· ≠ 10)).length : Int) else -1
  | [] => rfl
  | c :: r => by
    unfold Lib.indexByte
    by_cases hc : c = 10
    · subst hc
      simp
    · have h1 : (c == 10) = false := by simpa using hc
      rw [h1, ib_ten r]
      have h2 : (10 ∈ c :: r) ↔ 10 ∈ r := by rw [List.mem_cons]; exact ⟨fun e => e.resolve_left (fun q => hc q.symm), .inr⟩
      by_cases hr : 10 ∈ r
      · rw [if_pos hr, if_pos (h2.2 hr)]
        simp [hc]
      · rw [if_neg hr, if_neg (fun e => hr (h2.1 e))]
        simp
theorem split_ten {s : List UInt8} (h : 10 ∈ s) : s = s.takeWhile (· ≠ 10) ++ 10 :: (s.dropWhile (· ≠ 10)).drop 1 := by
  induction s with
  | nil => cases h
  | cons c r ih =>
    by_cases hc : c = 10
    · subst hc; simp
    · have hr : 10 ∈ r := (List.mem_cons.1 h).resolve_left (fun q => hc q.symm)
      have := ih hr
      simp [hc]
      simpa using this
/-- the way to yield: the cell is cut -/
theorem lines_cut {σ : St} {p : Nat} {s : List UInt8} (hp : σ.get p = some (.row [sb s] 9)) (hw : σ.wf) (hl : p ∉ σ.lock) (hs : s ≠ []) (hb : s.length ≤ 2000000000) {yf : AV} {T : Tm} (hT : f46L0 T yf (.ptr p 0)) :
    AW Tryd.prog (f46P 2) (fun ex T' z => ex = .normal ∧ f46L2 T' yf (.ptr p 0) (sb (lineB s)) ∧ z = σ.set p (.row [sb (lineOf s).2.2] 9)) T σ := by
  have t9 : (E0.ty 9).map (fun i => isAggD i.desc) = some false := by rw [ty9]; rfl
  have ld : loadA E0 σ 9 (.ptr p 0) = some (sb s) := by simp only [loadA, hp]; exact plainT t9 rfl
  have hsz : tySize E0 9 = some 1 := by kernel_rfl
  have sto : ∀ w : ByteArray, storeA E0 σ 9 (.ptr p 0) (str w) = some (σ.set p (.row [str w] 9)) := fun w => by
    show (match σ.wget p with | some (.row vs ty) => if tySize E0 9 = some 1 ∧ 0 + 1 ≤ vs.length then some (σ.set p (.row (vs.take 0 ++ [str w] ++ vs.drop (0 + 1)) ty)) else none | _ => none) = _
    rw [St.wget_of hp hl]
    simp only [hsz]
    rfl
  have hib : obC 11 [sb s, u8 10] σ (i64 (Lib.indexByte s 10)) σ := f11 (ib_ok ⟨s.toArray⟩ 10 σ)
  have q1 := hT
  by_cases h10 : 10 ∈ s
  · have e : s = s.takeWhile (· ≠ 10) ++ 10 :: (s.dropWhile (· ≠ 10)).drop 1 := split_ten h10
    rw [ib_ten, if_pos h10] at hib
    generalize hu : s.takeWhile (· ≠ 10) = u at hib e
    generalize hv : (s.dropWhile (· ≠ 10)).drop 1 = v at e
    have hlen : s.length = u.length + 1 + v.length := by rw [e]; simp; omega
    have a1 : binA E0 .add 3 (i64 u.length) (i64 1) = some (i64 ((u.length + 1 : Nat) : Int)) := add3 (a := u.length) (b := 1) (by omega)
    have eB : lineB s = s.take (u.length + 1) := by
      unfold lineB; rw [if_pos h10, hu]
      rw [e]
      rw [show u ++ 10 :: v = (u ++ [10]) ++ v by simp, List.take_left' (by simp)]
    have eR : (lineOf s).2.2 = s.drop (u.length + 1) := by
      unfold lineOf; rw [if_pos h10]
      show (s.dropWhile (· ≠ 10)).drop 1 = _
      rw [hv, e, show u ++ 10 :: v = (u ++ [10]) ++ v by simp, List.drop_left' (by simp)]
    rw [eB, eR]
    have hlt : p < σ.next := hw _ _ hp
    exact f46_2_T ld hib (geqT (by omega)) (fun k hk => by simp at hk; omega) ld a1 (slice_hi σ (by omega)) ld a1 (slice_lo σ (by omega)) (sto _) q1
  · rw [ib_ten, if_neg h10] at hib
    have eB : lineB s = s := by unfold lineB; rw [if_neg h10]
    have eR : (lineOf s).2.2 = [] := by unfold lineOf; rw [if_neg h10]
    rw [eB, eR]
    exact f46_2_F ld hib (geqF (by decide)) ld (sto _) q1
end
section
set_option maxRecDepth 8000
/-! ### cells -/
theorem ld1 {t a : Nat} {v : AV} {st : St} {t' : Nat} (ht : (E0.ty t).map (fun i => isAggD i.desc) = some false) (h : st.get a = some (.row [v] t')) : loadA E0 st t (.ptr a 0) = some v := by
  simp only [loadA, h]; exact plainT ht rfl
theorem sto1 {t a : Nat} {v w : AV} {st : St} {t' : Nat} (hsz : tySize E0 t = some 1) (h : st.get a = some (.row [v] t')) (hl : a ∉ st.lock) (hw : avCells w = some [w]) : storeA E0 st t (.ptr a 0) w = some (st.set a (.row [w] t')) := by
  unfold storeA
  simp only [hw, St.wget_of h hl]
  rw [if_pos ⟨hsz, by simp⟩]
  rfl
theorem k9 : (E0.ty 9).map (fun i => isAggD i.desc) = some false := by kernel_rfl
theorem k40 : (E0.ty 40).map (fun i => isAggD i.desc) = some false := by kernel_rfl
theorem k3 : (E0.ty 3).map (fun i => isAggD i.desc) = some false := by kernel_rfl
theorem k33 : (E0.ty 33).map (fun i => isAggD i.desc) = some false := by kernel_rfl
theorem k52 : (E0.ty 52).map (fun i => isAggD i.desc) = some false := by kernel_rfl
theorem z9 : tySize E0 9 = some 1 := by kernel_rfl
theorem z40 : tySize E0 40 = some 1 := by kernel_rfl
theorem z3 : tySize E0 3 = some 1 := by kernel_rfl
theorem z33 : tySize E0 33 = some 1 := by kernel_rfl
theorem z38 : tySize E0 38 = some 5 := by kernel_rfl
theorem g38 : ∃ i, E0.ty 38 = some i ∧ isAggD i.desc = true ∧ i.size = 5 := by
  have h : (E0.ty 38).map (fun i => (isAggD i.desc, i.size)) = some (true, 5) := by kernel_rfl
  obtain ⟨i, h1, h2⟩ := Option.map_eq_some_iff.1 h
  simp only [Prod.mk.injEq] at h2
  exact ⟨i, h1, h2.1, h2.2⟩
theorem el40 : ElT 40 38 5 := ⟨elT_of (by kernel_rfl), by kernel_rfl, fun st x => by
  have : (E0.ty 40).map (·.desc) = some (.slice 38) := by kernel_rfl
  obtain ⟨i, h1, h2⟩ := Option.map_eq_some_iff.1 this
  simp only [srcA, h1, h2], fun a b c n f => by
  have : (E0.ty 40).map (·.desc) = some (.slice 38) := by kernel_rfl
  obtain ⟨i, h1, h2⟩ := Option.map_eq_some_iff.1 this
  simp only [lenA, h1, h2], by kernel_rfl⟩
theorem al38 (st : St) : allocA E0 st 38 = some (.ptr st.next 0, st.push (.row [i64 0, i64 0, i64 0, .nils, .nils] 38)) := by kernel_rfl
theorem bs40 (st : St) (a b c d e : AV) : buildSliceA E0 st 40 1 [(0, .agg [a, b, c, d, e])] = some (.sl st.next 5 0 1 true, st.push (.row [a, b, c, d, e] 38)) := by kernel_rfl
theorem ld38 {st : St} {a : Nat} {cs : List AV} (h : st.get a = some (.row cs 38)) (hc : cs.length = 5) : loadA E0 st 38 (.ptr a 0) = some (.agg cs) := by
  obtain ⟨i, h1, h2, h3⟩ := g38
  simp only [loadA, h, partA, h1, h2, if_true, h3]
  rw [if_pos (by omega), List.drop_zero, List.take_of_length_le (by omega)]
theorem st38 {st : St} {a : Nat} {vs cs : List AV} (h : st.get a = some (.row vs 38)) (hv : vs.length = 5) (hc : cs.length = 5) (hl : a ∉ st.lock) : storeA E0 st 38 (.ptr a 0) (.agg cs) = some (st.set a (.row cs 38)) := by
  unfold storeA
  simp only [avCells, St.wget_of h hl]
  rw [if_pos ⟨by rw [z38, hc], by omega⟩]
  rw [List.take_zero, List.nil_append, Nat.zero_add, List.drop_eq_nil_of_le (by omega), List.append_nil]
theorem cutsuf_ok (st : St) (s : List UInt8) (h0 : s ≠ []) (hb : s.length ≤ 9000000000000000000) : obC 32 [sb s, str ⟨#[10]⟩] st (if s.drop (s.length - 1) = [10] then .tup [sb (s.take (s.length - 1)), TT] else .tup [sb s, FF]) st := by
  have hpos : 0 < s.length := List.length_pos_iff.2 h0
  have hl10 : lenA E0 9 (str ⟨#[10]⟩) = some (i64 1) := len_sb [10]
  have hsub : binA E0 .sub 3 (i64 s.length) (i64 1) = some (i64 ((s.length - 1 : Nat) : Int)) := sub3 (a := s.length) (b := 1) (by omega) hb
  have hge : binA E0 .geq 3 (i64 s.length) (i64 1) = some TT := geqT (by omega)
  by_cases h : s.drop (s.length - 1) = [10]
  · rw [if_pos h]
    have h57 : obC 57 [sb s, str ⟨#[10]⟩] st TT st := f57_TT (len_sb s) hl10 hge (len_sb s) hl10 hsub (slice_lo st (by omega)) (eq_sbT h)
    have h47 := f47_T h57 (len_sb s) hl10 hsub (slice_hi st (l := s) (k := s.length - 1) (by omega))
    exact f32 (b8b := true) h47
  · rw [if_neg h]
    have h57 : obC 57 [sb s, str ⟨#[10]⟩] st FF st := f57_TF (len_sb s) hl10 hge (len_sb s) hl10 hsub (slice_lo st (by omega)) (eq_sbF h)
    exact f32 (b8b := false) (f47_F h57)
theorem line_cut (st : St) {s : List UInt8} (h0 : s ≠ []) (hb : s.length ≤ 2000000000) : obC 32 [sb (lineB s), str ⟨#[10]⟩] st (.tup [sb (lineOf s).1, bo (lineOf s).2.1]) st := by
  by_cases h10 : 10 ∈ s
  · have e1 : lineB s = s.takeWhile (· ≠ 10) ++ [10] := by unfold lineB; rw [if_pos h10]
    have e2 : lineOf s = (s.takeWhile (· ≠ 10), true, (s.dropWhile (· ≠ 10)).drop 1) := by unfold lineOf; rw [if_pos h10]
    have hle : (s.takeWhile (· ≠ 10)).length ≤ s.length := (List.takeWhile_prefix _).length_le
    have := cutsuf_ok st (s.takeWhile (· ≠ 10) ++ [10]) (by simp) (by simp only [List.length_append, List.length_singleton]; omega)
    rw [if_pos (by simp)] at this
    have e3 : (s.takeWhile (· ≠ 10) ++ [10]).take ((s.takeWhile (· ≠ 10) ++ [10]).length - 1) = s.takeWhile (· ≠ 10) := by simp
    rw [e3] at this
    rw [e1, e2]
    exact this
  · have e1 : lineB s = s := by unfold lineB; rw [if_neg h10]
    have e2 : lineOf s = (s, false, []) := by unfold lineOf; rw [if_neg h10]
    have := cutsuf_ok st s h0 (by omega)
    rw [if_neg (fun e => h10 (List.mem_of_mem_drop (by rw [e]; simp)))] at this
    rw [e1, e2]
    exact this
/-! ### one round -/
structure Ce where
  p3 : Nat
  p4 : Nat
  p5 : Nat
  p6 : Nat
  p7 : Nat
structure PJ (st0 st : St) (c : Ce) (p : Nat) (s : List UInt8) (L : AV) (n : Nat) (cells : List AV) : Prop where
  rest : Rest st0 st []
  r3 : st.get c.p3 = some (.row [.fn (.func 23) [] []] 52)
  r4 : ∃ v, st.get c.p4 = some (.row [v] 40)
  r5 : ∃ v, st.get c.p5 = some (.row [v] 3)
  r6 : ∃ v, st.get c.p6 = some (.row [v] 33)
  r7 : st.get c.p7 = some (.row [L] 40)
  rp : st.get p = some (.row [sb s] 9)
  ls : Ls st 38 5 L n cells
  n4 : st0.next ≤ c.p4
  n5 : st0.next ≤ c.p5
  n6 : st0.next ≤ c.p6
  n7 : st0.next ≤ c.p7
  np : st0.next ≤ p
  fr : ∀ j ∈ fid L, st0.next ≤ j
  ne : c.p4 ≠ c.p7
/-- rows of bytes and of small numbers stay -/
def Keep5 (s s' : St) : Prop := ∀ i vs ty, (ty = 5 ∨ ty = 39) → s.get i = some (.row vs ty) → s'.get i = some (.row vs ty)
theorem Keep5.rest {s s' : St} (h : Rest s s' []) : Keep5 s s' := fun i vs ty _ hg => h.keep i _ (by simp) hg
theorem Keep5.trans {a b c : St} (h : Keep5 a b) (k : Keep5 b c) : Keep5 a c := fun i vs ty ht hg => k i vs ty ht (h i vs ty ht hg)
theorem Keep5.set {s : St} {a : Nat} {vs : List AV} {ty : Nat} (h : s.get a = some (.row vs ty)) (ht : ty ≠ 5 ∧ ty ≠ 39) (o : AObj) : Keep5 s (s.set a o) := fun i vs' ty' ht' hg => by
  rw [St.get_set, if_neg]
  · exact hg
  · rintro rfl
    rw [h] at hg
    simp only [Option.some.injEq, AObj.row.injEq] at hg
    rcases ht' with e | e
    · exact ht.1 (hg.2.trans e)
    · exact ht.2 (hg.2.trans e)
theorem Keep5.restS {s s' : St} {S : List Nat} (h : Rest s s' S) (hS : ∀ i ∈ S, ∃ vs ty, s.get i = some (.row vs ty) ∧ ty ≠ 5 ∧ ty ≠ 39) : Keep5 s s' := fun i vs ty ht hg => h.keep i _ (fun hi => by
  obtain ⟨vs', ty', h1, h2⟩ := hS i hi
  rw [hg] at h1
  simp only [Option.some.injEq, AObj.row.injEq] at h1
  rcases ht with e | e
  · exact h2.1 (h1.2.symm.trans e)
  · exact h2.2 (h1.2.symm.trans e)) hg
theorem row_ne {st : St} {a b : Nat} {v w : List AV} {t u : Nat} (h1 : st.get a = some (.row v t)) (h2 : st.get b = some (.row w u)) (h : t ≠ u) : a ≠ b := fun e => by
  rw [e, h2] at h1
  simp only [Option.some.injEq, AObj.row.injEq] at h1
  exact h h1.2.symm
theorem Ls.ne {st : St} {e sz n : Nat} {l : AV} {cells : List AV} (h : Ls st e sz l n cells) {a : Nat} {v : List AV} {t : Nat} (ha : st.get a = some (.row v t)) (ht : t ≠ e) : a ∉ fid l := fun hm => by
  rcases h with ⟨_, _, rfl⟩ | ⟨_, id, f, rfl, hg⟩
  · cases hm
  · simp only [fid, List.mem_singleton] at hm
    subst hm
    exact row_ne ha hg ht rfl
theorem PJ.keep {st0 st st' : St} {c : Ce} {p : Nat} {s : List UInt8} {L : AV} {n : Nat} {cells : List AV} (h : PJ st0 st c p s L n cells) (hr : Rest st st' []) (hw0 : st0.wf) : PJ st0 st' c p s L n cells := by
  have k : ∀ {i o}, st.get i = some o → st'.get i = some o := fun {i o} hg => hr.keep i o (by simp) hg
  obtain ⟨v4, h4⟩ := h.r4
  obtain ⟨v5, h5⟩ := h.r5
  obtain ⟨v6, h6⟩ := h.r6
  exact ⟨h.rest.trans hr, k h.r3, ⟨v4, k h4⟩, ⟨v5, k h5⟩, ⟨v6, k h6⟩, k h.r7, k h.rp, h.ls.rest hr (fun i _ => by simp), h.n4, h.n5, h.n6, h.n7, h.np, h.fr, h.ne⟩
/-- what an event's reading comes to -/
def EvC (st0 : St) (V : List UInt8 → List AV → St → Prop) (ev : List UInt8 → Bool) (b : List UInt8) : Prop :=
  ∀ σ, Rest st0 σ [] → ∃ x1 x2 x3 x4 x5 s', obC 23 [sb b] σ (.tup [.agg [x1, x2, x3, x4, x5], bo (ev b)]) s' ∧ Rest σ s' [] ∧ (ev b = true → V b [x1, x2, x3, x4, x5] s')
theorem round_ok {st0 σ : St} {c : Ce} {p : Nat} {s0 s : List UInt8} {L : AV} {n : Nat} {cells : List AV} {V : List UInt8 → List AV → St → Prop} {ev : List UInt8 → Bool} (hw0 : st0.wf) (hl0 : st0.lock = []) (hJ : PJ st0 σ c p s L n cells) (h0 : s0 ≠ []) (hb : s0.length ≤ 2000000000) (hn : n ≤ 2000000000) (hev : EvC st0 V ev (lineOf s0).1) :
    ∃ bb z, (∀ (T0 : Tm) (yf : AV), f22L4 T0 (.ptr c.p3 0) (.ptr c.p4 0) (.ptr c.p5 0) (.ptr c.p6 0) (.ptr c.p7 0) yf → RoundA Tryd.prog 18 (f22P 4) (f22P 5) T0 (sb (lineB s0)) σ (fun b st2 => b = bb ∧ st2 = z)) ∧
      ((bb = none ∧ (lineOf s0).2.1 = true ∧ ev (lineOf s0).1 = true ∧ ∃ L' cs, PJ st0 z c p s L' (n + 1) (cells ++ cs) ∧ cs.length = 5 ∧ (∀ V' : St → Prop, (∀ a b, V' a → Keep5 a b → V' b) → V' σ → V' z) ∧ ∃ s', V (lineOf s0).1 cs s' ∧ Keep5 s' z) ∨
       (bb = some .ret ∧ ¬((lineOf s0).2.1 = true ∧ ev (lineOf s0).1 = true) ∧ Rest st0 z [] ∧ z.get c.p4 = some (.row [.nils] 40) ∧ z.get c.p5 = some (.row [i64 ((n + 1 : Nat) : Int)] 3) ∧ z.get c.p6 = some (.row [i64 5] 33))) := by
  have hlk : σ.lock = [] := hJ.rest.lock.trans hl0
  have hcut := line_cut σ h0 hb
  obtain ⟨x1, x2, x3, x4, x5, s2, e1, e2, e3⟩ := hev σ hJ.rest
  have hJ2 := hJ.keep e2 hw0
  have hw2 := e2.wf
  have hl2 : s2.lock = [] := e2.lock.trans hlk
  have hr3 := Rest.push hw2 (.row [i64 0, i64 0, i64 0, .nils, .nils] 38) []
  have hr4 := Rest.set (st := s2.push (.row [i64 0, i64 0, i64 0, .nils, .nils] 38)) hr3.wf (id := s2.next) (by simp) (.row [x1, x2, x3, x4, x5] 38) (S := [s2.next]) (by simp)
  have hr24 : Rest s2 ((s2.push (.row [i64 0, i64 0, i64 0, .nils, .nils] 38)).set s2.next (.row [x1, x2, x3, x4, x5] 38)) [] := hr3.fresh hr4 hw2 (by simp)
  have hst4 : storeA E0 (s2.push (.row [i64 0, i64 0, i64 0, .nils, .nils] 38)) 38 (.ptr s2.next 0) (.agg [x1, x2, x3, x4, x5]) = some ((s2.push (.row [i64 0, i64 0, i64 0, .nils, .nils] 38)).set s2.next (.row [x1, x2, x3, x4, x5] 38)) :=
    st38 (vs := [i64 0, i64 0, i64 0, .nils, .nils]) (by rw [St.get_push, if_pos rfl]) rfl rfl (by rw [St.lock_push, hl2]; simp)
  have hg4 : ((s2.push (.row [i64 0, i64 0, i64 0, .nils, .nils] 38)).set s2.next (.row [x1, x2, x3, x4, x5] 38)).get s2.next = some (.row [x1, x2, x3, x4, x5] 38) := by rw [St.get_set, if_pos rfl]
  generalize hs4 : (s2.push (.row [i64 0, i64 0, i64 0, .nils, .nils] 38)).set s2.next (.row [x1, x2, x3, x4, x5] 38) = s4 at hr4 hr24 hst4 hg4
  have hJ4 := hJ2.keep hr24 hw0
  have hw4 := hr24.wf
  have hl4 : s4.lock = [] := hr24.lock.trans hl2
  have hn4 : s4.next = s2.next + 1 := by rw [← hs4]; rfl
  have hlen : lenA E0 40 L = some (i64 n) := hJ4.ls.len el40
  have hT5 : ∀ (T0 : Tm) (yf : AV), f22L4 T0 (.ptr c.p3 0) (.ptr c.p4 0) (.ptr c.p5 0) (.ptr c.p6 0) (.ptr c.p7 0) yf → ∀ (x : ByteArray), f22L5 (T0.put (some 18) (str x)) (.ptr c.p3 0) (.ptr c.p4 0) (.ptr c.p5 0) (.ptr c.p6 0) (.ptr c.p7 0) (str x) := fun T0 yf hT0 x => by
    obtain ⟨q0, q3, q4, q5, q6, q7, _⟩ := hT0
    exact ⟨q0, q3, q4, q5, q6, q7, rfl⟩
  have hfit : ∀ (T0 : Tm) (yf : AV), f22L4 T0 (.ptr c.p3 0) (.ptr c.p4 0) (.ptr c.p5 0) (.ptr c.p6 0) (.ptr c.p7 0) yf → T0.fits (some 18) = true := fun T0 yf hT0 => by
    have := hT0.1
    simp [Tm.fits, this]
  by_cases hok : (lineOf s0).2.1 = true ∧ ev (lineOf s0).1 = true
  · obtain ⟨k1, k2⟩ := hok
    rw [k1] at hcut
    rw [k2] at e1
    have hr5 := Rest.push hw4 (.row [x1, x2, x3, x4, x5] 38) []
    have hls5 := hJ4.ls.rest hr5 (fun i _ => by simp)
    have hx : sliceCells (s4.push (.row [x1, x2, x3, x4, x5] 38)) (.sl s4.next 5 0 1 true) = some (1, [x1, x2, x3, x4, x5]) := by
      simp only [sliceCells, St.get_push, if_true]
      rfl
    obtain ⟨s6, a1, a2, a3, a4⟩ := app_gen el40 hls5 hr5.wf (fun i _ => by rw [hr5.lock, hl4]; simp) (by omega) rfl (by decide) hx
    have hJ5 := hJ4.keep hr5 hw0
    have hne7 : c.p7 ∉ fid L := hJ5.ls.ne hJ5.r7 (by decide)
    have h67 : s6.get c.p7 = some (.row [L] 40) := a3.keep _ _ hne7 hJ5.r7
    have hl6 : s6.lock = [] := a3.lock.trans (by rw [St.lock_push, hl4])
    have hst7 := sto1 (w := .sl (s4.push (.row [x1, x2, x3, x4, x5] 38)).next 5 0 (n + 1) false) z40 h67 (by rw [hl6]; simp) rfl
    have hlt7 : c.p7 < s6.next := a3.wf _ _ h67
    have hr7 := Rest.set a3.wf hlt7 (.row [.sl (s4.push (.row [x1, x2, x3, x4, x5] 38)).next 5 0 (n + 1) false] 40) (S := [c.p7]) (by simp)
    generalize hL' : AV.sl (s4.push (.row [x1, x2, x3, x4, x5] 38)).next 5 0 (n + 1) false = L' at a1 a2 hst7 hr7
    have hfL' : ∀ j ∈ fid L', j = s4.next + 1 := fun j hj => by rw [← hL'] at hj; simpa [fid] using hj
    have hrest6 : Rest st0 s6 [] := hJ5.rest.fresh a3 hw0 hJ.fr
    have hrest7 : Rest st0 (s6.set c.p7 (.row [L'] 40)) [] := hrest6.fresh hr7 hw0 (by simpa using hJ.n7)
    have kp : ∀ {i : Nat} {v : List AV} {t : Nat}, (s4.push (.row [x1, x2, x3, x4, x5] 38)).get i = some (.row v t) → t ≠ 38 → i ≠ c.p7 → (s6.set c.p7 (.row [L'] 40)).get i = some (.row v t) := fun {i v t} hg ht hi => hr7.keep _ _ (by simpa using hi) (a3.keep _ _ (hJ5.ls.ne hg ht) hg)
    obtain ⟨v4, q4⟩ := hJ5.r4
    obtain ⟨v5, q5⟩ := hJ5.r5
    obtain ⟨v6, q6⟩ := hJ5.r6
    have keep46 : Keep5 (s4.push (.row [x1, x2, x3, x4, x5] 38)) s6 := .restS a3 fun i hi => by
      rcases hJ5.ls with ⟨_, _, rfl⟩ | ⟨_, id, f, rfl, hg⟩
      · cases hi
      · simp only [fid, List.mem_singleton] at hi; subst hi; exact ⟨_, _, hg, by decide, by decide⟩
    have keepz : Keep5 s2 (s6.set c.p7 (.row [L'] 40)) := (Keep5.rest hr24).trans ((Keep5.rest hr5).trans (keep46.trans (.set h67 (by decide) _)))
    refine ⟨none, s6.set c.p7 (.row [L'] 40), fun T0 yf hT0 => ⟨hfit T0 yf hT0, fun l => (f22_4 (hT5 T0 yf hT0 _)).mono fun e T1 z1 ⟨w1, w2, w3⟩ => ⟨w1, ?_⟩⟩, .inl ⟨rfl, k1, k2, L', [x1, x2, x3, x4, x5], ⟨hrest7, kp hJ5.r3 (by decide) (row_ne hJ5.r3 hJ5.r7 (by decide)), ⟨v4, kp q4 (by decide) hJ.ne⟩, ⟨v5, kp q5 (by decide) (row_ne q5 hJ5.r7 (by decide))⟩, ⟨v6, kp q6 (by decide) (row_ne q6 hJ5.r7 (by decide))⟩, by rw [St.get_set, if_pos rfl], kp hJ5.rp (by decide) (row_ne hJ5.rp hJ5.r7 (by decide)), ?_, hJ.n4, hJ.n5, hJ.n6, hJ.n7, hJ.np, fun j hj => ?_, hJ.ne⟩, rfl, fun V' hV hv => hV _ _ hv ((Keep5.rest e2).trans keepz), s2, e3 k2, keepz⟩⟩
    · subst w3
      refine (f22_5_TT hcut (ld1 k52 hJ.r3) e1 (al38 s2) hst4 (ld1 k40 hJ4.r7) (ld38 hg4 rfl) (bs40 s4 x1 x2 x3 x4 x5) a1 hst7 w2).mono fun e2' T2 z2 ⟨y1, y2, y3⟩ => ?_
      subst y1
      exact ⟨rfl, y3⟩
    · exact a2.rest hr7 fun i hi hi7 => by
        have e1 := hfL' i hi
        simp only [List.mem_singleton] at hi7
        subst hi7
        have := hw4 _ _ hJ4.r7
        omega
    · have e1 := hfL' j hj
      have := hJ4.rest.next
      omega
  · -- the row of stores at an error
    have hlt7 : c.p7 < s4.next := hw4 _ _ hJ4.r7
    obtain ⟨v4, q4⟩ := hJ4.r4
    obtain ⟨v5, q5⟩ := hJ4.r5
    obtain ⟨v6, q6⟩ := hJ4.r6
    have hs5 : storeA E0 (s4.hide [c.p7]) 40 (.ptr c.p4 0) .nils = some ((s4.hide [c.p7]).set c.p4 (.row [.nils] 40)) := sto1 (v := v4) z40 q4 (by
      show c.p4 ∉ [c.p7] ++ s4.lock
      rw [hl4]; simpa using hJ.ne) rfl
    have g5 : ∀ i, (((s4.hide [c.p7]).set c.p4 (.row [.nils] 40)).show s4 [c.p7]).get i = if i = c.p4 then some (.row [.nils] 40) else s4.get i := fun i => by
      rw [St.show_get, St.get_set, St.hide_get]
      by_cases hi : i = c.p7
      · subst hi
        rw [if_pos ⟨by simp, by rw [hJ4.r7]; rfl⟩, if_neg (Ne.symm hJ.ne)]
      · rw [if_neg (fun q => hi (by simpa using q.1))]
    have n5 : (((s4.hide [c.p7]).set c.p4 (.row [.nils] 40)).show s4 [c.p7]).next = s4.next := by rw [St.show_next]; rfl
    have l5 : (((s4.hide [c.p7]).set c.p4 (.row [.nils] 40)).show s4 [c.p7]).lock = [] := hl4
    have gl5 : (((s4.hide [c.p7]).set c.p4 (.row [.nils] 40)).show s4 [c.p7]).gl = s4.gl := by rw [St.show_gl]; rfl
    generalize hS : ((s4.hide [c.p7]).set c.p4 (.row [.nils] 40)).show s4 [c.p7] = S at g5 n5 l5 gl5
    have wS : S.wf := fun i o hg => by
      rw [g5] at hg
      rw [n5]
      split at hg
      · rename_i e; subst e; exact hw4 _ _ q4
      · exact hw4 _ _ hg
    have hrS : Rest s4 S [c.p4] := ⟨fun i o hi ho => by rw [g5, if_neg (by simpa using hi)]; exact ho, by omega, l5.trans hl4.symm, gl5, wS⟩
    have p45 : c.p5 ≠ c.p4 := row_ne q5 q4 (by decide)
    have p46 : c.p6 ≠ c.p4 := row_ne q6 q4 (by decide)
    have p65 : c.p6 ≠ c.p5 := row_ne q6 q5 (by decide)
    have t5 : S.get c.p5 = some (.row [v5] 3) := by rw [g5, if_neg p45]; exact q5
    have h6 := sto1 (w := i64 ((n + 1 : Nat) : Int)) z3 t5 (by rw [l5]; simp) rfl
    have r6 := Rest.set wS (wS _ _ t5) (.row [i64 ((n + 1 : Nat) : Int)] 3) (S := [c.p5]) (by simp)
    have t6 : (S.set c.p5 (.row [i64 ((n + 1 : Nat) : Int)] 3)).get c.p6 = some (.row [v6] 33) := by rw [St.get_set, if_neg p65, g5, if_neg p46]; exact q6
    have h7 := sto1 (w := i64 5) z33 t6 (by rw [St.lock_set, l5]; simp) rfl
    have r7 := Rest.set r6.wf (r6.wf _ _ t6) (.row [i64 5] 33) (S := [c.p6]) (by simp)
    have hadd : binA E0 .add 3 (i64 n) (i64 1) = some (i64 ((n + 1 : Nat) : Int)) := add3 (a := n) (b := 1) (by omega)
    refine ⟨some .ret, (S.set c.p5 (.row [i64 ((n + 1 : Nat) : Int)] 3)).set c.p6 (.row [i64 5] 33), fun T0 yf hT0 => ⟨hfit T0 yf hT0, fun l => (f22_4 (hT5 T0 yf hT0 _)).mono fun e T1 z1 ⟨w1, w2, w3⟩ => ⟨w1, ?_⟩⟩, .inr ⟨rfl, hok, ?_, ?_, ?_, by rw [St.get_set, if_pos rfl]⟩⟩
    · subst w3
      have h6' : storeA E0 (((s4.hide [c.p7]).set c.p4 (.row [.nils] 40)).show s4 [c.p7]) 3 (.ptr c.p5 0) (i64 ((n + 1 : Nat) : Int)) = some (S.set c.p5 (.row [i64 ((n + 1 : Nat) : Int)] 3)) := by rw [hS]; exact h6
      have hall : [c.p7].all (fun k => (s4.get k).isSome) = true := by simp [hJ4.r7]
      cases hen : (lineOf s0).2.1 with
      | true =>
        have hev' : ev (lineOf s0).1 = false := by
          cases he : ev (lineOf s0).1 with
          | false => rfl
          | true => exact absurd ⟨hen, he⟩ hok
        rw [hen] at hcut
        rw [hev'] at e1
        refine (f22_5_TF hcut (ld1 k52 hJ.r3) e1 (al38 s2) hst4 (fun k hk => by simp only [List.mem_singleton] at hk; omega) (ld1 k40 hJ4.r7) hlen hadd hall hs5 h6' h7 w2).mono fun e2' T2 z2 ⟨y1, y2, y3⟩ => ?_
        subst y1
        exact ⟨rfl, y3⟩
      | false =>
        rw [hen] at hcut
        refine (f22_5_F hcut (ld1 k52 hJ.r3) e1 (al38 s2) hst4 (fun k hk => by simp only [List.mem_singleton] at hk; omega) (ld1 k40 hJ4.r7) hlen hadd hall hs5 h6' h7 w2).mono fun e2' T2 z2 ⟨y1, y2, y3⟩ => ?_
        subst y1
        exact ⟨rfl, y3⟩
    · exact ((hJ4.rest.fresh hrS hw0 (by simpa using hJ.n4)).fresh r6 hw0 (by simpa using hJ.n5)).fresh r7 hw0 (by simpa using hJ.n6)
    · rw [St.get_set, if_neg (Ne.symm p46), St.get_set, if_neg (Ne.symm p45), g5, if_pos rfl]
    · rw [St.get_set, if_neg (Ne.symm p65), St.get_set, if_pos rfl]
end
section
set_option maxRecDepth 8000
/-! ### the lines, and what is made of them -/
def linesL : Nat → List UInt8 → List (List UInt8)
  | 0, _ => []
  | _ + 1, [] => []
  | n + 1, s@(_ :: _) => (lineOf s).1 :: linesL n (lineOf s).2.2
def parseF (ev : List UInt8 → Bool) : Nat → List UInt8 → List (List UInt8) → (List (List UInt8)) ⊕ Nat
  | 0, _, A => .inl A
  | _ + 1, [], A => .inl A
  | n + 1, s@(_ :: _), A => if (lineOf s).2.1 = true ∧ ev (lineOf s).1 = true then parseF ev n (lineOf s).2.2 (A ++ [(lineOf s).1]) else .inr (A.length + 1)
theorem lineOf_lt {s : List UInt8} (h : s ≠ []) : (lineOf s).2.2.length < s.length := by
  have hpos : 0 < s.length := List.length_pos_iff.2 h
  unfold lineOf
  by_cases h10 : 10 ∈ s
  · rw [if_pos h10]
    have := split_ten h10
    have h2 := congrArg List.length this
    simp only [List.length_append, List.length_cons] at h2
    show ((s.dropWhile (· ≠ 10)).drop 1).length < _
    omega
  · rw [if_neg h10]; exact hpos
/-- the things' cells -/
def VL (V : List UInt8 → List AV → St → Prop) (z : St) (bs : List (List UInt8)) (css : List (List AV)) : Prop := css.length = bs.length ∧ ∀ (i : Nat) b cs, bs[i]? = some b → css[i]? = some cs → cs.length = 5 ∧ ∃ s', V b cs s' ∧ Keep5 s' z
theorem VL.keep {V : List UInt8 → List AV → St → Prop} {z z' : St} {bs : List (List UInt8)} {css : List (List AV)} (h : VL V z bs css) (hk : Keep5 z z') : VL V z' bs css :=
  ⟨h.1, fun i b cs h1 h2 => ⟨(h.2 i b cs h1 h2).1, by obtain ⟨s', h3, h4⟩ := (h.2 i b cs h1 h2).2; exact ⟨s', h3, h4.trans hk⟩⟩⟩
theorem VL.app {V : List UInt8 → List AV → St → Prop} {z : St} {bs : List (List UInt8)} {css : List (List AV)} (h : VL V z bs css) {b : List UInt8} {cs : List AV} (hc : cs.length = 5) (hv : ∃ s', V b cs s' ∧ Keep5 s' z) : VL V z (bs ++ [b]) (css ++ [cs]) := by
  refine ⟨by simp [h.1], fun i b' cs' h1 h2 => ?_⟩
  by_cases hi : i < bs.length
  · rw [List.getElem?_append_left hi] at h1
    rw [List.getElem?_append_left (by rw [h.1]; exact hi)] at h2
    exact h.2 i _ _ h1 h2
  · have e1 : i = bs.length := by
      have := (List.getElem?_eq_some_iff.1 h1).1
      simp at this; omega
    subst e1
    rw [List.getElem?_append_right (Nat.le_refl _), Nat.sub_self] at h1
    rw [← h.1, List.getElem?_append_right (Nat.le_refl _), Nat.sub_self] at h2
    simp only [List.getElem?_cons_zero, Option.some.injEq] at h1 h2
    subst h1; subst h2
    exact ⟨hc, hv⟩
def OutP (st0 : St) (c : Ce) (p : Nat) (V : List UInt8 → List AV → St → Prop) (R : (List (List UInt8)) ⊕ Nat) (bb : Option Code) (z : St) : Prop := match R with
  | .inl bs => bb = none ∧ ∃ L css, PJ st0 z c p [] L bs.length css.flatten ∧ VL V z bs css
  | .inr k => bb = some .ret ∧ Rest st0 z [] ∧ z.get c.p4 = some (.row [.nils] 40) ∧ z.get c.p5 = some (.row [i64 (k : Nat)] 3) ∧ z.get c.p6 = some (.row [i64 5] 33)
noncomputable def bodyL : Code := .seq (f46P 0) (.block 1 (.seq (f46P 1) (.seq (f46P 2) (.seq (f46P 3) (f46P 4)))))
theorem AWY.go {y : YK} {P : Program} {b : Option Code} {a c : Code} {Q : Option Code → Exit → Tm → St → Prop} {L : Tm → Prop} {T : Tm} {st s : St} (h : AW P a (fun ex T' st' => ex = .normal ∧ L T' ∧ st' = s) T st) (k : ∀ T', L T' → AWY y P b c Q T' s) : AWY y P b (.seq a c) Q T st :=
  .seq (.of (h.mono fun ex T' st' ⟨h1, h2, h3⟩ => by subst h1; subst h3; exact k T' h2))
theorem parsed_loop {st0 : St} {c : Ce} {p : Nat} {V : List UInt8 → List AV → St → Prop} {ev : List UInt8 → Bool} (hw0 : st0.wf) (hl0 : st0.lock = []) : ∀ (n : Nat) (s : List UInt8) (σ : St) (L : AV) (A : List (List UInt8)) (css : List (List AV)), s.length < n → s.length ≤ 2000000000 → A.length + s.length ≤ 2000000000 → PJ st0 σ c p s L A.length css.flatten → VL V σ A css → (∀ b ∈ linesL n s, EvC st0 V ev b) →
    ∃ bb z, OutP st0 c p V (parseF ev n s A) bb z ∧ ∀ (T0 : Tm) (yf : AV), f22L4 T0 (.ptr c.p3 0) (.ptr c.p4 0) (.ptr c.p5 0) (.ptr c.p6 0) (.ptr c.p7 0) yf → ∀ (y : YK) (T : Tm), y.p = 18 → y.assign = f22P 4 → y.body = f22P 5 → TR y.gE T0 ⟨y.tmps, []⟩ → f46L0 T (.fn (.yield y.l) [] []) (.ptr p 0) →
      LoopY y Tryd.prog bodyL (fun b e _ st' => (e = .exit 0 ∨ e = .ret) ∧ b = bb ∧ st' = z) n none T σ := by
  intro n
  induction n with
  | zero => intro s σ L A css hs; omega
  | succ n ih =>
    intro s σ L A css hs hb hAs hJ hV hE0
    have hlk : σ.lock = [] := hJ.rest.lock.trans hl0
    have t9 : (E0.ty 9).map (fun i => isAggD i.desc) = some false := k9
    have ld := ld1 k9 hJ.rp
    cases s with
    | nil =>
      refine ⟨none, σ, ⟨rfl, L, css, hJ, hV⟩, fun T0 yf hT0 y T _ _ _ _ hT => ?_⟩
      refine AWY.seq (AWY.of ((f46_0_F ld (len_sb []) (gtrF (by decide)) hT).mono fun ex T' st' ⟨h1, h2, h3⟩ => ?_))
      subst h1; subst h3
      exact ⟨.inl rfl, rfl, rfl⟩
    | cons c0 s' =>
      generalize hs0 : c0 :: s' = s at *
      have h0 : s ≠ [] := by rw [← hs0]; simp
      have hlt := lineOf_lt h0
      have hcut := fun (yv : AV) (T : Tm) (hT : f46L0 T yv (.ptr p 0)) => lines_cut hJ.rp hJ.rest.wf (by rw [hlk]; simp) h0 hb hT
      have hps : p < σ.next := hJ.rest.wf _ _ hJ.rp
      have hrc := Rest.set hJ.rest.wf hps (.row [sb (lineOf s).2.2] 9) (S := [p]) (by simp)
      have hk5 : Keep5 σ (σ.set p (.row [sb (lineOf s).2.2] 9)) := .set hJ.rp (by decide) _
      have kp : ∀ {i : Nat} {v : List AV} {t : Nat}, σ.get i = some (.row v t) → t ≠ 9 → (σ.set p (.row [sb (lineOf s).2.2] 9)).get i = some (.row v t) := fun {i v t} hg ht => hrc.keep _ _ (by simpa using row_ne hg hJ.rp ht) hg
      obtain ⟨v4, q4⟩ := hJ.r4
      obtain ⟨v5, q5⟩ := hJ.r5
      obtain ⟨v6, q6⟩ := hJ.r6
      have hJ1 : PJ st0 (σ.set p (.row [sb (lineOf s).2.2] 9)) c p (lineOf s).2.2 L A.length css.flatten :=
        ⟨hJ.rest.fresh hrc hw0 (by simpa using hJ.np), kp hJ.r3 (by decide), ⟨v4, kp q4 (by decide)⟩, ⟨v5, kp q5 (by decide)⟩, ⟨v6, kp q6 (by decide)⟩, kp hJ.r7 (by decide), by rw [St.get_set, if_pos rfl], hJ.ls.rest hrc (fun i hi => by
          simp only [List.mem_singleton]
          rintro rfl
          exact hJ.ls.ne hJ.rp (by decide) hi), hJ.n4, hJ.n5, hJ.n6, hJ.n7, hJ.np, hJ.fr, hJ.ne⟩
      have hev : EvC st0 V ev (lineOf s).1 := hE0 _ (by rw [← hs0]; simp [linesL])
      obtain ⟨bb1, z1, hR, hcase⟩ := round_ok hw0 hl0 hJ1 h0 hb (by omega) hev
      have turn : ∀ (T0 : Tm) (yf : AV), f22L4 T0 (.ptr c.p3 0) (.ptr c.p4 0) (.ptr c.p5 0) (.ptr c.p6 0) (.ptr c.p7 0) yf → ∀ (y : YK) (T : Tm), y.p = 18 → y.assign = f22P 4 → y.body = f22P 5 → TR y.gE T0 ⟨y.tmps, []⟩ → f46L0 T (.fn (.yield y.l) [] []) (.ptr p 0) → ∀ (Q : Option Code → Exit → Tm → St → Prop), (∀ T', bb1.isSome = false → f46L0 T' (.fn (.yield y.l) [] []) (.ptr p 0) → Q bb1 .normal T' z1) → (∀ T', bb1.isSome = true → Q bb1 .ret T' z1) → AWY y Tryd.prog none bodyL Q T σ := by
        intro T0 yf hT0 y T y1 y2 y3 hTR hT Q hQ1 hQ2
        refine AWY.go (f46_0_T ld (len_sb s) (gtrT (by have := List.length_pos_iff.2 h0; omega)) hT) fun T1 p1 => ?_
        refine AWY.block (AWY.go (f46_1 p1) fun T2 p2 => AWY.go (hcut _ _ p2) fun T3 p3 => ?_)
        refine AWY.seq ((yield6 (K := fun b st2 => b = bb1 ∧ st2 = z1) p3 hTR (by rw [y1, y2, y3]; exact hR T0 yf hT0)).mono fun b e T4 z ⟨w1, w2, w3⟩ => ?_)
        subst w1
        obtain ⟨w3, w4⟩ := w3
        subst w3; subst w4
        cases hbs : b.isSome with
        | false =>
          rw [hbs] at w2
          exact AWY.of ((f46_4_F w2).mono fun ex T' st' ⟨h1, h2, h3⟩ => by
            subst h1; subst h3
            exact hQ1 T' hbs h2)
        | true =>
          rw [hbs] at w2
          exact AWY.of ((f46_4_T w2).mono fun ex T' st' ⟨h1, h2, h3⟩ => by
            subst h1; subst h3
            exact hQ2 T' hbs)
      have e0 : parseF ev (n + 1) s A = if (lineOf s).2.1 = true ∧ ev (lineOf s).1 = true then parseF ev n (lineOf s).2.2 (A ++ [(lineOf s).1]) else .inr (A.length + 1) := by rw [← hs0]; rfl
      rcases hcase with ⟨rfl, k1, k2, L', cs, hJ2, hc5, hk, s2, hv2, hk2⟩ | ⟨rfl, k1, k2, k3, k4, k5⟩
      · have hk1 : Keep5 (σ.set p (.row [sb (lineOf s).2.2] 9)) z1 := hk (fun t => Keep5 _ t) (fun a b h k => h.trans k) (fun i vs ty _ hg => hg)
        obtain ⟨bb, z, h1, h2⟩ := ih (lineOf s).2.2 z1 L' (A ++ [(lineOf s).1]) (css ++ [cs]) (by omega) (by omega) (by simp only [List.length_append, List.length_singleton]; omega) (by
          simp only [List.length_append, List.length_singleton, List.flatten_append, List.flatten_cons, List.flatten_nil, List.append_nil]
          exact hJ2) ((hV.keep (hk5.trans hk1)).app hc5 ⟨s2, hv2, hk2⟩) (fun b hb' => hE0 b (by rw [← hs0]; simp only [linesL]; rw [hs0]; exact List.mem_cons_of_mem _ hb'))
        refine ⟨bb, z, by rw [e0, if_pos ⟨k1, k2⟩]; exact h1, fun T0 yf hT0 y T y1 y2 y3 hTR hT => ?_⟩
        exact turn T0 yf hT0 y T y1 y2 y3 hTR hT _ (fun T' _ hT' => h2 T0 yf hT0 y T' y1 y2 y3 hTR hT') (fun T' h => by cases h)
      · refine ⟨some .ret, z1, by rw [e0, if_neg k1]; exact ⟨rfl, k2, k3, k4, k5⟩, fun T0 yf hT0 y T y1 y2 y3 hTR hT => ?_⟩
        exact turn T0 yf hT0 y T y1 y2 y3 hTR hT _ (fun T' h => by cases h) (fun T' _ => ⟨.inr rfl, rfl, rfl⟩)
/-! ### the function -/
theorem AWZ.andThen {P : Program} {fn : Func} {R : AV → St → Prop} {E : Env} (hE : EOK' P E) {a b : Code} {L : Tm → Prop} {T : Tm} {st s : St} (h : AW P a (fun ex T' st' => ex = .normal ∧ L T' ∧ st' = s) T st) (k : ∀ T', L T' → AWZ P fn R b T' s) : AWZ P fn R (.seq a b) T st :=
  .seq hE (h.mono fun ex T' st' ⟨h1, h2, h3⟩ => by subst h1; subst h3; exact k T' h2)
end
section
set_option maxRecDepth 8000
/-! ### parsed -/
theorem bx52 (st : St) (f : Nat) : boxA st 52 (.fn (.func f) [] []) = some (.ptr st.next 0, st.push (.row [.fn (.func f) [] []] 52)) := by kernel_rfl
theorem bx9 (st : St) (s : ByteArray) : boxA st 9 (str s) = some (.ptr st.next 0, st.push (.row [str s] 9)) := by kernel_rfl
theorem al40 (st : St) : allocA E0 st 40 = some (.ptr st.next 0, st.push (.row [.nils] 40)) := by kernel_rfl
theorem al3 (st : St) : allocA E0 st 3 = some (.ptr st.next 0, st.push (.row [i64 0] 3)) := by kernel_rfl
theorem al33 (st : St) : allocA E0 st 33 = some (.ptr st.next 0, st.push (.row [i64 0] 33)) := by kernel_rfl
theorem res22 {T : Tm} {z : St} {p4 p5 p6 : Nat} {a b c : AV} (hT : f22L2 T (.ptr p4 0) (.ptr p5 0) (.ptr p6 0)) (h4 : z.get p4 = some (.row [a] 40)) (h5 : z.get p5 = some (.row [b] 3)) (h6 : z.get p6 = some (.row [c] 33)) : resA E0 T z Tryd.f22.results.toList = some [a, b, c] := by
  obtain ⟨_, q4, q5, q6⟩ := hT
  have e : Tryd.f22.results.toList = [.cell 4 40, .cell 5 3, .cell 6 33] := by kernel_rfl
  rw [e]
  simp only [resA, q4, q5, q6, ld1 k40 h4, ld1 k3 h5, ld1 k33 h6]
  rfl
def st4 (st : St) (f : Nat) : St := (((st.push (.row [.fn (.func f) [] []] 52)).push (.row [.nils] 40)).push (.row [i64 0] 3)).push (.row [i64 0] 33)
theorem get_new (st : St) (o : AObj) {i : Nat} (h : i = st.next) : (st.push o).get i = some o := by rw [St.get_push, if_pos h]
theorem st4_ok {st : St} (hw : st.wf) (f : Nat) : Rest st (st4 st f) [] ∧ (st4 st f).next = st.next + 4 ∧ (st4 st f).get st.next = some (.row [.fn (.func f) [] []] 52) ∧ (st4 st f).get (st.next + 1) = some (.row [.nils] 40) ∧ (st4 st f).get (st.next + 2) = some (.row [i64 0] 3) ∧ (st4 st f).get (st.next + 3) = some (.row [i64 0] 33) := by
  have r1 := Rest.push hw (.row [.fn (.func f) [] []] 52) []
  have r2 := Rest.push r1.wf (.row [.nils] 40) []
  have r3 := Rest.push r2.wf (.row [i64 0] 3) []
  have r4 := Rest.push r3.wf (.row [i64 0] 33) []
  refine ⟨((r1.trans r2).trans r3).trans r4, rfl, ((r2.trans r3).trans r4).keep _ _ (by simp) (get_new _ _ rfl), (r3.trans r4).keep _ _ (by simp) (get_new _ _ rfl), r4.keep _ _ (by simp) (get_new _ _ rfl), get_new _ _ rfl⟩
theorem pre22 {st : St} {f : Nat} {T : Tm} {s : ByteArray} (hT : f22L0 T (str s) (.fn (.func 23) [] [])) (hf : f = 23) : AW Tryd.prog (f22P 0) (fun ex T' st' => ex = .normal ∧ f22L1 T' (str s) (.ptr st.next 0) (.ptr (st.next + 1) 0) (.ptr (st.next + 2) 0) (.ptr (st.next + 3) 0) ∧ st' = st4 st 23) T st := by
  exact f22_0 (bx52 st 23) (al40 _) (al3 _) (al33 _) hT
theorem parsed_long {st : St} {s : List UInt8} (hw : st.wf) (hl : st.lock = []) (hs : 65536 < s.length) (hb : s.length ≤ 9000000000000000000) : ∃ z, obC 22 [sb s, .fn (.func 23) [] []] st (.tup [.nils, i64 0, i64 3]) z ∧ Rest st z [] := by
  obtain ⟨r0, n0, g3, g4, g5, g6⟩ := st4_ok hw 23
  have l0 : (st4 st 23).lock = [] := r0.lock.trans hl
  have h1 := sto1 (w := .nils) z40 g4 (by rw [l0]; simp) rfl
  have r1 := Rest.set r0.wf (r0.wf _ _ g4) (.row [.nils] 40) (S := [st.next + 1]) (by simp)
  have g5' : ((st4 st 23).set (st.next + 1) (.row [.nils] 40)).get (st.next + 2) = some (.row [i64 0] 3) := by rw [St.get_set, if_neg (by omega)]; exact g5
  have h2 := sto1 (w := i64 0) z3 g5' (by rw [St.lock_set, l0]; simp) rfl
  have r2 := Rest.set r1.wf (r1.wf _ _ g5') (.row [i64 0] 3) (S := [st.next + 2]) (by simp)
  have g6' : (((st4 st 23).set (st.next + 1) (.row [.nils] 40)).set (st.next + 2) (.row [i64 0] 3)).get (st.next + 3) = some (.row [i64 0] 33) := by rw [St.get_set, if_neg (by omega), St.get_set, if_neg (by omega)]; exact g6
  have h3 := sto1 (w := i64 3) z33 g6' (by rw [St.lock_set, St.lock_set, l0]; simp) rfl
  have r3 := Rest.set r2.wf (r2.wf _ _ g6') (.row [i64 3] 33) (S := [st.next + 3]) (by simp)
  refine ⟨_, ?_, ((r0.fresh r1 hw (by simp)).fresh r2 hw (by simp)).fresh r3 hw (by simp)⟩
  refine ACalls.body (E := E0) hE Tryd.func22 f22body ?_
  refine AW.andThen (pre22 (f := 23) (s := ⟨s.toArray⟩) ⟨rfl, rfl, rfl⟩ rfl) fun T1 q1 => ?_
  refine AW.retThen (f22_1_T (len_sb s) (gtrT (by omega)) h1 h2 h3 q1) fun T2 q2 => ?_
  exact ⟨_, res22 q2 (by rw [St.get_set, if_neg (by omega), St.get_set, if_neg (by omega), St.get_set, if_pos rfl]) (by rw [St.get_set, if_neg (by omega), St.get_set, if_pos rfl]) (by rw [St.get_set, if_pos rfl]), rfl, rfl⟩
theorem parsed_ok {st : St} {s : List UInt8} {V : List UInt8 → List AV → St → Prop} {ev : List UInt8 → Bool} (hw : st.wf) (hl : st.lock = []) (hs : s.length ≤ 65536) (hev : ∀ b ∈ linesL (s.length + 1) s, EvC st V ev b) :
    ∃ r z, obC 22 [sb s, .fn (.func 23) [] []] st r z ∧ Rest st z [] ∧ match parseF ev (s.length + 1) s [] with
      | .inl bs => ∃ L css, r = .tup [L, i64 0, i64 0] ∧ Ls z 38 5 L bs.length css.flatten ∧ VL V z bs css ∧ ∀ j ∈ fid L, st.next ≤ j
      | .inr k => r = .tup [.nils, i64 (k : Nat), i64 5] := by
  obtain ⟨r0, n0, g3, g4, g5, g6⟩ := st4_ok hw 23
  have r1 := Rest.push r0.wf (.row [.nils] 40) []
  have r2 := Rest.push r1.wf (.row [sb s] 9) []
  generalize hS1 : (st4 st 23).push (.row [.nils] 40) = S1 at r1 r2
  generalize hS2 : S1.push (.row [sb s] 9) = S2 at r2
  have hn1 : S1.next = st.next + 5 := by rw [← hS1, St.next_push, n0]
  have hr2 : Rest st S2 [] := (r0.trans r1).trans r2
  have k2 : ∀ {i o}, (st4 st 23).get i = some o → S2.get i = some o := fun {i o} hg => (r1.trans r2).keep i o (by simp) hg
  have gp7 : S2.get (st.next + 4) = some (.row [.nils] 40) := r2.keep _ _ (by simp) (by rw [← hS1, St.get_push, if_pos n0.symm])
  have gp : S2.get (st.next + 5) = some (.row [sb s] 9) := by rw [← hS2, St.get_push, if_pos hn1.symm]
  let c : Ce := ⟨st.next, st.next + 1, st.next + 2, st.next + 3, st.next + 4⟩
  have hJ : PJ st S2 c (st.next + 5) s .nils 0 [] := ⟨hr2, k2 g3, ⟨_, k2 g4⟩, ⟨_, k2 g5⟩, ⟨_, k2 g6⟩, gp7, gp, .inl ⟨rfl, rfl, rfl⟩, by show st.next ≤ st.next + 1; omega, by show st.next ≤ st.next + 2; omega, by show st.next ≤ st.next + 3; omega, by show st.next ≤ st.next + 4; omega, by omega, (fun j hj => by cases hj), by show st.next + 1 ≠ st.next + 4; omega⟩
  obtain ⟨bb, z, hout, hLoop⟩ := parsed_loop (V := V) (ev := ev) hw hl (s.length + 1) s S2 .nils [] [] (by omega) (by omega) (by simp; omega) hJ ⟨rfl, fun i b cs h => by simp at h⟩ hev
  have main : ∀ (r : AV) (zz : St), (∀ T0 : Tm, f22L4 T0 (.ptr c.p3 0) (.ptr c.p4 0) (.ptr c.p5 0) (.ptr c.p6 0) (.ptr c.p7 0) (.fn (.func 46) [] [.ptr (st.next + 5) 0]) → AfterA Tryd.prog E0 Tryd.f22 (fun r' s' => r' = r ∧ s' = zz) 0 (f22P 6) T0 bb z) → obC 22 [sb s, .fn (.func 23) [] []] st r zz := by
    intro r zz hfin
    refine AWZ.body Tryd.func22 f22body ?_
    refine AWZ.andThen hE (pre22 (f := 23) (s := ⟨s.toArray⟩) ⟨rfl, rfl, rfl⟩ rfl) fun T1 q1 => ?_
    refine AWZ.andThen hE (f22_1_F (len_sb s) (gtrF (by omega)) q1) fun T2 q2 => ?_
    refine AWZ.andThen hE (f22_2 (al40 _) q2) fun T3 q3 => ?_
    rw [hS1] at *
    rw [n0] at q3
    have h31 : obC 31 [sb s] S1 (.fn (.func 46) [] [.ptr (st.next + 5) 0]) S2 := by
      have := f31 (bx9 S1 ⟨s.toArray⟩)
      rw [hn1, hS2] at this
      exact this
    refine AWZ.rangeA (f22_3 h31 q3) fun T4 q4 => ?_
    have hT4 : T4.eval (.tmp 17) = .fn (.func 46) [] [.ptr (st.next + 5) 0] := q4.2.2.2.2.2.2
    refine rangeB hE hT4 (fnY := Tryd.f46) (cY := .block 0 (.loop bodyL)) (by kernel_rfl) f46body rfl fun y y1 y2 y3 hTR => ?_
    refine AWY.block ((AWY.loopY (hLoop T4 _ q4 y _ y1 y2 y3 hTR ⟨rfl, rfl, rfl⟩)).mono fun b e T5 z5 ⟨w1, w2, w3⟩ => ?_)
    subst w2; subst w3
    rcases w1 with rfl | rfl
    · simp only [blockA, if_true]
      refine ⟨?_, hfin T4 q4⟩
      first | exact .inl rfl | exact .inl trivial
    · exact ⟨.inr rfl, hfin T4 q4⟩
  cases hp : parseF ev (s.length + 1) s [] with
  | inl bs =>
    rw [hp] at hout
    obtain ⟨rfl, L, css, hJz, hV⟩ := hout
    have lz : z.lock = [] := hJz.rest.lock.trans hl
    obtain ⟨v4, q4⟩ := hJz.r4
    obtain ⟨v5, q5⟩ := hJz.r5
    obtain ⟨v6, q6⟩ := hJz.r6
    have hcL : avCells L = some [L] := by
      rcases hJz.ls with ⟨_, _, rfl⟩ | ⟨_, id, f, rfl, _⟩ <;> rfl
    have h1 := sto1 (w := L) z40 q4 (by rw [lz]; simp) hcL
    have a1 := Rest.set hJz.rest.wf (hJz.rest.wf _ _ q4) (.row [L] 40) (S := [c.p4]) (by simp)
    have p54 : c.p5 ≠ c.p4 := row_ne q5 q4 (by decide)
    have p64 : c.p6 ≠ c.p4 := row_ne q6 q4 (by decide)
    have p65 : c.p6 ≠ c.p5 := row_ne q6 q5 (by decide)
    have q5' : (z.set c.p4 (.row [L] 40)).get c.p5 = some (.row [v5] 3) := by rw [St.get_set, if_neg p54]; exact q5
    have h2 := sto1 (w := i64 0) z3 q5' (by rw [St.lock_set, lz]; simp) rfl
    have a2 := Rest.set a1.wf (a1.wf _ _ q5') (.row [i64 0] 3) (S := [c.p5]) (by simp)
    have q6' : ((z.set c.p4 (.row [L] 40)).set c.p5 (.row [i64 0] 3)).get c.p6 = some (.row [v6] 33) := by rw [St.get_set, if_neg p65, St.get_set, if_neg p64]; exact q6
    have h3 := sto1 (w := i64 0) z33 q6' (by rw [St.lock_set, St.lock_set, lz]; simp) rfl
    have a3 := Rest.set a2.wf (a2.wf _ _ q6') (.row [i64 0] 33) (S := [c.p6]) (by simp)
    have n4 : c.p4 ∉ fid L := hJz.ls.ne q4 (by decide)
    have n5 : c.p5 ∉ fid L := hJz.ls.ne q5 (by decide)
    have n6 : c.p6 ∉ fid L := hJz.ls.ne q6 (by decide)
    refine ⟨_, _, main (.tup [L, i64 0, i64 0]) (((z.set c.p4 (.row [L] 40)).set c.p5 (.row [i64 0] 3)).set c.p6 (.row [i64 0] 33)) fun T0 hT0 => ?_, ((hJz.rest.fresh a1 hw (by simpa using hJz.n4)).fresh a2 hw (by simpa using hJz.n5)).fresh a3 hw (by simpa using hJz.n6), L, css, rfl, ?_, ?_, hJz.fr⟩
    · obtain ⟨t0, t3, t4, t5, t6, t7, t17⟩ := hT0
      refine (f22_6 (ld1 k40 hJz.r7) h1 h2 h3 ⟨t0, t4, t5, t6, t7⟩).mono fun ex T' s' ⟨w1, w2, w3⟩ => ?_
      subst w1; subst w3
      exact ⟨_, res22 w2 (by rw [St.get_set, if_neg (Ne.symm p64), St.get_set, if_neg (Ne.symm p54), St.get_set, if_pos rfl]) (by rw [St.get_set, if_neg (Ne.symm p65), St.get_set, if_pos rfl]) (by rw [St.get_set, if_pos rfl]), rfl, rfl⟩
    · exact ((hJz.ls.rest a1 (fun i hi e => n4 (by simp only [List.mem_singleton] at e; rw [← e]; exact hi))).rest a2 (fun i hi e => n5 (by simp only [List.mem_singleton] at e; rw [← e]; exact hi))).rest a3 (fun i hi e => n6 (by simp only [List.mem_singleton] at e; rw [← e]; exact hi))
    · exact ((hV.keep (.set q4 (by decide) _)).keep (.set q5' (by decide) _)).keep (.set q6' (by decide) _)
  | inr k =>
    rw [hp] at hout
    obtain ⟨rfl, h1, h2, h3, h4⟩ := hout
    refine ⟨_, _, main (.tup [.nils, i64 (k : Nat), i64 5]) z fun T0 hT0 => ?_, h1, rfl⟩
    obtain ⟨t0, t3, t4, t5, t6, t7, t17⟩ := hT0
    exact ⟨_, res22 ⟨t0, t4, t5, t6⟩ h2 h3 h4, rfl, rfl⟩
end
section
set_option maxRecDepth 8000
/-! ### a new object is marked: its block is its own -/
def St.wg (s : St) (i : Nat) : St := { s with gl := (i, []) :: s.gl }
def St.ug (s : St) (st : St) : St := { s with gl := st.gl }
theorem OK.wg {g : G} {st : St} {w : World} {i : Nat} (h : OK g st w) (hi : i < g.n) (hb : g.base i = 0) (hs : g.siz i = 2) : OK g (st.wg i) w :=
  ⟨h.imm, h.obj, h.inj, h.sep, h.n, fun p hp => by
    rcases List.mem_cons.1 hp with rfl | hp
    · exact ⟨VR.iptr [] [] ⟨i, 0, none⟩ rfl (fun _ h => by simp at h) (fun _ h => by simp at h) ⟨rfl, List.nil_prefix⟩, fun e => absurd rfl e, fun _ => ⟨hi, hb, hs⟩⟩
    · exact h.glob p hp⟩
theorem Step.ug {g g' : G} {st st' : St} {w w' : World} {i : Nat} (h : Step g (st.wg i) w g' st' w') : Step g st w g' (st'.ug st) w' :=
  ⟨h.le, ⟨h.ok.imm, h.ok.obj, h.ok.inj, h.ok.sep, h.ok.n, fun p hp => h.ok.glob p (by rw [h.gl]; exact List.mem_cons_of_mem _ hp)⟩, h.os, h.tape, h.output, h.size, h.frame, h.from_, h.froz, h.lock, rfl⟩
theorem alloc_at {P : Program} {E : Env} (hE : EOK P E) {st : St} {t : Nat} {z : List AV} (hz : zeroA E t = some z) (hz2 : z.length = 2) {g : G} {w : World} (hok : OK g st w) :
    ∃ u w' g', (Instr.alloc t true (.tuple #[])).run P w = .ok u w' ∧ Step g st w g' (st.push (.row z t)) w' ∧ VR g' (.ptr st.next 0) u ∧ st.next < g'.n ∧ g'.base st.next = 0 ∧ g'.siz st.next = 2 := by
  obtain ⟨f, zv, hf, hfz, hzv, hz1⟩ := zeroA_ok hE hz g
  have hsz : zv.cells.size = 2 := by have := hzv.1; simpa [hz2] using this
  refine ⟨.pointer (some ⟨w.heap.size, 0, none⟩), { w with heap := w.heap.push (.cells zv.cells t) }, g.add w.heap.size 0 zv.cells.size, ?_,
    step_row hok (fr := (0, 0)) rfl rfl rfl rfl hzv hz1 (List.prefix_refl _) (by simp), ?_, ?_, ?_, ?_⟩
  · unfold Instr.alloc
    rw [Sem.run_bind, run_zero hf hfz, Result.andThen_ok]
    rfl
  · rw [← hok.n]
    have := VR.ptr (g := g.add w.heap.size 0 zv.cells.size) g.n 0 (Nat.lt_succ_self _)
    simpa using this
  · rw [← hok.n]; exact Nat.lt_succ_self _
  · rw [← hok.n]; simp [G.add]
  · rw [← hok.n]; simp [G.add, hsz]
theorem AW.mark {P : Program} {E : Env} (hE : EOK' P E) {id d t : Nat} {o : Oper} {ops : Array Oper} {z : List AV} {c : Code} {Q : Exit → Tm → St → Prop} {T : Tm} {st : St} (hops : ops.toList = [o]) (hop : o.op = .alloc t) (hg : o.guard = none) (hod : o.dst = some d) (hd : T.fits (some d) = true) (hz : zeroA E t = some z) (hz2 : z.length = 2)
    (h : AW P c (fun e T' st' => Q e T' (st'.ug st)) (T.put (some d) (.ptr st.next 0)) ((st.push (.row z t)).wg st.next)) : AW P (.seq (.region id ops false) c) Q T st := by
  intro g w a hok hT
  refine wp_seq (wp_region_list ?_)
  rw [hops]
  unfold wpList
  have hwt : Region.wanted o (yielded ops a.tmps) = true := by simp [Region.wanted, hg]
  rw [if_pos hwt]
  refine .inl ?_
  unfold Oper.wp
  obtain ⟨u, w', g', h1, h2, h3, h4, h5, h6⟩ := alloc_at hE.toEOK hz hz2 hok
  have hrun : (execOp a.eval o).run P w = .ok (.value u) w' := by
    unfold execOp
    simp only [hop]
    exact run_v h1
  rw [hrun, Oper.upon_value]
  refine wpList_nil ?_
  show Exit.then _ _ .normal _ _
  rw [hod]
  have hTT := (hT.mono h2.le).put (d := some d) hd h3
  refine wp_mono (h g' w' _ (h2.ok.wg h4 h5 h6) hTT) fun e a2 w2 k => ?_
  obtain ⟨g2, T2, st2, k1, k2, k3⟩ := k
  exact ⟨g2, T2, st2.ug st, h2.trans (k1.ug (st := st.push (.row z t))), k2, k3⟩
/-! ### append of what any source gives -/
theorem app_src {t u e sz : Nat} (hT : ElT t e sz) {σ : St} {l x : AV} {n m : Nat} {cells c : List AV} (h : Ls σ e sz l n cells) (hw : σ.wf) (hlk : ∀ i ∈ fid l, i ∉ σ.lock) (hb : n + m ≤ 100000000000) (hc : c.length = m * sz) (h0 : 0 < m) (hx : srcA E0 σ u x = some (m, c)) (hs : isStrTy E0 u = true → sz = 1) :
    ∃ st5, appendA E0 σ t u l x = some (.sl σ.next sz 0 (n + m) false, st5) ∧ Ls st5 e sz (.sl σ.next sz 0 (n + m) false) (n + m) (cells ++ c) ∧ Rest σ st5 (fid l) ∧ st5.next = σ.next + 1 := by
  obtain ⟨ti, z, h1, h2, h3⟩ := hT.el
  have hbb : (n + m) * ti.bytes ≤ 140737488355328 := Nat.le_trans (Nat.mul_le_mul hb h3) (by decide)
  have hb1 : m * ti.bytes ≤ 140737488355328 := Nat.le_trans (Nat.mul_le_mul (by omega : m ≤ 100000000000) h3) (by decide)
  rcases h with ⟨rfl, rfl, rfl⟩ | ⟨hlen, id, f, rfl, hg⟩
  · refine ⟨σ.push (.row c e), ?_, .inr ⟨by rw [List.nil_append, hc, Nat.zero_add], _, _, rfl, by rw [St.get_push, if_pos rfl, List.nil_append]⟩, Rest.push hw _ _, rfl⟩
    simp only [appendA, h1, hx, h2]
    rw [if_pos ⟨hc, hs⟩, if_neg (by omega), if_pos ⟨hb1, by omega⟩, Nat.zero_add]
  · have hid := hw _ _ hg
    have hnl : id ∉ σ.lock := hlk id (by simp [fid])
    have hcl : (cells ++ c).length = (n + m) * sz := by rw [List.length_append, hlen, hc, Nat.add_mul]
    have htk : ((cells.drop 0).take (n * sz) ++ c) = cells ++ c := by rw [List.drop_zero, List.take_of_length_le (by omega)]
    cases f with
    | true =>
      refine ⟨σ.push (.row (cells ++ c) e), ?_, .inr ⟨hcl, _, _, rfl, by rw [St.get_push, if_pos rfl]⟩, Rest.push hw _ _, rfl⟩
      simp only [appendA, h1, hx, h2, hg]
      rw [if_pos ⟨hc, hs⟩, if_neg (fun h => h rfl), if_neg (by omega), if_pos ⟨hbb, by omega⟩, if_pos ⟨trivial, by omega⟩, htk]
      rfl
    | false =>
      refine ⟨(σ.del id).push (.row (cells ++ c) e), ?_, .inr ⟨hcl, _, _, rfl, by rw [St.get_push, if_pos (by simp)]⟩, ⟨fun i o hi ho => ?_, ?_, rfl, rfl, push_wf (del_wf hw _) _⟩, rfl⟩
      · simp only [appendA, h1, hx, h2, hg]
        rw [if_pos ⟨hc, hs⟩, if_neg (fun h => h rfl), if_neg (by omega), if_pos ⟨hbb, by omega⟩, if_pos ⟨trivial, by omega⟩]
        simp only [Bool.false_eq_true, if_false]
        rw [if_pos ⟨by omega, hnl⟩, List.drop_zero]
      · have := hw _ _ ho
        rw [St.get_push, if_neg (by rw [St.next_del]; omega), St.get_del, if_neg (fun e => hi (by simp [fid, e]))]; exact ho
      · show σ.next ≤ σ.next + 1; omega
/-- a string's bytes, appended -/
theorem app_str {σ : St} {l : AV} {b s : List UInt8} (h : OwnB σ l b) (hw : σ.wf) (hlk : σ.lock = []) (hb : b.length + s.length ≤ 100000000000) :
    ∃ l' st5, appendA E0 σ 22 9 l (sb s) = some (l', st5) ∧ OwnB st5 l' (b ++ s) ∧ Rest σ st5 (fid l) ∧ (∀ j ∈ fid l', j ∈ fid l ∨ σ.next ≤ j) ∧ (s = [] → l' = l) := by
  have hx : srcA E0 σ 9 (sb s) = some (s.length, bytesAV s) := by simp only [srcA, ty9]; rfl
  have hlt := Ls.lt h hw
  cases s with
  | nil =>
    obtain ⟨ti, z, h1, h2, h3⟩ := el22.el
    have hl := Ls.lt h hw
    refine ⟨l, σ, ?_, by rw [List.append_nil]; exact h, .refl hw _, fun j hj => .inl hj, fun _ => rfl⟩
    rcases h with ⟨h4, h5, rfl⟩ | ⟨h4, id, f, rfl, hg⟩
    · simp only [appendA, h1, hx, h2]
      rw [if_pos ⟨rfl, fun _ => by trivial⟩]; rfl
    · simp only [appendA, h1, hx, h2]
      rw [if_pos ⟨rfl, fun _ => by trivial⟩, if_neg (fun h => h rfl)]; rfl
  | cons c r =>
    obtain ⟨st5, a1, a2, a3, a4⟩ := app_src (u := 9) el22 h hw (fun i _ => by rw [hlk]; simp) hb (by rw [bytesAV_len, Nat.mul_one]) (by simp) hx (fun _ => rfl)
    refine ⟨_, st5, a1, ?_, a3, fun j hj => .inr (by simp only [fid, List.mem_singleton] at hj; omega), fun h => by cases h⟩
    rw [← bytesAV_app] at a2
    unfold OwnB
    rw [List.length_append]
    exact a2
/-! ### the builder -/
def Bld (st : St) (id : Nat) (l : List UInt8) : Prop := (id, []) ∈ st.gl ∧ ∃ p x, st.get id = some (.row [p, x] 55) ∧ (p = .nilp ∨ p = .ptr id 0) ∧ OwnB st x l ∧ (∀ j ∈ fid x, id ≤ j) ∧ (l = [] → x = .nils)
end
end Go.Proofs.YtnknfheabnogaaaDoor.E
