/- Alike of escritoirelaw13, over the abstract machine: disks that are alike are told alike. No condition beyond those that the lemmas name. -/
import Derived.Test.YtniaiciabfdbnaaPc
namespace Go.Proofs.Ytniaiciabfdbnaa.E
open Go Go.Proofs
section
set_option maxRecDepth 100000
theorem f16_T_e (st : St) (v w : AV) (w6 w8 : ByteArray) : evCallS Try.prog E0 noOv (fun _ => [2006, 2008, 7009]) 100000 16 [v, w] st [.eff (str w6) id, .eff (str w8) id, .av TT] = some (TT, st, [], [convO E0 st 28 9 v = some ((str w6), st), convO E0 st 28 9 w = some ((str w8), st), binA E0 .eql 9 (str w6) (str w8) = some TT]) := by kernel_rfl
theorem f16_T {st : St} {v w : AV} {w6 w8 : ByteArray} (h1 : convO E0 st 28 9 v = some ((str w6), st)) (h2 : convO E0 st 28 9 w = some ((str w8), st)) (h3 : binA E0 .eql 9 (str w6) (str w8) = some TT) : obC 16 [v, w] st TT st := ACalls.run hE noOv_ok (f16_T_e st v w w6 w8) (Ob.ok_cons.2 ⟨h1, (Ob.ok_cons.2 ⟨h2, (Ob.ok_cons.2 ⟨h3, Ob.ok_nil⟩)⟩)⟩)
theorem f16_F_e (st : St) (v w : AV) (w6 w8 : ByteArray) : evCallS Try.prog E0 noOv (fun _ => [2006, 2008, 7009]) 100000 16 [v, w] st [.eff (str w6) id, .eff (str w8) id, .av FF] = some (FF, st, [], [convO E0 st 28 9 v = some ((str w6), st), convO E0 st 28 9 w = some ((str w8), st), binA E0 .eql 9 (str w6) (str w8) = some FF]) := by kernel_rfl
theorem f16_F {st : St} {v w : AV} {w6 w8 : ByteArray} (h1 : convO E0 st 28 9 v = some ((str w6), st)) (h2 : convO E0 st 28 9 w = some ((str w8), st)) (h3 : binA E0 .eql 9 (str w6) (str w8) = some FF) : obC 16 [v, w] st FF st := ACalls.run hE noOv_ok (f16_F_e st v w w6 w8) (Ob.ok_cons.2 ⟨h1, (Ob.ok_cons.2 ⟨h2, (Ob.ok_cons.2 ⟨h3, Ob.ok_nil⟩)⟩)⟩)
noncomputable def f47P (i : Nat) : Code := match Try.f47.body with
  | some (.seq x0 (.seq x1 (.seq x2 (.seq x3 (.seq x4 (.seq x5 (.seq (.seq x6 (.block 0 (.loop x7))) x8))))))) => [x0, x1, x2, x3, x4, x5, x6, x7, x8].getD i .skip
  | _ => .skip
theorem f47body : Try.f47.body = some (.seq (f47P 0) (.seq (f47P 1) (.seq (f47P 2) (.seq (f47P 3) (.seq (f47P 4) (.seq (f47P 5) (.seq (.seq (f47P 6) (.block 0 (.loop (f47P 7)))) (f47P 8)))))))) := by kernel_rfl
def f47L0 (T : Tm) (a0 a1 a2 : AV) : Prop := T.n = 144 ∧ T.get 0 = a0 ∧ T.get 1 = a1 ∧ T.get 2 = a2
theorem f47_0_e (d e : Nat) (x : AV) (st : St) : ((evS Try.prog E0 noOv noS 100000 [] (f47P 0) ⟨144, [(0, (.ptr d 0)), (1, (.ptr e 0)), (2, x)], []⟩ st []).map fun q => (q.1, q.2.1.n, ([q.2.1.get 0, q.2.1.get 1, q.2.1.get 2] : List AV), q.2.2.1, q.2.2.2.2)) = some (.normal, 144, [(.ptr d 0), (.ptr e 0), x], st, []) := by kernel_rfl
theorem f47_0 {d e : Nat} {x : AV} {st : St}  {T : Tm} (hT : f47L0 T (.ptr d 0) (.ptr e 0) x) : AW Try.prog (f47P 0) (fun ex T' st' => ex = .normal ∧ f47L0 T' (.ptr d 0) (.ptr e 0) x ∧ st' = st) T st := by
  obtain ⟨hn, g0, g1, g2⟩ := hT
  exact (gen_run (G := fun T => ([T.get 0, T.get 1, T.get 2] : List AV)) hE (f47_0_e d e x st) Ob.ok_nil hn (conz g0 (conz g1 (one g2)))).mono fun ex T' st' ⟨q1, q2, q3, q4⟩ => by simp only [List.cons.injEq, and_true] at q3; exact ⟨q1, ⟨q2, q3⟩, q4⟩
theorem f47_1_FFF_e (d e : Nat) (x v39 v34 : AV) (st s1 s2 s3 s4 : St) (b23 b19 : Bool) (n27 n29 n40 n35 : Int) : ((evS Try.prog E0 noOv noS 100000 [6026, 6028, 6029, 6074, 7024, 7030, 7035, 7040, 7041, 8000] (f47P 1) ⟨144, [(0, (.ptr d 0)), (1, (.ptr e 0)), (2, x)], []⟩ st [.eff (bo b23) id, .eff (bo b19) (fun _ => s1), .eff FF id, .eff (i64 n27) (fun _ => s2), .eff (i64 n29) (fun _ => s3), .eff FF id, .eff v39 id, .eff (i64 n40) id, .eff v34 (fun _ => s4), .eff (i64 n35) id, .eff FF id]).map fun q => (q.1, q.2.1.n, ([q.2.1.get 0, q.2.1.get 1, q.2.1.get 2] : List AV), q.2.2.1, q.2.2.2.2)) = some (.normal, 144, [(.ptr d 0), (.ptr e 0), x], s4.show (s3.show (s2.show (s1.show st [e]) [e]) [e]) [e], [∀ k ∈ [e], k < st.next, [e].contains e = true ∧ loadA E0 st 4 (.ptr e 3) = some (bo b23), (true = true → [e].all (fun k => (st.get k).isSome) = true), obC 29 [(.ptr d 0)] (st.hide [e]) (bo b19) s1, binA E0 .neq 4 (bo b19) (bo b23) = some FF, (true = true → [e].all (fun k => ((s1.show st [e]).get k).isSome) = true), obC 26 [(.ptr d 0)] ((s1.show st [e]).hide [e]) (i64 n27) s2, (true = true → [e].all (fun k => ((s2.show (s1.show st [e]) [e]).get k).isSome) = true), obC 74 [(.ptr e 0)] ((s2.show (s1.show st [e]) [e]).hide [e]) (i64 n29) s3, binA E0 .neq 3 (i64 n27) (i64 n29) = some FF, [e].contains e = true ∧ loadA E0 (s3.show (s2.show (s1.show st [e]) [e]) [e]) 113 (.ptr e 0) = some v39, lenA E0 113 v39 = some (i64 n40), (true = true → [e].all (fun k => ((s3.show (s2.show (s1.show st [e]) [e]) [e]).get k).isSome) = true), obC 28 [(.ptr d 0)] ((s3.show (s2.show (s1.show st [e]) [e]) [e]).hide [e]) v34 s4, lenA E0 54 v34 = some (i64 n35), binA E0 .neq 3 (i64 n35) (i64 n40) = some FF]) := by kernel_rfl
theorem f47_1_FFF {d e : Nat} {x v39 v34 : AV} {st s1 s2 s3 s4 : St} {b23 b19 : Bool} {n27 n29 n40 n35 : Int} (h1 : ∀ k ∈ [e], k < st.next) (h2 : loadA E0 st 4 (.ptr e 3) = some (bo b23)) (h3 : [e].all (fun k => (st.get k).isSome) = true) (h4 : obC 29 [(.ptr d 0)] (st.hide [e]) (bo b19) s1) (h5 : binA E0 .neq 4 (bo b19) (bo b23) = some FF) (h6 : [e].all (fun k => ((s1.show st [e]).get k).isSome) = true) (h7 : obC 26 [(.ptr d 0)] ((s1.show st [e]).hide [e]) (i64 n27) s2) (h8 : [e].all (fun k => ((s2.show (s1.show st [e]) [e]).get k).isSome) = true) (h9 : obC 74 [(.ptr e 0)] ((s2.show (s1.show st [e]) [e]).hide [e]) (i64 n29) s3) (h10 : binA E0 .neq 3 (i64 n27) (i64 n29) = some FF) (h11 : loadA E0 (s3.show (s2.show (s1.show st [e]) [e]) [e]) 113 (.ptr e 0) = some v39) (h12 : lenA E0 113 v39 = some (i64 n40)) (h13 : [e].all (fun k => ((s3.show (s2.show (s1.show st [e]) [e]) [e]).get k).isSome) = true) (h14 : obC 28 [(.ptr d 0)] ((s3.show (s2.show (s1.show st [e]) [e]) [e]).hide [e]) v34 s4) (h15 : lenA E0 54 v34 = some (i64 n35)) (h16 : binA E0 .neq 3 (i64 n35) (i64 n40) = some FF) {T : Tm} (hT : f47L0 T (.ptr d 0) (.ptr e 0) x) : AW Try.prog (f47P 1) (fun ex T' st' => ex = .normal ∧ f47L0 T' (.ptr d 0) (.ptr e 0) x ∧ st' = (s4.show (s3.show (s2.show (s1.show st [e]) [e]) [e]) [e])) T st := by
  obtain ⟨hn, g0, g1, g2⟩ := hT
  exact (gen_run (G := fun T => ([T.get 0, T.get 1, T.get 2] : List AV)) hE (f47_1_FFF_e d e x v39 v34 st s1 s2 s3 s4 b23 b19 n27 n29 n40 n35) (Ob.ok_cons.2 ⟨h1, (Ob.ok_cons.2 ⟨⟨by simp, h2⟩, (Ob.ok_cons.2 ⟨fun _ => h3, (Ob.ok_cons.2 ⟨h4, (Ob.ok_cons.2 ⟨h5, (Ob.ok_cons.2 ⟨fun _ => h6, (Ob.ok_cons.2 ⟨h7, (Ob.ok_cons.2 ⟨fun _ => h8, (Ob.ok_cons.2 ⟨h9, (Ob.ok_cons.2 ⟨h10, (Ob.ok_cons.2 ⟨⟨by simp, h11⟩, (Ob.ok_cons.2 ⟨h12, (Ob.ok_cons.2 ⟨fun _ => h13, (Ob.ok_cons.2 ⟨h14, (Ob.ok_cons.2 ⟨h15, (Ob.ok_cons.2 ⟨h16, Ob.ok_nil⟩)⟩)⟩)⟩)⟩)⟩)⟩)⟩)⟩)⟩)⟩)⟩)⟩)⟩)⟩)⟩) hn (conz g0 (conz g1 (one g2)))).mono fun ex T' st' ⟨q1, q2, q3, q4⟩ => by simp only [List.cons.injEq, and_true] at q3; exact ⟨q1, ⟨q2, q3⟩, q4⟩
def f47L1 (T : Tm) (a0 a1 a2 a7 a8 : AV) : Prop := T.n = 144 ∧ T.get 0 = a0 ∧ T.get 1 = a1 ∧ T.get 2 = a2 ∧ T.get 7 = a7 ∧ T.get 8 = a8
theorem f47_2_e (d e p44 p46 : Nat) (x : AV) (st s1 s2 : St) : ((evS Try.prog E0 noOv noS 100000 [6035, 6077] (f47P 2) ⟨144, [(0, (.ptr d 0)), (1, (.ptr e 0)), (2, x)], []⟩ st [.eff (.ptr p44 0) (fun _ => s1), .eff (.ptr p46 0) (fun _ => s2)]).map fun q => (q.1, q.2.1.n, ([q.2.1.get 0, q.2.1.get 1, q.2.1.get 2, q.2.1.get 7, q.2.1.get 8] : List AV), q.2.2.1, q.2.2.2.2)) = some (.normal, 144, [(.ptr d 0), (.ptr e 0), x, (.ptr p44 0), (.ptr p46 0)], s2, [obC 35 [(.ptr d 0)] st (.ptr p44 0) s1, obC 77 [(.ptr e 0)] s1 (.ptr p46 0) s2]) := by kernel_rfl
theorem f47_2 {d e p44 p46 : Nat} {x : AV} {st s1 s2 : St} (h1 : obC 35 [(.ptr d 0)] st (.ptr p44 0) s1) (h2 : obC 77 [(.ptr e 0)] s1 (.ptr p46 0) s2) {T : Tm} (hT : f47L0 T (.ptr d 0) (.ptr e 0) x) : AW Try.prog (f47P 2) (fun ex T' st' => ex = .normal ∧ f47L1 T' (.ptr d 0) (.ptr e 0) x (.ptr p44 0) (.ptr p46 0) ∧ st' = s2) T st := by
  obtain ⟨hn, g0, g1, g2⟩ := hT
  exact (gen_run (G := fun T => ([T.get 0, T.get 1, T.get 2, T.get 7, T.get 8] : List AV)) hE (f47_2_e d e p44 p46 x st s1 s2) (Ob.ok_cons.2 ⟨h1, (Ob.ok_cons.2 ⟨h2, Ob.ok_nil⟩)⟩) hn (conz g0 (conz g1 (one g2)))).mono fun ex T' st' ⟨q1, q2, q3, q4⟩ => by simp only [List.cons.injEq, and_true] at q3; exact ⟨q1, ⟨q2, q3⟩, q4⟩
theorem f47_3_e (d e d2 e2 : Nat) (x : AV) (st s1 : St) : ((evS Try.prog E0 noOv noS 100000 [6030] (f47P 3) ⟨144, [(0, (.ptr d 0)), (1, (.ptr e 0)), (2, x), (7, (.ptr d2 0)), (8, (.ptr e2 0))], []⟩ st [.eff (.tup []) (fun _ => s1)]).map fun q => (q.1, q.2.1.n, ([q.2.1.get 0, q.2.1.get 1, q.2.1.get 2, q.2.1.get 7, q.2.1.get 8] : List AV), q.2.2.1, q.2.2.2.2)) = some (.normal, 144, [(.ptr d 0), (.ptr e 0), x, (.ptr d2 0), (.ptr e2 0)], s1, [obC 30 [(.ptr d2 0), x] st (.tup []) s1]) := by kernel_rfl
theorem f47_3 {d e d2 e2 : Nat} {x : AV} {st s1 : St} (h1 : obC 30 [(.ptr d2 0), x] st (.tup []) s1) {T : Tm} (hT : f47L1 T (.ptr d 0) (.ptr e 0) x (.ptr d2 0) (.ptr e2 0)) : AW Try.prog (f47P 3) (fun ex T' st' => ex = .normal ∧ f47L1 T' (.ptr d 0) (.ptr e 0) x (.ptr d2 0) (.ptr e2 0) ∧ st' = s1) T st := by
  obtain ⟨hn, g0, g1, g2, g7, g8⟩ := hT
  exact (gen_run (G := fun T => ([T.get 0, T.get 1, T.get 2, T.get 7, T.get 8] : List AV)) hE (f47_3_e d e d2 e2 x st s1) (Ob.ok_cons.2 ⟨h1, Ob.ok_nil⟩) hn (conz g0 (conz g1 (conz g2 (conz g7 (one g8)))))).mono fun ex T' st' ⟨q1, q2, q3, q4⟩ => by simp only [List.cons.injEq, and_true] at q3; exact ⟨q1, ⟨q2, q3⟩, q4⟩
def f47L2 (T : Tm) (a0 a1 a7 a8 : AV) : Prop := T.n = 144 ∧ T.get 0 = a0 ∧ T.get 1 = a1 ∧ T.get 7 = a7 ∧ T.get 8 = a8
theorem f47_4_e (d e d2 e2 : Nat) (x : AV) (st s1 : St) : ((evS Try.prog E0 noOv noS 100000 [6046] (f47P 4) ⟨144, [(0, (.ptr d 0)), (1, (.ptr e 0)), (2, x), (7, (.ptr d2 0)), (8, (.ptr e2 0))], []⟩ st [.eff (.tup []) (fun _ => s1)]).map fun q => (q.1, q.2.1.n, ([q.2.1.get 0, q.2.1.get 1, q.2.1.get 7, q.2.1.get 8] : List AV), q.2.2.1, q.2.2.2.2)) = some (.normal, 144, [(.ptr d 0), (.ptr e 0), (.ptr d2 0), (.ptr e2 0)], s1, [obC 46 [(.ptr e2 0), x] st (.tup []) s1]) := by kernel_rfl
theorem f47_4 {d e d2 e2 : Nat} {x : AV} {st s1 : St} (h1 : obC 46 [(.ptr e2 0), x] st (.tup []) s1) {T : Tm} (hT : f47L1 T (.ptr d 0) (.ptr e 0) x (.ptr d2 0) (.ptr e2 0)) : AW Try.prog (f47P 4) (fun ex T' st' => ex = .normal ∧ f47L2 T' (.ptr d 0) (.ptr e 0) (.ptr d2 0) (.ptr e2 0) ∧ st' = s1) T st := by
  obtain ⟨hn, g0, g1, g2, g7, g8⟩ := hT
  exact (gen_run (G := fun T => ([T.get 0, T.get 1, T.get 7, T.get 8] : List AV)) hE (f47_4_e d e d2 e2 x st s1) (Ob.ok_cons.2 ⟨h1, Ob.ok_nil⟩) hn (conz g0 (conz g1 (conz g2 (conz g7 (one g8)))))).mono fun ex T' st' ⟨q1, q2, q3, q4⟩ => by simp only [List.cons.injEq, and_true] at q3; exact ⟨q1, ⟨q2, q3⟩, q4⟩
def f47L3 (T : Tm) (a0 a1 a7 a8 a9 : AV) : Prop := T.n = 144 ∧ T.get 0 = a0 ∧ T.get 1 = a1 ∧ T.get 7 = a7 ∧ T.get 8 = a8 ∧ T.get 9 = a9
theorem f47_5_e (d e d2 e2 : Nat) (st s1 : St) (v54 : AV) : ((evS Try.prog E0 noOv noS 100000 [6028] (f47P 5) ⟨144, [(0, (.ptr d 0)), (1, (.ptr e 0)), (7, (.ptr d2 0)), (8, (.ptr e2 0))], []⟩ st [.eff v54 (fun _ => s1)]).map fun q => (q.1, q.2.1.n, ([q.2.1.get 0, q.2.1.get 1, q.2.1.get 7, q.2.1.get 8, q.2.1.get 9] : List AV), q.2.2.1, q.2.2.2.2)) = some (.normal, 144, [(.ptr d 0), (.ptr e 0), (.ptr d2 0), (.ptr e2 0), v54], s1, [obC 28 [(.ptr d 0)] st v54 s1]) := by kernel_rfl
theorem f47_5 {d e d2 e2 : Nat} {st s1 : St} {v54 : AV} (h1 : obC 28 [(.ptr d 0)] st v54 s1) {T : Tm} (hT : f47L2 T (.ptr d 0) (.ptr e 0) (.ptr d2 0) (.ptr e2 0)) : AW Try.prog (f47P 5) (fun ex T' st' => ex = .normal ∧ f47L3 T' (.ptr d 0) (.ptr e 0) (.ptr d2 0) (.ptr e2 0) v54 ∧ st' = s1) T st := by
  obtain ⟨hn, g0, g1, g7, g8⟩ := hT
  exact (gen_run (G := fun T => ([T.get 0, T.get 1, T.get 7, T.get 8, T.get 9] : List AV)) hE (f47_5_e d e d2 e2 st s1 v54) (Ob.ok_cons.2 ⟨h1, Ob.ok_nil⟩) hn (conz g0 (conz g1 (conz g7 (one g8))))).mono fun ex T' st' ⟨q1, q2, q3, q4⟩ => by simp only [List.cons.injEq, and_true] at q3; exact ⟨q1, ⟨q2, q3⟩, q4⟩
def f47L4 (T : Tm) (a0 a1 a7 a8 a9 a58 a59 a60 : AV) : Prop := T.n = 144 ∧ T.get 0 = a0 ∧ T.get 1 = a1 ∧ T.get 7 = a7 ∧ T.get 8 = a8 ∧ T.get 9 = a9 ∧ T.get 58 = a58 ∧ T.get 59 = a59 ∧ T.get 60 = a60
theorem f47_6_e (d e d2 e2 : Nat) (v9 v58 : AV) (st : St) (n59 : Int) : ((evS Try.prog E0 noOv noS 100000 [2058, 7059] (f47P 6) ⟨144, [(0, (.ptr d 0)), (1, (.ptr e 0)), (7, (.ptr d2 0)), (8, (.ptr e2 0)), (9, v9)], []⟩ st [.eff v58 id, .av (i64 n59)]).map fun q => (q.1, q.2.1.n, ([q.2.1.get 0, q.2.1.get 1, q.2.1.get 7, q.2.1.get 8, q.2.1.get 9, q.2.1.get 58, q.2.1.get 59, q.2.1.get 60] : List AV), q.2.2.1, q.2.2.2.2)) = some (.normal, 144, [(.ptr d 0), (.ptr e 0), (.ptr d2 0), (.ptr e2 0), v9, v58, (i64 n59), (i64 0)], st, [loadA E0 st 113 (.ptr e 0) = some v58 ∧ st = st, lenA E0 113 v58 = some (i64 n59)]) := by kernel_rfl
theorem f47_6 {d e d2 e2 : Nat} {v9 v58 : AV} {st : St} {n59 : Int} (h1 : loadA E0 st 113 (.ptr e 0) = some v58) (h2 : lenA E0 113 v58 = some (i64 n59)) {T : Tm} (hT : f47L3 T (.ptr d 0) (.ptr e 0) (.ptr d2 0) (.ptr e2 0) v9) : AW Try.prog (f47P 6) (fun ex T' st' => ex = .normal ∧ f47L4 T' (.ptr d 0) (.ptr e 0) (.ptr d2 0) (.ptr e2 0) v9 v58 (i64 n59) (i64 0) ∧ st' = st) T st := by
  obtain ⟨hn, g0, g1, g7, g8, g9⟩ := hT
  exact (gen_run (G := fun T => ([T.get 0, T.get 1, T.get 7, T.get 8, T.get 9, T.get 58, T.get 59, T.get 60] : List AV)) hE (f47_6_e d e d2 e2 v9 v58 st n59) (Ob.ok_cons.2 ⟨⟨h1, rfl⟩, (Ob.ok_cons.2 ⟨h2, Ob.ok_nil⟩)⟩) hn (conz g0 (conz g1 (conz g7 (conz g8 (one g9)))))).mono fun ex T' st' ⟨q1, q2, q3, q4⟩ => by simp only [List.cons.injEq, and_true] at q3; exact ⟨q1, ⟨q2, q3⟩, q4⟩
theorem f47_7_TFFTT_e (d e d2 e2 p63 o63 a11 p81 o81 : Nat) (v9 v58 v64 v69a v76a : AV) (n59 n60 n69b n76b n143 : Int) (st s1 s2 s3 s4 s5 : St) (w68 w75 w82 w84 : ByteArray) : ((evS Try.prog E0 noOv noS 100000 [2011, 2064, 2068, 2075, 2100, 2105, 2112, 2119, 2139, 5000, 6016, 6025, 6031, 6042, 7061, 7063, 7081, 7085, 7089, 7125, 7134, 7140, 7141, 7143, 8000] (f47P 7) ⟨144, [(0, (.ptr d 0)), (1, (.ptr e 0)), (7, (.ptr d2 0)), (8, (.ptr e2 0)), (9, v9), (58, v58), (59, (i64 n59)), (60, (i64 n60))], []⟩ st [.av TT, .av (.ptr p63 o63), .eff v64 id, .eff (.ptr a11 0) (fun _ => s1), .eff .undef (fun _ => s2), .eff (str w68) id, .eff (.tup [v69a, (i64 n69b)]) (fun _ => s3), .eff (str w75) id, .eff (.tup [v76a, (i64 n76b)]) (fun _ => s4), .eff (.ptr p81 o81) id, .eff (str w82) id, .eff (str w84) id, .eff FF id, .eff FF id, .eff TT (fun _ => s5), .eff TT id, .av (i64 n143)]).map fun q => (q.1, q.2.1.n, ([q.2.1.get 0, q.2.1.get 1, q.2.1.get 7, q.2.1.get 8, q.2.1.get 9, q.2.1.get 58, q.2.1.get 59, q.2.1.get 60] : List AV), q.2.2.1, q.2.2.2.2)) = some (.normal, 144, [(.ptr d 0), (.ptr e 0), (.ptr d2 0), (.ptr e2 0), v9, v58, (i64 n59), (i64 n143)], s5.show s4 [p81, a11], [binA E0 .lss 3 (i64 n60) (i64 n59) = some TT, indexAddrA E0 113 v58 (i64 n60) = some (.ptr p63 o63), loadA E0 st 121 (.ptr p63 o63) = some v64 ∧ st = st, allocA E0 st 121 = some ((.ptr a11 0), s1), storeA E0 s1 121 (.ptr a11 0) v64 = some s2, loadA E0 s2 9 (.ptr a11 0) = some (str w68) ∧ s2 = s2, obC 25 [(.ptr d2 0), (str w68)] s2 (.tup [v69a, (i64 n69b)]) s3, loadA E0 s3 9 (.ptr a11 0) = some (str w75) ∧ s3 = s3, obC 42 [(.ptr e2 0), (str w75)] s3 (.tup [v76a, (i64 n76b)]) s4, ∀ k ∈ [p81, a11], k < s4.next, indexAddrA E0 54 v9 (i64 n60) = some (.ptr p81 o81), [p81, a11].contains p81 = true ∧ loadA E0 s4 9 (.ptr p81 o81) = some (str w82), [p81, a11].contains a11 = true ∧ loadA E0 s4 9 (.ptr a11 0) = some (str w84), binA E0 .neq 9 (str w82) (str w84) = some FF, binA E0 .neq 3 (i64 n69b) (i64 n76b) = some FF, (true = true → [p81, a11].all (fun k => (s4.get k).isSome) = true), obC 16 [v69a, v76a] (s4.hide [p81, a11]) TT s5, loadA E0 (s5.show s4 [p81, a11]) 4 (.ptr e 3) = some TT ∧ (s5.show s4 [p81, a11]) = (s5.show s4 [p81, a11]), binA E0 .add 3 (i64 n60) (i64 1) = some (i64 n143)]) := by kernel_rfl
theorem f47_7_TFFTT {d e d2 e2 p63 o63 a11 p81 o81 : Nat} {v9 v58 v64 v69a v76a : AV} {n59 n60 n69b n76b n143 : Int} {st s1 s2 s3 s4 s5 : St} {w68 w75 w82 w84 : ByteArray} (h1 : binA E0 .lss 3 (i64 n60) (i64 n59) = some TT) (h2 : indexAddrA E0 113 v58 (i64 n60) = some (.ptr p63 o63)) (h3 : loadA E0 st 121 (.ptr p63 o63) = some v64) (h4 : allocA E0 st 121 = some ((.ptr a11 0), s1)) (h5 : storeA E0 s1 121 (.ptr a11 0) v64 = some s2) (h6 : loadA E0 s2 9 (.ptr a11 0) = some (str w68)) (h7 : obC 25 [(.ptr d2 0), (str w68)] s2 (.tup [v69a, (i64 n69b)]) s3) (h8 : loadA E0 s3 9 (.ptr a11 0) = some (str w75)) (h9 : obC 42 [(.ptr e2 0), (str w75)] s3 (.tup [v76a, (i64 n76b)]) s4) (h10 : ∀ k ∈ [p81, a11], k < s4.next) (h11 : indexAddrA E0 54 v9 (i64 n60) = some (.ptr p81 o81)) (h12 : loadA E0 s4 9 (.ptr p81 o81) = some (str w82)) (h13 : loadA E0 s4 9 (.ptr a11 0) = some (str w84)) (h14 : binA E0 .neq 9 (str w82) (str w84) = some FF) (h15 : binA E0 .neq 3 (i64 n69b) (i64 n76b) = some FF) (h16 : [p81, a11].all (fun k => (s4.get k).isSome) = true) (h17 : obC 16 [v69a, v76a] (s4.hide [p81, a11]) TT s5) (h18 : loadA E0 (s5.show s4 [p81, a11]) 4 (.ptr e 3) = some TT) (h19 : binA E0 .add 3 (i64 n60) (i64 1) = some (i64 n143)) {T : Tm} (hT : f47L4 T (.ptr d 0) (.ptr e 0) (.ptr d2 0) (.ptr e2 0) v9 v58 (i64 n59) (i64 n60)) : AW Try.prog (f47P 7) (fun ex T' st' => ex = .normal ∧ f47L4 T' (.ptr d 0) (.ptr e 0) (.ptr d2 0) (.ptr e2 0) v9 v58 (i64 n59) (i64 n143) ∧ st' = (s5.show s4 [p81, a11])) T st := by
  obtain ⟨hn, g0, g1, g7, g8, g9, g58, g59, g60⟩ := hT
  exact (gen_run (G := fun T => ([T.get 0, T.get 1, T.get 7, T.get 8, T.get 9, T.get 58, T.get 59, T.get 60] : List AV)) hE (f47_7_TFFTT_e d e d2 e2 p63 o63 a11 p81 o81 v9 v58 v64 v69a v76a n59 n60 n69b n76b n143 st s1 s2 s3 s4 s5 w68 w75 w82 w84) (Ob.ok_cons.2 ⟨h1, (Ob.ok_cons.2 ⟨h2, (Ob.ok_cons.2 ⟨⟨h3, rfl⟩, (Ob.ok_cons.2 ⟨h4, (Ob.ok_cons.2 ⟨h5, (Ob.ok_cons.2 ⟨⟨h6, rfl⟩, (Ob.ok_cons.2 ⟨h7, (Ob.ok_cons.2 ⟨⟨h8, rfl⟩, (Ob.ok_cons.2 ⟨h9, (Ob.ok_cons.2 ⟨h10, (Ob.ok_cons.2 ⟨h11, (Ob.ok_cons.2 ⟨⟨by simp, h12⟩, (Ob.ok_cons.2 ⟨⟨by simp, h13⟩, (Ob.ok_cons.2 ⟨h14, (Ob.ok_cons.2 ⟨h15, (Ob.ok_cons.2 ⟨fun _ => h16, (Ob.ok_cons.2 ⟨h17, (Ob.ok_cons.2 ⟨⟨h18, rfl⟩, (Ob.ok_cons.2 ⟨h19, Ob.ok_nil⟩)⟩)⟩)⟩)⟩)⟩)⟩)⟩)⟩)⟩)⟩)⟩)⟩)⟩)⟩)⟩)⟩)⟩)⟩) hn (conz g0 (conz g1 (conz g7 (conz g8 (conz g9 (conz g58 (conz g59 (one g60))))))))).mono fun ex T' st' ⟨q1, q2, q3, q4⟩ => by simp only [List.cons.injEq, and_true] at q3; exact ⟨q1, ⟨q2, q3⟩, q4⟩
theorem f47_7_TFFTFFTFF_e (d e d2 e2 p63 o63 a11 p81 o81 : Nat) (v9 v58 v64 v69a v76a v106a v113a v139 : AV) (n59 n60 n69b n76b n106b n113b n120a n120b n140 n143 : Int) (st s1 s2 s3 s4 s5 s6 s7 s8 s9 : St) (w68 w75 w82 w84 w105 w112 w119 : ByteArray) : ((evS Try.prog E0 noOv noS 100000 [2011, 2064, 2068, 2075, 2100, 2105, 2112, 2119, 2139, 5000, 6016, 6025, 6031, 6042, 7061, 7063, 7081, 7085, 7089, 7125, 7134, 7140, 7141, 7143, 8000] (f47P 7) ⟨144, [(0, (.ptr d 0)), (1, (.ptr e 0)), (7, (.ptr d2 0)), (8, (.ptr e2 0)), (9, v9), (58, v58), (59, (i64 n59)), (60, (i64 n60))], []⟩ st [.av TT, .av (.ptr p63 o63), .eff v64 id, .eff (.ptr a11 0) (fun _ => s1), .eff .undef (fun _ => s2), .eff (str w68) id, .eff (.tup [v69a, (i64 n69b)]) (fun _ => s3), .eff (str w75) id, .eff (.tup [v76a, (i64 n76b)]) (fun _ => s4), .eff (.ptr p81 o81) id, .eff (str w82) id, .eff (str w84) id, .eff FF id, .eff FF id, .eff TT (fun _ => s5), .eff FF id, .eff (str w105) id, .eff (.tup [v106a, (i64 n106b)]) (fun _ => s6), .eff (str w112) id, .eff (.tup [v113a, (i64 n113b)]) (fun _ => s7), .eff (str w119) id, .eff (.tup [(i64 n120a), (i64 n120b)]) (fun _ => s8), .av FF, .eff TT (fun _ => s9), .av FF, .eff v139 id, .av (i64 n140), .av FF, .av (i64 n143)]).map fun q => (q.1, q.2.1.n, ([q.2.1.get 0, q.2.1.get 1, q.2.1.get 7, q.2.1.get 8, q.2.1.get 9, q.2.1.get 58, q.2.1.get 59, q.2.1.get 60] : List AV), q.2.2.1, q.2.2.2.2)) = some (.normal, 144, [(.ptr d 0), (.ptr e 0), (.ptr d2 0), (.ptr e2 0), v9, v58, (i64 n59), (i64 n143)], s9, [binA E0 .lss 3 (i64 n60) (i64 n59) = some TT, indexAddrA E0 113 v58 (i64 n60) = some (.ptr p63 o63), loadA E0 st 121 (.ptr p63 o63) = some v64 ∧ st = st, allocA E0 st 121 = some ((.ptr a11 0), s1), storeA E0 s1 121 (.ptr a11 0) v64 = some s2, loadA E0 s2 9 (.ptr a11 0) = some (str w68) ∧ s2 = s2, obC 25 [(.ptr d2 0), (str w68)] s2 (.tup [v69a, (i64 n69b)]) s3, loadA E0 s3 9 (.ptr a11 0) = some (str w75) ∧ s3 = s3, obC 42 [(.ptr e2 0), (str w75)] s3 (.tup [v76a, (i64 n76b)]) s4, ∀ k ∈ [p81, a11], k < s4.next, indexAddrA E0 54 v9 (i64 n60) = some (.ptr p81 o81), [p81, a11].contains p81 = true ∧ loadA E0 s4 9 (.ptr p81 o81) = some (str w82), [p81, a11].contains a11 = true ∧ loadA E0 s4 9 (.ptr a11 0) = some (str w84), binA E0 .neq 9 (str w82) (str w84) = some FF, binA E0 .neq 3 (i64 n69b) (i64 n76b) = some FF, (true = true → [p81, a11].all (fun k => (s4.get k).isSome) = true), obC 16 [v69a, v76a] (s4.hide [p81, a11]) TT s5, loadA E0 (s5.show s4 [p81, a11]) 4 (.ptr e 3) = some FF ∧ (s5.show s4 [p81, a11]) = (s5.show s4 [p81, a11]), loadA E0 (s5.show s4 [p81, a11]) 9 (.ptr a11 0) = some (str w105) ∧ (s5.show s4 [p81, a11]) = (s5.show s4 [p81, a11]), obC 25 [(.ptr d 0), (str w105)] (s5.show s4 [p81, a11]) (.tup [v106a, (i64 n106b)]) s6, loadA E0 s6 9 (.ptr a11 0) = some (str w112) ∧ s6 = s6, obC 42 [(.ptr e 0), (str w112)] s6 (.tup [v113a, (i64 n113b)]) s7, loadA E0 s7 9 (.ptr a11 0) = some (str w119) ∧ s7 = s7, obC 31 [(.ptr d 0), (str w119)] s7 (.tup [(i64 n120a), (i64 n120b)]) s8, binA E0 .neq 3 (i64 n106b) (i64 n113b) = some FF, obC 16 [v106a, v113a] s8 TT s9, binA E0 .neq 29 (i64 n120b) (i64 0) = some FF, loadA E0 s9 28 (.ptr a11 2) = some v139 ∧ s9 = s9, lenA E0 28 v139 = some (i64 n140), binA E0 .neq 3 (i64 n120a) (i64 n140) = some FF, binA E0 .add 3 (i64 n60) (i64 1) = some (i64 n143)]) := by kernel_rfl
theorem f47_7_TFFTFFTFF {d e d2 e2 p63 o63 a11 p81 o81 : Nat} {v9 v58 v64 v69a v76a v106a v113a v139 : AV} {n59 n60 n69b n76b n106b n113b n120a n120b n140 n143 : Int} {st s1 s2 s3 s4 s5 s6 s7 s8 s9 : St} {w68 w75 w82 w84 w105 w112 w119 : ByteArray} (h1 : binA E0 .lss 3 (i64 n60) (i64 n59) = some TT) (h2 : indexAddrA E0 113 v58 (i64 n60) = some (.ptr p63 o63)) (h3 : loadA E0 st 121 (.ptr p63 o63) = some v64) (h4 : allocA E0 st 121 = some ((.ptr a11 0), s1)) (h5 : storeA E0 s1 121 (.ptr a11 0) v64 = some s2) (h6 : loadA E0 s2 9 (.ptr a11 0) = some (str w68)) (h7 : obC 25 [(.ptr d2 0), (str w68)] s2 (.tup [v69a, (i64 n69b)]) s3) (h8 : loadA E0 s3 9 (.ptr a11 0) = some (str w75)) (h9 : obC 42 [(.ptr e2 0), (str w75)] s3 (.tup [v76a, (i64 n76b)]) s4) (h10 : ∀ k ∈ [p81, a11], k < s4.next) (h11 : indexAddrA E0 54 v9 (i64 n60) = some (.ptr p81 o81)) (h12 : loadA E0 s4 9 (.ptr p81 o81) = some (str w82)) (h13 : loadA E0 s4 9 (.ptr a11 0) = some (str w84)) (h14 : binA E0 .neq 9 (str w82) (str w84) = some FF) (h15 : binA E0 .neq 3 (i64 n69b) (i64 n76b) = some FF) (h16 : [p81, a11].all (fun k => (s4.get k).isSome) = true) (h17 : obC 16 [v69a, v76a] (s4.hide [p81, a11]) TT s5) (h18 : loadA E0 (s5.show s4 [p81, a11]) 4 (.ptr e 3) = some FF) (h19 : loadA E0 (s5.show s4 [p81, a11]) 9 (.ptr a11 0) = some (str w105)) (h20 : obC 25 [(.ptr d 0), (str w105)] (s5.show s4 [p81, a11]) (.tup [v106a, (i64 n106b)]) s6) (h21 : loadA E0 s6 9 (.ptr a11 0) = some (str w112)) (h22 : obC 42 [(.ptr e 0), (str w112)] s6 (.tup [v113a, (i64 n113b)]) s7) (h23 : loadA E0 s7 9 (.ptr a11 0) = some (str w119)) (h24 : obC 31 [(.ptr d 0), (str w119)] s7 (.tup [(i64 n120a), (i64 n120b)]) s8) (h25 : binA E0 .neq 3 (i64 n106b) (i64 n113b) = some FF) (h26 : obC 16 [v106a, v113a] s8 TT s9) (h27 : binA E0 .neq 29 (i64 n120b) (i64 0) = some FF) (h28 : loadA E0 s9 28 (.ptr a11 2) = some v139) (h29 : lenA E0 28 v139 = some (i64 n140)) (h30 : binA E0 .neq 3 (i64 n120a) (i64 n140) = some FF) (h31 : binA E0 .add 3 (i64 n60) (i64 1) = some (i64 n143)) {T : Tm} (hT : f47L4 T (.ptr d 0) (.ptr e 0) (.ptr d2 0) (.ptr e2 0) v9 v58 (i64 n59) (i64 n60)) : AW Try.prog (f47P 7) (fun ex T' st' => ex = .normal ∧ f47L4 T' (.ptr d 0) (.ptr e 0) (.ptr d2 0) (.ptr e2 0) v9 v58 (i64 n59) (i64 n143) ∧ st' = s9) T st := by
  obtain ⟨hn, g0, g1, g7, g8, g9, g58, g59, g60⟩ := hT
  exact (gen_run (G := fun T => ([T.get 0, T.get 1, T.get 7, T.get 8, T.get 9, T.get 58, T.get 59, T.get 60] : List AV)) hE (f47_7_TFFTFFTFF_e d e d2 e2 p63 o63 a11 p81 o81 v9 v58 v64 v69a v76a v106a v113a v139 n59 n60 n69b n76b n106b n113b n120a n120b n140 n143 st s1 s2 s3 s4 s5 s6 s7 s8 s9 w68 w75 w82 w84 w105 w112 w119) (Ob.ok_cons.2 ⟨h1, (Ob.ok_cons.2 ⟨h2, (Ob.ok_cons.2 ⟨⟨h3, rfl⟩, (Ob.ok_cons.2 ⟨h4, (Ob.ok_cons.2 ⟨h5, (Ob.ok_cons.2 ⟨⟨h6, rfl⟩, (Ob.ok_cons.2 ⟨h7, (Ob.ok_cons.2 ⟨⟨h8, rfl⟩, (Ob.ok_cons.2 ⟨h9, (Ob.ok_cons.2 ⟨h10, (Ob.ok_cons.2 ⟨h11, (Ob.ok_cons.2 ⟨⟨by simp, h12⟩, (Ob.ok_cons.2 ⟨⟨by simp, h13⟩, (Ob.ok_cons.2 ⟨h14, (Ob.ok_cons.2 ⟨h15, (Ob.ok_cons.2 ⟨fun _ => h16, (Ob.ok_cons.2 ⟨h17, (Ob.ok_cons.2 ⟨⟨h18, rfl⟩, (Ob.ok_cons.2 ⟨⟨h19, rfl⟩, (Ob.ok_cons.2 ⟨h20, (Ob.ok_cons.2 ⟨⟨h21, rfl⟩, (Ob.ok_cons.2 ⟨h22, (Ob.ok_cons.2 ⟨⟨h23, rfl⟩, (Ob.ok_cons.2 ⟨h24, (Ob.ok_cons.2 ⟨h25, (Ob.ok_cons.2 ⟨h26, (Ob.ok_cons.2 ⟨h27, (Ob.ok_cons.2 ⟨⟨h28, rfl⟩, (Ob.ok_cons.2 ⟨h29, (Ob.ok_cons.2 ⟨h30, (Ob.ok_cons.2 ⟨h31, Ob.ok_nil⟩)⟩)⟩)⟩)⟩)⟩)⟩)⟩)⟩)⟩)⟩)⟩)⟩)⟩)⟩)⟩)⟩)⟩)⟩)⟩)⟩)⟩)⟩)⟩)⟩)⟩)⟩)⟩)⟩)⟩)⟩) hn (conz g0 (conz g1 (conz g7 (conz g8 (conz g9 (conz g58 (conz g59 (one g60))))))))).mono fun ex T' st' ⟨q1, q2, q3, q4⟩ => by simp only [List.cons.injEq, and_true] at q3; exact ⟨q1, ⟨q2, q3⟩, q4⟩
def f47L5 (T : Tm) : Prop := T.n = 144
theorem f47_7_F_e (d e d2 e2 : Nat) (v9 v58 : AV) (n59 n60 : Int) (st : St) : ((evS Try.prog E0 noOv noS 100000 [2011, 2064, 2068, 2075, 2100, 2105, 2112, 2119, 2139, 5000, 6016, 6025, 6031, 6042, 7061, 7063, 7081, 7085, 7089, 7125, 7134, 7140, 7141, 7143, 8000] (f47P 7) ⟨144, [(0, (.ptr d 0)), (1, (.ptr e 0)), (7, (.ptr d2 0)), (8, (.ptr e2 0)), (9, v9), (58, v58), (59, (i64 n59)), (60, (i64 n60))], []⟩ st [.av FF]).map fun q => (q.1, q.2.1.n, ([] : List AV), q.2.2.1, q.2.2.2.2)) = some ((.exit 0), 144, [], st, [binA E0 .lss 3 (i64 n60) (i64 n59) = some FF]) := by kernel_rfl
theorem f47_7_F {d e d2 e2 : Nat} {v9 v58 : AV} {n59 n60 : Int} {st : St} (h1 : binA E0 .lss 3 (i64 n60) (i64 n59) = some FF) {T : Tm} (hT : f47L4 T (.ptr d 0) (.ptr e 0) (.ptr d2 0) (.ptr e2 0) v9 v58 (i64 n59) (i64 n60)) : AW Try.prog (f47P 7) (fun ex T' st' => ex = (.exit 0) ∧ f47L5 T'  ∧ st' = st) T st := by
  obtain ⟨hn, g0, g1, g7, g8, g9, g58, g59, g60⟩ := hT
  exact (gen_run (G := fun T => ([] : List AV)) hE (f47_7_F_e d e d2 e2 v9 v58 n59 n60 st) (Ob.ok_cons.2 ⟨h1, Ob.ok_nil⟩) hn (conz g0 (conz g1 (conz g7 (conz g8 (conz g9 (conz g58 (conz g59 (one g60))))))))).mono fun ex T' st' ⟨q1, q2, q3, q4⟩ => by exact ⟨q1, q2, q4⟩
def f47L6 (T : Tm) (a6 : AV) : Prop := T.n = 144 ∧ T.get 6 = a6
theorem f47_8_e (st : St) : ((evS Try.prog E0 noOv noS 100000 [] (f47P 8) ⟨144, [], []⟩ st []).map fun q => (q.1, q.2.1.n, ([q.2.1.get 6] : List AV), q.2.2.1, q.2.2.2.2)) = some (.ret, 144, [TT], st, []) := by kernel_rfl
theorem f47_8 {st : St}  {T : Tm} (hT : f47L5 T ) : AW Try.prog (f47P 8) (fun ex T' st' => ex = .ret ∧ f47L6 T' TT ∧ st' = st) T st := by
  have hn : T.n = 144 := hT
  exact (gen_run (G := fun T => ([T.get 6] : List AV)) hE (f47_8_e st) Ob.ok_nil hn (fun q hq => by cases hq)).mono fun ex T' st' ⟨q1, q2, q3, q4⟩ => by simp only [List.cons.injEq, and_true] at q3; exact ⟨q1, ⟨q2, q3⟩, q4⟩
end
section
set_option maxRecDepth 4000
/-! ### what stays when rows are frozen -/
theorem calm_map {L : List PF} (hd : ∀ f ∈ L, DV f) (n : Nat) (bs : List Nat) (c : Nat) : Calm n (.map (L.map ent) bs c) := fun id vs _ => by
  show AObj.map ((L.map ent).map fun p => (frz id vs p.1, frz id vs p.2)) bs c = _
  congr 1
  rw [List.map_map]
  refine List.map_congr_left fun f hf => ?_
  show (frz id vs (str f.name), AV.agg (frzL id vs [f.dv, i64 f.last])) = _
  simp only [frzL, frz_dv (id := id) (vs := vs) (hd f hf)]
  rfl
theorem PD.restF {st st' : St} {d m : Nat} {s : PS} (h : PDs st d m s) (hg : ∀ f ∈ s.L, DV f) {S : List Nat} (hr : RestF st st' S) (h1 : d ∉ S) (h2 : m ∉ S) : PDs st' d m s := by
  obtain ⟨bs, c, hm⟩ := h.map
  exact ⟨hr.keep _ _ h1 h.row (fun id vs _ => rfl), bs, c, hr.keep _ _ h2 hm (calm_map hg _ bs c)⟩
/-! ### bytes.Equal -/
theorem numsA_u8 : ∀ bs : List Int, numsA (bs.map u8) = some bs
  | [] => rfl
  | b :: r => by simp only [List.map_cons, numsA, numsA_u8 r, Option.map_some]
theorem conv_bytes {st : St} {v : AV} {bs : List Int} (h : sliceCells st v = some (bs.length, bs.map u8)) : convO E0 st 28 9 v = some (str (strOfNums bs), st) := by
  have hb : bytesStrA E0 st 28 9 v = some (str (strOfNums bs)) := by
    obtain ⟨i, j, k, h1, h2, h3, h4, h5, h6⟩ : ∃ i j k, E0.ty 28 = some i ∧ E0.ty 9 = some j ∧ E0.ty 5 = some k ∧ i.desc = .slice 5 ∧ j.desc = .string ∧ k.desc = .int .u8 := ⟨_, _, _, rfl, rfl, rfl, by kernel_rfl, by kernel_rfl, by kernel_rfl⟩
    simp only [bytesStrA, h, h1, h2, h4, h5, h3, h6, numsA_u8, if_true]
  have hc : convA E0 st 28 9 v = some (str (strOfNums bs), st) := by unfold convA; rw [hb]
  unfold convO
  cases v <;> first | exact hc | (exfalso; revert h; simp [sliceCells])
theorem equal_ok {st : St} {v w : AV} {bs : List Int} (h1 : sliceCells st v = some (bs.length, bs.map u8)) (h2 : sliceCells st w = some (bs.length, bs.map u8)) : obC 16 [v, w] st TT st :=
  f16_T (conv_bytes h1) (conv_bytes h2) (eqST rfl)
theorem OwnB.cells {st : St} {v : AV} {bs : List Int} (h : OwnB st v bs) : sliceCells st v = some (bs.length, bs.map u8) := by
  rcases h with ⟨rfl, rfl⟩ | ⟨rfl, i, rfl, hg⟩ | ⟨_, i, rfl, hg⟩
  · rfl
  · simp only [sliceCells, hg]; rfl
  · simp only [sliceCells, hg]
    rw [if_pos (by simp), List.drop_zero, List.take_of_length_le (by simp)]
theorem cells_rest {st st' : St} {v : AV} {r : Nat × List AV} (h : sliceCells st v = some r) (hr : Rest st st' []) : sliceCells st' v = some r := by
  cases v with
  | sl id sz off len f =>
    simp only [sliceCells] at h ⊢
    cases hg : st.get id with
    | none => rw [hg] at h; cases h
    | some o =>
      rw [hg] at h
      rw [hr.keep _ _ (by simp) hg]
      exact h
  | _ => exact h
/-! ### both disks read -/
theorem sim_bytes {f : PF} {g : RF} (h : keyP f = key g) : f.bytes = g.lb ++ g.ob := by
  simp only [keyP, key, Prod.mk.injEq] at h
  rw [← h.2.1, ← h.2.2, List.take_append_drop]
theorem both_read {st : St} {d m e : Nat} {fv : AV} {s : PS} {r : RS} (hS : Sim s r) (hp : PDs st d m s) (hr : RD st e fv r) (hw : st.wf) (hl : st.lock = []) (hu : usedR r.F < 1000000000) (n : ByteArray) (hn : n.size ≤ 1000000000000) :
    ∃ (v w : AV) (s1 s2 : St) (bs : List Int), obC 25 [.ptr d 0, str n] st (.tup [v, i64 (thE r n)]) s1 ∧ obC 42 [.ptr e 0, str n] s1 (.tup [w, i64 (thE r n)]) s2 ∧ Rest st s1 [] ∧ Rest s1 s2 [] ∧
      sliceCells s2 v = some (bs.length, bs.map u8) ∧ sliceCells s2 w = some (bs.length, bs.map u8) := by
  have hb : (1000000000 : Nat) ≤ big := by decide
  obtain ⟨v, s1, a1, a2, a3⟩ := read_ok hp hw hl hS.g (by rw [hS.used]; omega) n
  rw [hS.err n] at a1 a3
  obtain ⟨w, s2, b1, b2, b3, _⟩ := rread_ok (hr.rest a2 (by simp) (by simp)) a2.wf (a2.lock.trans hl) hS.rgood (by omega) (by have := hS.len; omega) hn
  have hcase : ∃ bs : List Int, sliceCells s1 v = some (bs.length, bs.map u8) ∧ sliceCells s2 w = some (bs.length, bs.map u8) := by
    rcases a3 with ⟨h1, rfl⟩ | ⟨h0, k, f, h1, h2, h3, _⟩
    · rcases b3 with ⟨_, rfl⟩ | ⟨h4, _⟩
      · exact ⟨[], rfl, rfl⟩
      · exact absurd h4 h1
    · obtain ⟨f', g, c1, c2, c3, c4, c5, c6, c7⟩ := hS.there h1
      rw [h2] at c1
      obtain rfl : f = f' := by simpa using c1
      rcases b3 with ⟨h4, rfl⟩ | ⟨h4, g', d1, d2⟩
      · exact absurd h0 h4
      · rw [c3] at d1
        obtain rfl : g = g' := by simpa using d1
        exact ⟨f.bytes, h3.cells, by rw [sim_bytes c6]; exact d2.cells⟩
  obtain ⟨bs, c1, c2⟩ := hcase
  exact ⟨v, w, s1, s2, bs, a1, b1, a2, b2, cells_rest c1 b2, c2⟩
end
section
set_option maxRecDepth 4000
theorem newRF {st : St} (hw : st.wf) (hl : st.lock = []) (x y z : AV) (h1 : avCells (.agg [x, y, z]) = some [x, y, z]) : ∃ s1 s2, allocA E0 st 121 = some (.ptr st.next 0, s1) ∧ storeA E0 s1 121 (.ptr st.next 0) (.agg [x, y, z]) = some s2 ∧ s2.get st.next = some (.row [x, y, z] 121) ∧ Rest st s2 [] := by
  obtain ⟨q, hq, hl3⟩ : ∃ q : List AV, zeroA E0 121 = some q ∧ q.length = 3 := by
    have h : (zeroA E0 121).map List.length = some 3 := by kernel_rfl
    obtain ⟨q, a, b⟩ := Option.map_eq_some_iff.1 h
    exact ⟨q, a, b⟩
  have hsz : tySize E0 121 = some 3 := by kernel_rfl
  have hg : (st.push (.row q 121)).get st.next = some (.row q 121) := by rw [St.get_push, if_pos rfl]
  have hwg := St.wget_of hg (show st.next ∉ (st.push (.row q 121)).lock by show st.next ∉ st.lock; rw [hl]; simp)
  have R := Rest.push hw (.row q 121) []
  refine ⟨st.push (.row q 121), _, by simp only [allocA, hq], ?_, ?_, R.old (Rest.set R.wf (R.wf _ _ hg) (.row [x, y, z] 121) (S := [st.next]) (by simp)) (by simp) hw⟩
  · simp only [storeA, h1, hwg, hsz]
    rw [if_pos ⟨rfl, by simp [hl3]⟩]
    have hd : List.drop 3 q = [] := List.drop_of_length_le (by omega)
    simp [hd]
  · rw [St.get_set, if_pos rfl]
theorem avc_rf {g : RF} (h : BV g.lv g.lb ∧ BV g.ov g.ob) : avCells (agg g) = some [str g.name, g.lv, g.ov] := by
  obtain ⟨h1, h2⟩ := h
  rcases h1 with ⟨_, h1⟩ | ⟨_, h1⟩ <;> rcases h2 with ⟨_, h2⟩ | ⟨_, h2⟩ <;> rw [agg, h1, h2] <;> rfl
theorem hideshow {st : St} (hw : st.wf) (I : List Nat) : Rest st ((st.hide I).show st I) [] := (show_rest (Rest.refl (hide_wf hw I) []) (by simp)).1
theorem all_some {st : St} {I : List Nat} (h : ∀ i ∈ I, ∃ o, st.get i = some o) : I.all (fun k => (st.get k).isSome) = true := by
  rw [List.all_eq_true]
  intro i hi
  obtain ⟨o, ho⟩ := h i hi
  rw [ho]; rfl
theorem lenBV {v : AV} {bs : List Int} (h : BV v bs) : lenA E0 28 v = some (i64 bs.length) := by
  rcases h with ⟨rfl, rfl⟩ | ⟨fl, rfl⟩
  · kernel_rfl
  · kernel_rfl
theorem idx113 {f len i : Nat} {fl : Bool} (h : i < len) : indexAddrA E0 113 (.sl f 3 0 len fl) (i64 i) = some (.ptr f (i * 3)) := by
  simp only [indexAddrA, ty113, size121]
  rw [if_pos ⟨trivial, by omega, by omega⟩, Nat.zero_add]
  rfl
theorem idx54 {f len i : Nat} {fl : Bool} (h : i < len) : indexAddrA E0 54 (.sl f 1 0 len fl) (i64 i) = some (.ptr f i) := by
  obtain ⟨q, h1, h2⟩ : ∃ q, E0.ty 54 = some q ∧ q.desc = .slice 9 := ⟨_, rfl, by kernel_rfl⟩
  have h3 : tySize E0 9 = some 1 := by kernel_rfl
  simp only [indexAddrA, h1, h2, h3]
  rw [if_pos ⟨trivial, by omega, by omega⟩, Nat.zero_add, Nat.mul_one]
  rfl
/-- a turn of the loop over the files -/
structure AlC (st0 : St) (d m e d2 m2 e2 nr : Nat) (fv fv2 v9 : AV) (nf : Bool) (s s2 : PS) (r r2 : RS) : Prop where
  wf : st0.wf
  lock : st0.lock = []
  p : PDs st0 d m s
  q : RD st0 e fv r
  p2 : PDs st0 d2 m2 s2
  q2 : RD st0 e2 fv2 r2
  sim : Sim s r
  sim2 : Sim s2 r2
  used : usedR r.F < 1000000000
  used2 : usedR r2.F < 1000000000
  nv : v9 = .sl nr 1 0 r.F.length nf
  nrow : st0.get nr = some (.row (r.F.map fun f => str f.name) 9)
  off2 : r2.off = false
def AlR (d e d2 e2 : Nat) (v9 fv : AV) (len : Nat) (i : Nat) (p p' : St) : Prop := ∀ T : Tm, f47L4 T (.ptr d 0) (.ptr e 0) (.ptr d2 0) (.ptr e2 0) v9 fv (i64 len) (i64 i) →
  AW Try.prog (f47P 7) (fun ex T' st' => ex = .normal ∧ f47L4 T' (.ptr d 0) (.ptr e 0) (.ptr d2 0) (.ptr e2 0) v9 fv (i64 len) (i64 ((i + 1 : Nat) : Int)) ∧ st' = p') T p
theorem al_turn {st0 : St} {d m e d2 m2 e2 nr : Nat} {fv fv2 v9 : AV} {nf : Bool} {s s2 : PS} {r r2 : RS} (C : AlC st0 d m e d2 m2 e2 nr fv fv2 v9 nf s s2 r r2) (i : Nat) (st : St) (hi : i < r.F.length) (hI : Rest st0 st []) :
    ∃ st', Rest st0 st' [] ∧ AlR d e d2 e2 v9 fv r.F.length i st st' := by
  have hlock : st.lock = [] := hI.lock.trans C.lock
  have hw := hI.wf
  have hg := List.getElem?_eq_getElem hi
  generalize r.F[i] = g at hg
  have hmem := List.mem_of_getElem? hg
  have hpos := pos_at C.sim.ord hg
  have hm := C.sim.may g hmem
  have hnsz : g.name.size ≤ 1000000000000 := by have := hm.2.1; omega
  have hlen := C.sim.len
  -- the file, as a local
  obtain ⟨f, fl, rfl, hfr⟩ : ∃ f fl, fv = .sl f 3 0 r.F.length fl ∧ st0.get f = some (.row (cells r.F) 121) := by
    rcases C.q.fv with ⟨h, _⟩ | ⟨_, f, fl, h1, h2⟩
    · rw [h] at hi; simp at hi
    · exact ⟨f, fl, h1, h2⟩
  have a2 : loadA E0 st 121 (.ptr f (i * 3)) = some (agg g) := load_row (hI.keep _ _ (by simp) hfr) (p121' hg)
  have hbv := C.sim.rgood g hmem
  obtain ⟨s1, t2, a3, a4, a5, R2⟩ := newRF hw hlock (str g.name) g.lv g.ov (avc_rf hbv)
  have l2 : t2.lock = [] := R2.lock.trans hlock
  have ld : ∀ {x : St}, Rest t2 x [] → loadA E0 x 9 (.ptr st.next 0) = some (str g.name) := fun h => load_row (h.keep _ _ (by simp) a5) (p9 rfl)
  -- the crashed copies
  have R02 := hI.trans R2
  obtain ⟨v, w, s3, s4, bs, b1, b2, R3, R4, c1, c2⟩ := both_read C.sim2 (PD.rest C.p2 R02) (C.q2.rest R02 (by simp) (by simp)) R2.wf l2 C.used2 g.name hnsz
  have R24 := R3.trans R4
  have l4 : s4.lock = [] := R24.lock.trans l2
  have hnr : s4.get nr = some (.row (r.F.map fun f => str f.name) 9) := (R02.trans R24).keep _ _ (by simp) C.nrow
  have ha11 : s4.get st.next = some (.row [str g.name, g.lv, g.ov] 121) := R24.keep _ _ (by simp) a5
  have hnm : loadA E0 s4 9 (.ptr nr i) = some (str g.name) := load_row hnr (p9 (by rw [List.getElem?_map, hg]; rfl))
  have h10 : ∀ k ∈ [nr, st.next], k < s4.next := fun k hk => by
    simp only [List.mem_cons, List.not_mem_nil, or_false] at hk
    rcases hk with rfl | rfl
    · exact R24.wf _ _ hnr
    · exact R24.wf _ _ ha11
  have h16 : [nr, st.next].all (fun k => (s4.get k).isSome) = true := all_some fun k hk => by
    simp only [List.mem_cons, List.not_mem_nil, or_false] at hk
    rcases hk with rfl | rfl
    · exact ⟨_, hnr⟩
    · exact ⟨_, ha11⟩
  have hc : ∀ {u : AV}, sliceCells s4 u = some (bs.length, bs.map u8) → sliceCells (s4.hide [nr, st.next]) u = some (bs.length, bs.map u8) := fun h => h
  have h17 := equal_ok (hc c1) (hc c2)
  have R5 := hideshow R24.wf [nr, st.next]
  have R25 := R24.trans R5
  have R05 := R02.trans R25
  have hlt : binA E0 .lss 3 (i64 i) (i64 r.F.length) = some TT := lssT (by omega)
  have hadd : binA E0 .add 3 (i64 i) (i64 1) = some (i64 ((i + 1 : Nat) : Int)) := add64 (by omega)
  have hoffl : loadA E0 ((s4.hide [nr, st.next]).show s4 [nr, st.next]) 4 (.ptr e 3) = some (bo r.off) := load_row (R05.keep _ _ (by simp) C.q.row) (p4 rfl)
  have hnv := C.nv
  subst hnv
  cases hoff : r.off with
  | true =>
    rw [hoff] at hoffl
    refine ⟨_, R05, fun T hT => ?_⟩
    exact f47_7_TFFTT hlt (idx113 hi) a2 a3 a4 (ld (Rest.refl R2.wf _)) b1 (ld R3) b2 h10 (idx54 hi) hnm (ld R24) (neSF rfl) (neqF rfl) h16 h17 hoffl hadd hT
  | false =>
    rw [hoff] at hoffl
    have l5 := R25.lock.trans l2
    obtain ⟨v', w', s6, s7, bs', k1, k2, R6, R7, k3, k4⟩ := both_read C.sim (PD.rest C.p R05) (C.q.rest R05 (by simp) (by simp)) R25.wf l5 C.used g.name hnsz
    have R57 := R6.trans R7
    have R07 := R05.trans R57
    obtain ⟨s8, f1, R8⟩ := loose_ok (PD.rest C.p R07) R57.wf (R57.lock.trans l5) C.sim.g (by rw [C.sim.used]; have := C.used; have hb : (1000000000 : Nat) ≤ big := (by decide); omega) g.name
    rw [C.sim.err, sim_loose C.sim] at f1
    have hthere : thE r g.name = 0 := by
      unfold thE
      rw [if_neg (by rw [hoff]; simp), if_neg (not_not_intro hm), (hit_iff C.sim.ord _).2 ⟨g, hmem, rfl⟩]
      rfl
    have hlo : rLoose r g.name = g.ob.length := by
      unfold rLoose
      rw [if_neg (by rw [hthere]; simp), hpos, hg]
    rw [hthere, hlo] at f1
    rw [hthere] at k1 k2
    have R28 := (R25.trans R57).trans R8
    have ldo : loadA E0 s8 28 (.ptr st.next 2) = some g.ov := load_row (R28.keep _ _ (by simp) a5) (p28 rfl)
    refine ⟨s8, R02.trans R28, fun T hT => ?_⟩
    exact f47_7_TFFTFFTFF hlt (idx113 hi) a2 a3 a4 (ld (Rest.refl R2.wf _)) b1 (ld R3) b2 h10 (idx54 hi) hnm (ld R24) (neSF rfl) (neqF rfl) h16 h17 hoffl
      (ld R25) k1 (ld (R25.trans R6)) k2 (ld (R25.trans R57)) f1 (neqF rfl) (equal_ok (cells_rest k3 R8) (cells_rest k4 R8)) (neqF rfl) ldo (lenBV hbv.2) (neqF rfl) hadd hT
end
section
set_option maxRecDepth 4000
theorem lenFV {st : St} {fv : AV} {F : List RF} (h : FV st fv F) : lenA E0 113 fv = some (i64 F.length) := by
  rcases h with ⟨rfl, rfl⟩ | ⟨_, f, fl, rfl, _⟩
  · kernel_rfl
  · kernel_rfl
theorem lenN (st : St) (R : List ByteArray) : lenA E0 54 (namesV st R) = some (i64 R.length) := by
  cases R with
  | nil => kernel_rfl
  | cons a r => show lenA E0 54 (.sl st.next 1 0 (r.length + 1) false) = some (i64 ((r.length + 1 : Nat) : Int)); kernel_rfl
theorem names_rest {st : St} (hw : st.wf) (R : List ByteArray) : Rest st (namesS st R) [] := by
  cases R with
  | nil => exact Rest.refl hw _
  | cons a r => exact Rest.push hw _ _
/-- both disks behind a crash -/
theorem sim_crash {s : PS} {r : RS} (h : Sim s r) {ps : List Int} {L' : List PF} {F' : List RF} (h1 : (L'.map keyP).Perm (crL ps 0 (ks r.F))) (h2 : F'.map key = crL ps 0 (ks r.F)) (hg : ∀ f ∈ L', DV f ∧ f.last ≤ f.bytes.length) (hr : RGood F') : Sim ⟨L', s.q, 0, false⟩ ⟨F', r.q, 0, false⟩ := by
  have hn : ∀ (l : List K) (k : Nat), (crL ps k l).map (·.1) = l.map (·.1) := fun l => by
    induction l with
    | nil => intro k; rfl
    | cons f r ih =>
      intro k
      simp only [crL, List.map_cons, ih]
      congr 1
      unfold crK
      split <;> rfl
  have hnames : F'.map RF.name = r.F.map RF.name := by
    have : (F'.map key).map (·.1) = (ks r.F).map (·.1) := by rw [h2, hn]
    simp only [ks, List.map_map] at this
    exact this
  refine ⟨by rw [show ks F' = F'.map key from rfl, h2]; exact h1, by rw [hnames]; exact h.ord, fun f hf => ?_, h.q, rfl, rfl, hg, hr, ⟨Int.le_refl 0, (by decide : (0 : Int) ≤ 9223372036854775807)⟩, h.qb, ?_⟩
  · obtain ⟨g, hg1, hg2⟩ := List.mem_map.1 (show f.name ∈ r.F.map RF.name by rw [← hnames]; exact List.mem_map.2 ⟨f, hf, rfl⟩)
    rw [← hg2]; exact h.may g hg1
  · have := congrArg List.length hnames
    simp only [List.length_map] at this
    show F'.length ≤ 4096
    rw [this]; exact h.len
theorem sim_names {s : PS} {r : RS} (h : Sim s r) : (s.L.map PF.name).Perm (r.F.map RF.name) := by
  have := h.perm.map (·.1)
  simp only [ks, List.map_map] at this
  exact this
theorem sim_good {s : PS} {r : RS} (h : Sim s r) (hu : usedR r.F < 1000000000) : ∀ f ∈ s.L, DV f ∧ f.last ≤ f.bytes.length ∧ f.bytes.length ≤ big := fun f hf => by
  have hb : (1000000000 : Nat) ≤ big := by decide
  have h1 : f.bytes.length ≤ usedL s.L := le_sum (List.mem_map.2 ⟨f, hf, rfl⟩)
  rw [h.used] at h1
  exact ⟨(h.good f hf).1, (h.good f hf).2, by omega⟩
theorem alike_ok {st : St} {d m e : Nat} {fv x : AV} {s : PS} {r : RS} {ps : List Int} (hS : Sim s r) (hp : PDs st d m s) (hr : RD st e fv r) (hw : st.wf) (hl : st.lock = []) (hu : usedR r.F < 1000000000) (hx : BP x ps) (hps : PicksOk ps) :
    ∃ st', obC 47 [.ptr d 0, .ptr e 0, x] st TT st' ∧ RestF st st' [] := by
  have hb : (1000000000 : Nat) ≤ big := by decide
  have hlen := hS.len
  have hord : Ord (r.F.map RF.name) := hS.ord
  have hmay : ∀ n ∈ r.F.map RF.name, mayS n := fun n hn => by obtain ⟨f, hf, rfl⟩ := List.mem_map.1 hn; exact hS.may f hf
  -- the first look
  have c1 := off_ok (st := st.hide [e]) (d := d) (m := m) (s := s) ⟨hp.row, hp.map⟩
  have R1 := hideshow hw [e]
  generalize hA : (st.hide [e]).show st [e] = sA at R1
  have hpA := PD.rest hp R1
  have hrA := hr.rest R1 (by simp) (by simp)
  obtain ⟨bsA, cA, hmA⟩ := hpA.map
  have c2 := used_ok (st := sA.hide [e]) (d := d) (m := m) (L := s.L) (q := s.q) (fu := s.fu) (off := s.off) hpA.row hmA (fun f hf => (hS.good f hf).1) (fun i hi => by
    have hi' : i = e := by simpa [St.hide, R1.lock, hl] using hi
    rw [hi']; exact R1.wf _ _ hrA.row) (by rw [hS.used]; exact hu)
  rw [hS.used] at c2
  have P2 : Rest (sA.hide [e]) { (sA.hide [e]) with next := (sA.hide [e]).next + 1 + bsA.length } [] := ⟨fun i o _ h => h, by show sA.next ≤ sA.next + 1 + bsA.length; omega, rfl, rfl, fun i o h => by have := R1.wf i o h; show i < sA.next + 1 + bsA.length; omega⟩
  obtain ⟨s2, c2, P2⟩ : ∃ s2, obC 26 [.ptr d 0] (sA.hide [e]) (i64 (usedR r.F)) s2 ∧ Rest (sA.hide [e]) s2 [] := ⟨_, c2, P2⟩
  obtain ⟨R2, _⟩ := show_rest P2 (by simp)
  generalize hB : s2.show sA [e] = sB at R2
  have R02 := R1.trans R2
  have hpB := PD.rest hpA R2
  have hrB := hrA.rest R2 (by simp) (by simp)
  have c3 := rused_ok (st := sB.hide [e]) (hide_RD hrB [e]) (hide_wf R2.wf _) hS.rgood (by omega) hu
  have R3 := hideshow R2.wf [e]
  generalize hC : (sB.hide [e]).show sB [e] = sC at R3
  have R03 := R02.trans R3
  have hpC := PD.rest hpB R3
  have hrC := hrB.rest R3 (by simp) (by simp)
  have c4 := names_ok (st := sC.hide [e]) (d := d) (m := m) (s := s) ⟨hpC.row, hpC.map⟩ (sim_names hS) hord (by simp; omega) hmay
  have P4 := names_rest (hide_wf R3.wf [e]) (r.F.map RF.name)
  obtain ⟨s4, c4, P4⟩ : ∃ s4, obC 28 [.ptr d 0] (sC.hide [e]) (namesV (sC.hide [e]) (r.F.map RF.name)) s4 ∧ Rest (sC.hide [e]) s4 [] := ⟨_, c4, P4⟩
  obtain ⟨R4, _⟩ := show_rest P4 (by simp)
  generalize hD : s4.show sC [e] = sD at R4
  have R04 := R03.trans R4
  have hin : ∀ {z : St}, Rest st z [] → [e].all (fun k => (z.get k).isSome) = true := fun h => all_some fun k hk => by
    obtain rfl := List.mem_singleton.1 hk
    exact ⟨_, h.keep _ _ (by simp) hr.row⟩
  have run1 : ∀ T : Tm, f47L0 T (.ptr d 0) (.ptr e 0) x → AW Try.prog (f47P 1) (fun ex T' st' => ex = .normal ∧ f47L0 T' (.ptr d 0) (.ptr e 0) x ∧ st' = sD) T st := fun T hT => by
    subst hA hB hC hD
    exact f47_1_FFF (fun k hk => by rw [List.mem_singleton.1 hk]; exact hw _ _ hr.row) (load_row hr.row (p4 rfl)) (hin (Rest.refl hw _)) c1 (by rw [hS.off]; cases r.off <;> kernel_rfl) (hin R1) c2 (hin R02) c3 (neqF rfl) (load_row hrC.row (p113 rfl)) (lenFV hrC.fv) (hin R03) c4 (lenN _ _) (neqF (by simp)) hT
  have hpD := PD.rest hpC R4
  have hrD := hrC.rest R4 (by simp) (by simp)
  have lD : sD.lock = [] := R04.lock.trans hl
  -- the copies
  obtain ⟨s5, m2, k5, p5, R5, hm2⟩ := copy_ok hpD R4.wf lD
  have l5 : s5.lock = [] := R5.lock.trans lD
  have R05 := (R04.trans R5).f
  have hp5 := PD.rest hpD R5
  have hr5 := hrD.rest R5 (by simp) (by simp)
  obtain ⟨s6, fv2, F2, k6, q6, hk6, hg6, R6, hf6⟩ := rcopy_ok hr5 R5.wf l5 hS.rgood (by omega) (by omega)
  have l6 : s6.lock = [] := R6.lock.trans l5
  have R06 := R05.trans R6
  have hdv : ∀ f ∈ s.L, DV f := fun f hf => (hS.good f hf).1
  have hp6 := PD.restF hp5 hdv R6 (by simp) (by simp)
  have p6 := PD.restF p5 hdv R6 (by simp) (by simp)
  have hr6 := hr5.restF R5.wf hS.rgood R6 (by simp) (by simp)
  -- the crash of the copies
  have hMlen : (ks r.F).length = r.F.length := by simp [ks]
  have hMn : (ks r.F).map (·.1) = r.F.map RF.name := by simp [ks, List.map_map, Function.comp, key]
  have hxA : ArgP s6 x ps := by
    rcases hx with h | h
    · exact .inl h
    · exact .inr (.inl h)
  obtain ⟨s7, L7, k7, p7, n7, g7, m7, u7, R7⟩ := crash_ok p6 R6.wf l6 (sim_good hS hu) (M := ks r.F) hS.perm (by rw [hMn]; exact hord) (by omega) (fun k hk => by obtain ⟨f, hf, rfl⟩ := List.mem_map.1 hk; exact hS.may f hf) hxA hps
  have l7 : s7.lock = [] := R7.lock.trans l6
  have hd5 : sD.next < s5.next := R5.wf _ _ p5.row
  have hm5 : m2 < s5.next := by obtain ⟨_, _, h⟩ := p5.map; exact R5.wf _ _ h
  have hn5 : s5.next ≤ s6.next := R6.next
  have hne2 : s5.next ∉ [sD.next, m2] := by simp only [List.mem_cons, List.not_mem_nil, or_false]; omega
  have hnf2 : ∀ i ∈ fid fv2, i ∉ [sD.next, m2] := fun i hi => by have := hf6 i hi; simp only [List.mem_cons, List.not_mem_nil, or_false]; omega
  have q7 := q6.rest R7 hne2 hnf2
  have R57 : RestF sD s7 [] := ((R5.f.trans R6).old R7.f (fun i hi => by
    simp only [List.mem_cons, List.not_mem_nil, or_false] at hi
    right
    rcases hi with rfl | rfl <;> omega) R4.wf)
  have hu6 : usedR F2 = usedR r.F := by rw [usedR_ks, usedR_ks]; show ((F2.map key).map klen).sum = _; rw [hk6]; rfl
  have hF2 : F2.length = r.F.length := by have := congrArg List.length hk6; simpa using this
  obtain ⟨s8, F8, k8, q8, hk8, hg8, u8', R8⟩ := rcrash_ok q7 R7.wf l7 hg6 (by show F2.length ≤ _; omega) (by show usedR F2 ≤ _; omega) hx hps
  have l8 : s8.lock = [] := R8.lock.trans l7
  have p8 := PD.restF p7 (fun f hf => (g7 f hf).1) R8 (by simp only [List.mem_cons, not_or]; exact ⟨by omega, fun h => by have := hf6 _ h; omega⟩) (by simp only [List.mem_cons, not_or]; exact ⟨by omega, fun h => by have := hf6 _ h; omega⟩)
  have R48 : RestF sD s8 [] := R57.old R8 (fun i hi => by
    right
    rcases List.mem_cons.1 hi with rfl | hi
    · omega
    · have := hf6 i hi; omega) R4.wf
  have R08 : RestF st s8 [] := R04.f.trans R48
  have hp8 := PD.restF hpD hdv R48 (by simp) (by simp)
  have hr8 := hrD.restF R4.wf hS.rgood R48 (by simp) (by simp)
  have hk8' : F8.map key = crL ps 0 (ks r.F) := by rw [hk8]; show crL ps 0 (F2.map key) = _; rw [hk6]; rfl
  have hS8 := sim_crash hS m7 hk8' (fun f hf => ⟨(g7 f hf).1, (g7 f hf).2.1⟩) hg8
  -- names
  have k9 := names_ok hp8 (sim_names hS) hord (by simp; omega) hmay
  have R9 := names_rest R8.wf (r.F.map RF.name)
  have R09 := R08.trans R9.f
  have hS8q : ({ s with L := L7, fu := 0, off := false } : PS) = ⟨L7, s.q, 0, false⟩ := rfl
  have turn : ∀ i p, i < r.F.length → Rest (namesS s8 (r.F.map RF.name)) p [] → ∃ p', Rest (namesS s8 (r.F.map RF.name)) p' [] ∧ AlR d e sD.next s5.next (namesV s8 (r.F.map RF.name)) fv r.F.length i p p' := fun i p hi hI => by
    have hne : r.F ≠ [] := fun h => by rw [h] at hi; simp at hi
    obtain ⟨a, l, hal⟩ := List.exists_cons_of_ne_nil hne
    have hnv : namesV s8 (r.F.map RF.name) = .sl s8.next 1 0 r.F.length false := by rw [hal]; simp [namesV]
    have hnr : (namesS s8 (r.F.map RF.name)).get s8.next = some (.row (r.F.map fun f => str f.name) 9) := by
      rw [hal]
      simp only [List.map_cons, namesS]
      rw [St.get_push, if_pos rfl, List.map_map]; rfl
    exact al_turn ⟨R9.wf, R9.lock.trans l8, PD.rest hp8 R9, hr8.rest R9 (by simp) (by simp), PD.rest p8 R9, q8.rest R9 (by simp) (by simp), hS, hS8, hu, by show usedR F8 < _; have : usedR ({ r with F := F2 } : RS).F = usedR F2 := rfl; omega, hnv, hnr, rfl⟩ i p hi hI
  obtain ⟨c, c0, inv, step⟩ := chain_seq (fun _ p => Rest (namesS s8 (r.F.map RF.name)) p []) (AlR d e sD.next s5.next (namesV s8 (r.F.map RF.name)) fv r.F.length) r.F.length _ (Rest.refl R9.wf _) turn
  have hend := inv r.F.length (Nat.le_refl _)
  refine ⟨c r.F.length, ?_, R09.trans hend.f⟩
  refine ACalls.body (E := E0) hE Try.func47 f47body ?_
  refine .andThen (f47_0 (d := d) (e := e) (x := x) (st := st) ⟨rfl, rfl, rfl, rfl⟩) fun T1 h1 => ?_
  refine .andThen (run1 T1 h1) fun T2 h2 => ?_
  refine .andThen (f47_2 k5 k6 h2) fun T3 h3 => ?_
  refine .andThen (f47_3 k7 h3) fun T4 h4 => ?_
  refine .andThen (f47_4 k8 h4) fun T5 h5 => ?_
  refine .andThen (f47_5 k9 h5) fun T6 h6 => ?_
  have hr9 := hr8.rest R9 (by simp) (by simp)
  refine .seq (.andThen (f47_6 hr9.load (lenFV hr9.fv) h6) fun T7 h7 => ?_)
  refine (AW.turns (In := fun i T => f47L4 T (.ptr d 0) (.ptr e 0) (.ptr sD.next 0) (.ptr s5.next 0) (namesV s8 (r.F.map RF.name)) fv (i64 r.F.length) (i64 i)) (L := fun T => f47L5 T) c0.symm h7 (fun i hi T hT => step i hi T hT) (fun T hT => f47_7_F (lssF (by omega)) hT)).mono fun ex T8 st8 ⟨q1, q2, q3⟩ => ?_
  subst q1; subst q3
  simp only [thenA]
  refine .atRet (f47_8 q2) fun T9 h9 => ⟨[TT], ?_, rfl, rfl⟩
  show some [T9.get 6] = _
  rw [h9.2]
end
end Go.Proofs.Ytniaiciabfdbnaa.E
