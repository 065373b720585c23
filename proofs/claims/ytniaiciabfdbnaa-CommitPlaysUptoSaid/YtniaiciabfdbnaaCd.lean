/- CommitPlays of escritoirelaw19 over the abstract machine: its turns, and that it returns true. No condition beyond those that the lemmas name. -/
import Derived.Test.YtniaiciabfdbnaaCc
namespace Go.Proofs.Ytniaiciabfdbnaa.E
open Go Go.Proofs
section
set_option maxRecDepth 100000
noncomputable def f10P (i : Nat) : Code := match Try.f10.body with
  | some (.seq x0 (.seq x1 (.seq x2 (.seq (.seq x3 (.block 0 (.loop x4))) x5)))) => [x0, x1, x2, x3, x4, x5].getD i .skip
  | _ => .skip
theorem f10body : Try.f10.body = some (.seq (f10P 0) (.seq (f10P 1) (.seq (f10P 2) (.seq (.seq (f10P 3) (.block 0 (.loop (f10P 4)))) (f10P 5))))) := by kernel_rfl
def f10L0 (T : Tm) (a0 : AV) : Prop := T.n = 111 ∧ T.get 0 = a0
theorem f10_0_e (lv : AV) (st : St) : ((evS Try.prog F.E1 noOv noS 100000 [] (f10P 0) ⟨111, [(0, lv)], []⟩ st []).map fun q => (q.1, q.2.1.n, ([q.2.1.get 0] : List AV), q.2.2.1, q.2.2.2.2)) = some (.normal, 111, [lv], st, []) := by kernel_rfl
theorem f10_0 {lv : AV} {st : St}  {T : Tm} (hT : f10L0 T lv) : AW Try.prog (f10P 0) (fun ex T' st' => ex = .normal ∧ f10L0 T' lv ∧ st' = st) T st := by
  obtain ⟨hn, g0⟩ := hT
  exact (gen_run (G := fun T => ([T.get 0] : List AV)) F.E1_ok (f10_0_e lv st) Ob.ok_nil hn (one g0)).mono fun ex T' st' ⟨q1, q2, q3, q4⟩ => by simp only [List.cons.injEq, and_true] at q3; exact ⟨q1, ⟨q2, q3⟩, q4⟩
theorem f10_1_T_e (lv : AV) (st s1 : St) : ((evS Try.prog F.E1 noOv noS 100000 [6015] (f10P 1) ⟨111, [(0, lv)], []⟩ st [.eff TT (fun _ => s1)]).map fun q => (q.1, q.2.1.n, ([q.2.1.get 0] : List AV), q.2.2.1, q.2.2.2.2)) = some (.normal, 111, [lv], s1, [obC 15 [] st TT s1]) := by kernel_rfl
theorem f10_1_T {lv : AV} {st s1 : St} (h1 : obC 15 [] st TT s1) {T : Tm} (hT : f10L0 T lv) : AW Try.prog (f10P 1) (fun ex T' st' => ex = .normal ∧ f10L0 T' lv ∧ st' = s1) T st := by
  obtain ⟨hn, g0⟩ := hT
  exact (gen_run (G := fun T => ([T.get 0] : List AV)) F.E1_ok (f10_1_T_e lv st s1) (Ob.ok_cons.2 ⟨h1, Ob.ok_nil⟩) hn (one g0)).mono fun ex T' st' ⟨q1, q2, q3, q4⟩ => by simp only [List.cons.injEq, and_true] at q3; exact ⟨q1, ⟨q2, q3⟩, q4⟩
def f10L1 (T : Tm) (a2 : AV) : Prop := T.n = 111 ∧ T.get 2 = a2
theorem f10_1_F_e (lv : AV) (st s1 : St) : ((evS Try.prog F.E1 noOv noS 100000 [6015] (f10P 1) ⟨111, [(0, lv)], []⟩ st [.eff FF (fun _ => s1)]).map fun q => (q.1, q.2.1.n, ([q.2.1.get 2] : List AV), q.2.2.1, q.2.2.2.2)) = some (.ret, 111, [FF], s1, [obC 15 [] st FF s1]) := by kernel_rfl
theorem f10_1_F {lv : AV} {st s1 : St} (h1 : obC 15 [] st FF s1) {T : Tm} (hT : f10L0 T lv) : AW Try.prog (f10P 1) (fun ex T' st' => ex = .ret ∧ f10L1 T' FF ∧ st' = s1) T st := by
  obtain ⟨hn, g0⟩ := hT
  exact (gen_run (G := fun T => ([T.get 2] : List AV)) F.E1_ok (f10_1_F_e lv st s1) (Ob.ok_cons.2 ⟨h1, Ob.ok_nil⟩) hn (one g0)).mono fun ex T' st' ⟨q1, q2, q3, q4⟩ => by simp only [List.cons.injEq, and_true] at q3; exact ⟨q1, ⟨q2, q3⟩, q4⟩
def f10L2 (T : Tm) (a0 a3 a4 : AV) : Prop := T.n = 111 ∧ T.get 0 = a0 ∧ T.get 3 = a3 ∧ T.get 4 = a4
theorem f10_2_e (lv : AV) (st s1 : St) (p14a p14b : Nat) : ((evS Try.prog F.E1 noOv noS 100000 [6017] (f10P 2) ⟨111, [(0, lv)], []⟩ st [.eff (.tup [(.ptr p14a 0), (.ptr p14b 0)]) (fun _ => s1)]).map fun q => (q.1, q.2.1.n, ([q.2.1.get 0, q.2.1.get 3, q.2.1.get 4] : List AV), q.2.2.1, q.2.2.2.2)) = some (.normal, 111, [lv, (.ptr p14a 0), (.ptr p14b 0)], s1, [obC 17 [(i64 1048576)] st (.tup [(.ptr p14a 0), (.ptr p14b 0)]) s1]) := by kernel_rfl
theorem f10_2 {lv : AV} {st s1 : St} {p14a p14b : Nat} (h1 : obC 17 [(i64 1048576)] st (.tup [(.ptr p14a 0), (.ptr p14b 0)]) s1) {T : Tm} (hT : f10L0 T lv) : AW Try.prog (f10P 2) (fun ex T' st' => ex = .normal ∧ f10L2 T' lv (.ptr p14a 0) (.ptr p14b 0) ∧ st' = s1) T st := by
  obtain ⟨hn, g0⟩ := hT
  exact (gen_run (G := fun T => ([T.get 0, T.get 3, T.get 4] : List AV)) F.E1_ok (f10_2_e lv st s1 p14a p14b) (Ob.ok_cons.2 ⟨h1, Ob.ok_nil⟩) hn (one g0)).mono fun ex T' st' ⟨q1, q2, q3, q4⟩ => by simp only [List.cons.injEq, and_true] at q3; exact ⟨q1, ⟨q2, q3⟩, q4⟩
def f10L3 (T : Tm) (a3 a4 a17 a18 a19 : AV) : Prop := T.n = 111 ∧ T.get 3 = a3 ∧ T.get 4 = a4 ∧ T.get 17 = a17 ∧ T.get 18 = a18 ∧ T.get 19 = a19
theorem f10_3_e (lv : AV) (d e : Nat) (st : St) (n18 : Int) : ((evS Try.prog F.E1 noOv noS 100000 [7018] (f10P 3) ⟨111, [(0, lv), (3, (.ptr d 0)), (4, (.ptr e 0))], []⟩ st [.av (i64 n18)]).map fun q => (q.1, q.2.1.n, ([q.2.1.get 3, q.2.1.get 4, q.2.1.get 17, q.2.1.get 18, q.2.1.get 19] : List AV), q.2.2.1, q.2.2.2.2)) = some (.normal, 111, [(.ptr d 0), (.ptr e 0), lv, (i64 n18), (i64 0)], st, [lenA E0 81 lv = some (i64 n18)]) := by kernel_rfl
theorem f10_3 {lv : AV} {d e : Nat} {st : St} {n18 : Int} (h1 : lenA E0 81 lv = some (i64 n18)) {T : Tm} (hT : f10L2 T lv (.ptr d 0) (.ptr e 0)) : AW Try.prog (f10P 3) (fun ex T' st' => ex = .normal ∧ f10L3 T' (.ptr d 0) (.ptr e 0) lv (i64 n18) (i64 0) ∧ st' = st) T st := by
  obtain ⟨hn, g0, g3, g4⟩ := hT
  exact (gen_run (G := fun T => ([T.get 3, T.get 4, T.get 17, T.get 18, T.get 19] : List AV)) F.E1_ok (f10_3_e lv d e st n18) (Ob.ok_cons.2 ⟨h1, Ob.ok_nil⟩) hn (conz g0 (conz g3 (one g4)))).mono fun ex T' st' ⟨q1, q2, q3, q4⟩ => by simp only [List.cons.injEq, and_true] at q3; exact ⟨q1, ⟨q2, q3⟩, q4⟩
def f10L4 (T : Tm) : Prop := T.n = 111
theorem f10_4_TT_e (d e a6 : Nat) (lv q22 v23 : AV) (n18 n19 : Int) (st s1 s2 : St) : ((evS Try.prog F.E1 noOv noS 100000 [2006, 2009, 2010, 2023, 2027, 2050, 2051, 2057, 2061, 2067, 2071, 2077, 2081, 2106, 5000, 6018, 6019, 6020, 6022, 6030, 6032, 6034, 6038, 6041, 6044, 6045, 6046, 6047, 6048, 6049, 7020, 7022, 7025, 7029, 7039, 7052, 7054, 7064, 7074, 7084, 7094, 7101, 7110, 8000] (f10P 4) ⟨111, [(3, (.ptr d 0)), (4, (.ptr e 0)), (17, lv), (18, (i64 n18)), (19, (i64 n19))], []⟩ st [.av TT, .av q22, .eff v23 id, .eff (.ptr a6 0) (fun _ => s1), .eff .undef (fun _ => s2), .av TT]).map fun q => (q.1, q.2.1.n, ([] : List AV), q.2.2.1, q.2.2.2.2)) = some ((.exit 0), 111, [], s2, [binA E0 .lss 3 (i64 n19) (i64 n18) = some TT, indexAddrA E0 81 lv (i64 n19) = some q22, loadA E0 st 83 q22 = some v23 ∧ st = st, allocA E0 st 83 = some ((.ptr a6 0), s1), storeA E0 s1 83 (.ptr a6 0) v23 = some s2, binA E0 .eql 3 (i64 n19) (i64 60) = some TT]) := by kernel_rfl
theorem f10_4_TT {d e a6 : Nat} {lv q22 v23 : AV} {n18 n19 : Int} {st s1 s2 : St} (h1 : binA E0 .lss 3 (i64 n19) (i64 n18) = some TT) (h2 : indexAddrA E0 81 lv (i64 n19) = some q22) (h3 : loadA E0 st 83 q22 = some v23) (h4 : allocA E0 st 83 = some ((.ptr a6 0), s1)) (h5 : storeA E0 s1 83 (.ptr a6 0) v23 = some s2) (h6 : binA E0 .eql 3 (i64 n19) (i64 60) = some TT) {T : Tm} (hT : f10L3 T (.ptr d 0) (.ptr e 0) lv (i64 n18) (i64 n19)) : AW Try.prog (f10P 4) (fun ex T' st' => ex = (.exit 0) ∧ f10L4 T'  ∧ st' = s2) T st := by
  obtain ⟨hn, g3, g4, g17, g18, g19⟩ := hT
  exact (gen_run (G := fun T => ([] : List AV)) F.E1_ok (f10_4_TT_e d e a6 lv q22 v23 n18 n19 st s1 s2) (Ob.ok_cons.2 ⟨h1, (Ob.ok_cons.2 ⟨h2, (Ob.ok_cons.2 ⟨⟨h3, rfl⟩, (Ob.ok_cons.2 ⟨h4, (Ob.ok_cons.2 ⟨h5, (Ob.ok_cons.2 ⟨h6, Ob.ok_nil⟩)⟩)⟩)⟩)⟩)⟩) hn (conz g3 (conz g4 (conz g17 (conz g18 (one g19)))))).mono fun ex T' st' ⟨q1, q2, q3, q4⟩ => by exact ⟨q1, q2, q4⟩
theorem f10_4_TFTFT_e (d e a6 : Nat) (lv q22 v23 v32 v36 v106 : AV) (n18 n19 n27 n33 n37 n110 : Int) (st s1 s2 s3 s4 s5 : St) : ((evS Try.prog F.E1 noOv noS 100000 [2006, 2009, 2010, 2023, 2027, 2050, 2051, 2057, 2061, 2067, 2071, 2077, 2081, 2106, 5000, 6018, 6019, 6020, 6022, 6030, 6032, 6034, 6038, 6041, 6044, 6045, 6046, 6047, 6048, 6049, 7020, 7022, 7025, 7029, 7039, 7052, 7054, 7064, 7074, 7084, 7094, 7101, 7110, 8000] (f10P 4) ⟨111, [(3, (.ptr d 0)), (4, (.ptr e 0)), (17, lv), (18, (i64 n18)), (19, (i64 n19))], []⟩ st [.av TT, .av q22, .eff v23 id, .eff (.ptr a6 0) (fun _ => s1), .eff .undef (fun _ => s2), .av FF, .eff (i64 n27) id, .av TT, .eff v32 id, .eff v36 id, .eff (i64 n33) (fun _ => s3), .eff (i64 n37) (fun _ => s4), .av FF, .eff v106 id, .eff TT (fun _ => s5), .av (i64 n110)]).map fun q => (q.1, q.2.1.n, ([q.2.1.get 3, q.2.1.get 4, q.2.1.get 17, q.2.1.get 18, q.2.1.get 19] : List AV), q.2.2.1, q.2.2.2.2)) = some (.normal, 111, [(.ptr d 0), (.ptr e 0), lv, (i64 n18), (i64 n110)], s5, [binA E0 .lss 3 (i64 n19) (i64 n18) = some TT, indexAddrA E0 81 lv (i64 n19) = some q22, loadA E0 st 83 q22 = some v23 ∧ st = st, allocA E0 st 83 = some ((.ptr a6 0), s1), storeA E0 s1 83 (.ptr a6 0) v23 = some s2, binA E0 .eql 3 (i64 n19) (i64 60) = some FF, loadA E0 s2 3 (.ptr a6 0) = some (i64 n27) ∧ s2 = s2, binA E0 .eql 3 (i64 n27) (i64 0) = some TT, ∀ k ∈ [a6, a6], k < s2.next, [a6, a6].contains a6 = true ∧ loadA E0 s2 27 (.ptr a6 2) = some v32, [a6, a6].contains a6 = true ∧ loadA E0 s2 27 (.ptr a6 2) = some v36, (true = true → [a6, a6].all (fun k => (s2.get k).isSome) = true), obC 18 [(.ptr d 0), v32] (s2.hide [a6, a6]) (i64 n33) s3, (false = true → [a6, a6].all (fun k => ((s3.show s2 [a6, a6]).get k).isSome) = true), obC 48 [(.ptr e 0), v36] (s3.show s2 [a6, a6]) (i64 n37) s4, binA E0 .neq 3 (i64 n33) (i64 n37) = some FF, loadA E0 s4 67 (.ptr a6 101) = some v106 ∧ s4 = s4, obC 47 [(.ptr d 0), (.ptr e 0), v106] s4 TT s5, binA E0 .add 3 (i64 n19) (i64 1) = some (i64 n110)]) := by kernel_rfl
theorem f10_4_TFTFT {d e a6 : Nat} {lv q22 v23 v32 v36 v106 : AV} {n18 n19 n27 n33 n37 n110 : Int} {st s1 s2 s3 s4 s5 : St} (h1 : binA E0 .lss 3 (i64 n19) (i64 n18) = some TT) (h2 : indexAddrA E0 81 lv (i64 n19) = some q22) (h3 : loadA E0 st 83 q22 = some v23) (h4 : allocA E0 st 83 = some ((.ptr a6 0), s1)) (h5 : storeA E0 s1 83 (.ptr a6 0) v23 = some s2) (h6 : binA E0 .eql 3 (i64 n19) (i64 60) = some FF) (h7 : loadA E0 s2 3 (.ptr a6 0) = some (i64 n27)) (h8 : binA E0 .eql 3 (i64 n27) (i64 0) = some TT) (h9 : ∀ k ∈ [a6, a6], k < s2.next) (h10 : loadA E0 s2 27 (.ptr a6 2) = some v32) (h11 : loadA E0 s2 27 (.ptr a6 2) = some v36) (h12 : [a6, a6].all (fun k => (s2.get k).isSome) = true) (h13 : obC 18 [(.ptr d 0), v32] (s2.hide [a6, a6]) (i64 n33) s3) (h14 : obC 48 [(.ptr e 0), v36] (s3.show s2 [a6, a6]) (i64 n37) s4) (h15 : binA E0 .neq 3 (i64 n33) (i64 n37) = some FF) (h16 : loadA E0 s4 67 (.ptr a6 101) = some v106) (h17 : obC 47 [(.ptr d 0), (.ptr e 0), v106] s4 TT s5) (h18 : binA E0 .add 3 (i64 n19) (i64 1) = some (i64 n110)) {T : Tm} (hT : f10L3 T (.ptr d 0) (.ptr e 0) lv (i64 n18) (i64 n19)) : AW Try.prog (f10P 4) (fun ex T' st' => ex = .normal ∧ f10L3 T' (.ptr d 0) (.ptr e 0) lv (i64 n18) (i64 n110) ∧ st' = s5) T st := by
  obtain ⟨hn, g3, g4, g17, g18, g19⟩ := hT
  exact (gen_run (G := fun T => ([T.get 3, T.get 4, T.get 17, T.get 18, T.get 19] : List AV)) F.E1_ok (f10_4_TFTFT_e d e a6 lv q22 v23 v32 v36 v106 n18 n19 n27 n33 n37 n110 st s1 s2 s3 s4 s5) (Ob.ok_cons.2 ⟨h1, (Ob.ok_cons.2 ⟨h2, (Ob.ok_cons.2 ⟨⟨h3, rfl⟩, (Ob.ok_cons.2 ⟨h4, (Ob.ok_cons.2 ⟨h5, (Ob.ok_cons.2 ⟨h6, (Ob.ok_cons.2 ⟨⟨h7, rfl⟩, (Ob.ok_cons.2 ⟨h8, (Ob.ok_cons.2 ⟨h9, (Ob.ok_cons.2 ⟨⟨by simp, h10⟩, (Ob.ok_cons.2 ⟨⟨by simp, h11⟩, (Ob.ok_cons.2 ⟨(fun _ => h12), (Ob.ok_cons.2 ⟨h13, (Ob.ok_cons.2 ⟨(fun h => by cases h), (Ob.ok_cons.2 ⟨h14, (Ob.ok_cons.2 ⟨h15, (Ob.ok_cons.2 ⟨⟨h16, rfl⟩, (Ob.ok_cons.2 ⟨h17, (Ob.ok_cons.2 ⟨h18, Ob.ok_nil⟩)⟩)⟩)⟩)⟩)⟩)⟩)⟩)⟩)⟩)⟩)⟩)⟩)⟩)⟩)⟩)⟩)⟩)⟩) hn (conz g3 (conz g4 (conz g17 (conz g18 (one g19)))))).mono fun ex T' st' ⟨q1, q2, q3, q4⟩ => by simp only [List.cons.injEq, and_true] at q3; exact ⟨q1, ⟨q2, q3⟩, q4⟩
theorem f10_4_TFFTFFT_e (d e a6 a9 a10 : Nat) (lv q22 v23 v42a v47a v50 v51 v106 : AV) (n18 n19 n27 n42b n47b n110 : Int) (st s1 s2 s3 s4 s5 s6 s7 s8 s9 : St) : ((evS Try.prog F.E1 noOv noS 100000 [2006, 2009, 2010, 2023, 2027, 2050, 2051, 2057, 2061, 2067, 2071, 2077, 2081, 2106, 5000, 6018, 6019, 6020, 6022, 6030, 6032, 6034, 6038, 6041, 6044, 6045, 6046, 6047, 6048, 6049, 7020, 7022, 7025, 7029, 7039, 7052, 7054, 7064, 7074, 7084, 7094, 7101, 7110, 8000] (f10P 4) ⟨111, [(3, (.ptr d 0)), (4, (.ptr e 0)), (17, lv), (18, (i64 n18)), (19, (i64 n19))], []⟩ st [.av TT, .av q22, .eff v23 id, .eff (.ptr a6 0) (fun _ => s1), .eff .undef (fun _ => s2), .av FF, .eff (i64 n27) id, .av FF, .av TT, .eff (.ptr a9 0) (fun _ => s3), .eff (.ptr a10 0) (fun _ => s4), .eff (.tup [v42a, (i64 n42b)]) (fun _ => s5), .eff .undef (fun _ => s6), .eff (.tup [v47a, (i64 n47b)]) (fun _ => s7), .eff .undef (fun _ => s8), .eff v50 id, .eff v51 id, .av FF, .av FF, .eff v106 id, .eff TT (fun _ => s9), .av (i64 n110)]).map fun q => (q.1, q.2.1.n, ([q.2.1.get 3, q.2.1.get 4, q.2.1.get 17, q.2.1.get 18, q.2.1.get 19] : List AV), q.2.2.1, q.2.2.2.2)) = some (.normal, 111, [(.ptr d 0), (.ptr e 0), lv, (i64 n18), (i64 n110)], s9, [binA E0 .lss 3 (i64 n19) (i64 n18) = some TT, indexAddrA E0 81 lv (i64 n19) = some q22, loadA E0 st 83 q22 = some v23 ∧ st = st, allocA E0 st 83 = some ((.ptr a6 0), s1), storeA E0 s1 83 (.ptr a6 0) v23 = some s2, binA E0 .eql 3 (i64 n19) (i64 60) = some FF, loadA E0 s2 3 (.ptr a6 0) = some (i64 n27) ∧ s2 = s2, binA E0 .eql 3 (i64 n27) (i64 0) = some FF, binA E0 .eql 3 (i64 n27) (i64 1) = some TT, allocA E0 s2 27 = some ((.ptr a9 0), s3), allocA E0 s3 27 = some ((.ptr a10 0), s4), obC 20 [(.ptr d 0)] s4 (.tup [v42a, (i64 n42b)]) s5, storeA E0 s5 27 (.ptr a9 0) v42a = some s6, obC 49 [(.ptr e 0)] s6 (.tup [v47a, (i64 n47b)]) s7, storeA E0 s7 27 (.ptr a10 0) v47a = some s8, loadA E0 s8 27 (.ptr a9 0) = some v50 ∧ s8 = s8, loadA E0 s8 27 (.ptr a10 0) = some v51 ∧ s8 = s8, binA F.E1 .neq 27 v50 v51 = some FF, binA E0 .neq 3 (i64 n42b) (i64 n47b) = some FF, loadA E0 s8 67 (.ptr a6 101) = some v106 ∧ s8 = s8, obC 47 [(.ptr d 0), (.ptr e 0), v106] s8 TT s9, binA E0 .add 3 (i64 n19) (i64 1) = some (i64 n110)]) := by kernel_rfl
theorem f10_4_TFFTFFT {d e a6 a9 a10 : Nat} {lv q22 v23 v42a v47a v50 v51 v106 : AV} {n18 n19 n27 n42b n47b n110 : Int} {st s1 s2 s3 s4 s5 s6 s7 s8 s9 : St} (h1 : binA E0 .lss 3 (i64 n19) (i64 n18) = some TT) (h2 : indexAddrA E0 81 lv (i64 n19) = some q22) (h3 : loadA E0 st 83 q22 = some v23) (h4 : allocA E0 st 83 = some ((.ptr a6 0), s1)) (h5 : storeA E0 s1 83 (.ptr a6 0) v23 = some s2) (h6 : binA E0 .eql 3 (i64 n19) (i64 60) = some FF) (h7 : loadA E0 s2 3 (.ptr a6 0) = some (i64 n27)) (h8 : binA E0 .eql 3 (i64 n27) (i64 0) = some FF) (h9 : binA E0 .eql 3 (i64 n27) (i64 1) = some TT) (h10 : allocA E0 s2 27 = some ((.ptr a9 0), s3)) (h11 : allocA E0 s3 27 = some ((.ptr a10 0), s4)) (h12 : obC 20 [(.ptr d 0)] s4 (.tup [v42a, (i64 n42b)]) s5) (h13 : storeA E0 s5 27 (.ptr a9 0) v42a = some s6) (h14 : obC 49 [(.ptr e 0)] s6 (.tup [v47a, (i64 n47b)]) s7) (h15 : storeA E0 s7 27 (.ptr a10 0) v47a = some s8) (h16 : loadA E0 s8 27 (.ptr a9 0) = some v50) (h17 : loadA E0 s8 27 (.ptr a10 0) = some v51) (h18 : binA F.E1 .neq 27 v50 v51 = some FF) (h19 : binA E0 .neq 3 (i64 n42b) (i64 n47b) = some FF) (h20 : loadA E0 s8 67 (.ptr a6 101) = some v106) (h21 : obC 47 [(.ptr d 0), (.ptr e 0), v106] s8 TT s9) (h22 : binA E0 .add 3 (i64 n19) (i64 1) = some (i64 n110)) {T : Tm} (hT : f10L3 T (.ptr d 0) (.ptr e 0) lv (i64 n18) (i64 n19)) : AW Try.prog (f10P 4) (fun ex T' st' => ex = .normal ∧ f10L3 T' (.ptr d 0) (.ptr e 0) lv (i64 n18) (i64 n110) ∧ st' = s9) T st := by
  obtain ⟨hn, g3, g4, g17, g18, g19⟩ := hT
  exact (gen_run (G := fun T => ([T.get 3, T.get 4, T.get 17, T.get 18, T.get 19] : List AV)) F.E1_ok (f10_4_TFFTFFT_e d e a6 a9 a10 lv q22 v23 v42a v47a v50 v51 v106 n18 n19 n27 n42b n47b n110 st s1 s2 s3 s4 s5 s6 s7 s8 s9) (Ob.ok_cons.2 ⟨h1, (Ob.ok_cons.2 ⟨h2, (Ob.ok_cons.2 ⟨⟨h3, rfl⟩, (Ob.ok_cons.2 ⟨h4, (Ob.ok_cons.2 ⟨h5, (Ob.ok_cons.2 ⟨h6, (Ob.ok_cons.2 ⟨⟨h7, rfl⟩, (Ob.ok_cons.2 ⟨h8, (Ob.ok_cons.2 ⟨h9, (Ob.ok_cons.2 ⟨h10, (Ob.ok_cons.2 ⟨h11, (Ob.ok_cons.2 ⟨h12, (Ob.ok_cons.2 ⟨h13, (Ob.ok_cons.2 ⟨h14, (Ob.ok_cons.2 ⟨h15, (Ob.ok_cons.2 ⟨⟨h16, rfl⟩, (Ob.ok_cons.2 ⟨⟨h17, rfl⟩, (Ob.ok_cons.2 ⟨h18, (Ob.ok_cons.2 ⟨h19, (Ob.ok_cons.2 ⟨⟨h20, rfl⟩, (Ob.ok_cons.2 ⟨h21, (Ob.ok_cons.2 ⟨h22, Ob.ok_nil⟩)⟩)⟩)⟩)⟩)⟩)⟩)⟩)⟩)⟩)⟩)⟩)⟩)⟩)⟩)⟩)⟩)⟩)⟩)⟩)⟩)⟩) hn (conz g3 (conz g4 (conz g17 (conz g18 (one g19)))))).mono fun ex T' st' ⟨q1, q2, q3, q4⟩ => by simp only [List.cons.injEq, and_true] at q3; exact ⟨q1, ⟨q2, q3⟩, q4⟩
theorem f10_4_TFFFTFT_e (d e a6 : Nat) (lv q22 v23 v57 v61 v106 : AV) (n18 n19 n27 n110 : Int) (st s1 s2 s3 s4 s5 : St) : ((evS Try.prog F.E1 noOv noS 100000 [2006, 2009, 2010, 2023, 2027, 2050, 2051, 2057, 2061, 2067, 2071, 2077, 2081, 2106, 5000, 6018, 6019, 6020, 6022, 6030, 6032, 6034, 6038, 6041, 6044, 6045, 6046, 6047, 6048, 6049, 7020, 7022, 7025, 7029, 7039, 7052, 7054, 7064, 7074, 7084, 7094, 7101, 7110, 8000] (f10P 4) ⟨111, [(3, (.ptr d 0)), (4, (.ptr e 0)), (17, lv), (18, (i64 n18)), (19, (i64 n19))], []⟩ st [.av TT, .av q22, .eff v23 id, .eff (.ptr a6 0) (fun _ => s1), .eff .undef (fun _ => s2), .av FF, .eff (i64 n27) id, .av FF, .av FF, .av TT, .eff v57 id, .eff (.tup []) (fun _ => s3), .eff v61 id, .eff (.tup []) (fun _ => s4), .av FF, .eff v106 id, .eff TT (fun _ => s5), .av (i64 n110)]).map fun q => (q.1, q.2.1.n, ([q.2.1.get 3, q.2.1.get 4, q.2.1.get 17, q.2.1.get 18, q.2.1.get 19] : List AV), q.2.2.1, q.2.2.2.2)) = some (.normal, 111, [(.ptr d 0), (.ptr e 0), lv, (i64 n18), (i64 n110)], s5, [binA E0 .lss 3 (i64 n19) (i64 n18) = some TT, indexAddrA E0 81 lv (i64 n19) = some q22, loadA E0 st 83 q22 = some v23 ∧ st = st, allocA E0 st 83 = some ((.ptr a6 0), s1), storeA E0 s1 83 (.ptr a6 0) v23 = some s2, binA E0 .eql 3 (i64 n19) (i64 60) = some FF, loadA E0 s2 3 (.ptr a6 0) = some (i64 n27) ∧ s2 = s2, binA E0 .eql 3 (i64 n27) (i64 0) = some FF, binA E0 .eql 3 (i64 n27) (i64 1) = some FF, binA E0 .eql 3 (i64 n27) (i64 2) = some TT, loadA E0 s2 67 (.ptr a6 101) = some v57 ∧ s2 = s2, obC 30 [(.ptr d 0), v57] s2 (.tup []) s3, loadA E0 s3 67 (.ptr a6 101) = some v61 ∧ s3 = s3, obC 46 [(.ptr e 0), v61] s3 (.tup []) s4, binA E0 .neq 3 (i64 0) (i64 0) = some FF, loadA E0 s4 67 (.ptr a6 101) = some v106 ∧ s4 = s4, obC 47 [(.ptr d 0), (.ptr e 0), v106] s4 TT s5, binA E0 .add 3 (i64 n19) (i64 1) = some (i64 n110)]) := by kernel_rfl
theorem f10_4_TFFFTFT {d e a6 : Nat} {lv q22 v23 v57 v61 v106 : AV} {n18 n19 n27 n110 : Int} {st s1 s2 s3 s4 s5 : St} (h1 : binA E0 .lss 3 (i64 n19) (i64 n18) = some TT) (h2 : indexAddrA E0 81 lv (i64 n19) = some q22) (h3 : loadA E0 st 83 q22 = some v23) (h4 : allocA E0 st 83 = some ((.ptr a6 0), s1)) (h5 : storeA E0 s1 83 (.ptr a6 0) v23 = some s2) (h6 : binA E0 .eql 3 (i64 n19) (i64 60) = some FF) (h7 : loadA E0 s2 3 (.ptr a6 0) = some (i64 n27)) (h8 : binA E0 .eql 3 (i64 n27) (i64 0) = some FF) (h9 : binA E0 .eql 3 (i64 n27) (i64 1) = some FF) (h10 : binA E0 .eql 3 (i64 n27) (i64 2) = some TT) (h11 : loadA E0 s2 67 (.ptr a6 101) = some v57) (h12 : obC 30 [(.ptr d 0), v57] s2 (.tup []) s3) (h13 : loadA E0 s3 67 (.ptr a6 101) = some v61) (h14 : obC 46 [(.ptr e 0), v61] s3 (.tup []) s4) (h15 : binA E0 .neq 3 (i64 0) (i64 0) = some FF) (h16 : loadA E0 s4 67 (.ptr a6 101) = some v106) (h17 : obC 47 [(.ptr d 0), (.ptr e 0), v106] s4 TT s5) (h18 : binA E0 .add 3 (i64 n19) (i64 1) = some (i64 n110)) {T : Tm} (hT : f10L3 T (.ptr d 0) (.ptr e 0) lv (i64 n18) (i64 n19)) : AW Try.prog (f10P 4) (fun ex T' st' => ex = .normal ∧ f10L3 T' (.ptr d 0) (.ptr e 0) lv (i64 n18) (i64 n110) ∧ st' = s5) T st := by
  obtain ⟨hn, g3, g4, g17, g18, g19⟩ := hT
  exact (gen_run (G := fun T => ([T.get 3, T.get 4, T.get 17, T.get 18, T.get 19] : List AV)) F.E1_ok (f10_4_TFFFTFT_e d e a6 lv q22 v23 v57 v61 v106 n18 n19 n27 n110 st s1 s2 s3 s4 s5) (Ob.ok_cons.2 ⟨h1, (Ob.ok_cons.2 ⟨h2, (Ob.ok_cons.2 ⟨⟨h3, rfl⟩, (Ob.ok_cons.2 ⟨h4, (Ob.ok_cons.2 ⟨h5, (Ob.ok_cons.2 ⟨h6, (Ob.ok_cons.2 ⟨⟨h7, rfl⟩, (Ob.ok_cons.2 ⟨h8, (Ob.ok_cons.2 ⟨h9, (Ob.ok_cons.2 ⟨h10, (Ob.ok_cons.2 ⟨⟨h11, rfl⟩, (Ob.ok_cons.2 ⟨h12, (Ob.ok_cons.2 ⟨⟨h13, rfl⟩, (Ob.ok_cons.2 ⟨h14, (Ob.ok_cons.2 ⟨h15, (Ob.ok_cons.2 ⟨⟨h16, rfl⟩, (Ob.ok_cons.2 ⟨h17, (Ob.ok_cons.2 ⟨h18, Ob.ok_nil⟩)⟩)⟩)⟩)⟩)⟩)⟩)⟩)⟩)⟩)⟩)⟩)⟩)⟩)⟩)⟩)⟩)⟩) hn (conz g3 (conz g4 (conz g17 (conz g18 (one g19)))))).mono fun ex T' st' ⟨q1, q2, q3, q4⟩ => by simp only [List.cons.injEq, and_true] at q3; exact ⟨q1, ⟨q2, q3⟩, q4⟩
theorem f10_4_TFFFFTFT_e (d e a6 : Nat) (lv q22 v23 v106 : AV) (n18 n19 n27 n67 n71 n110 : Int) (st s1 s2 s3 s4 s5 : St) : ((evS Try.prog F.E1 noOv noS 100000 [2006, 2009, 2010, 2023, 2027, 2050, 2051, 2057, 2061, 2067, 2071, 2077, 2081, 2106, 5000, 6018, 6019, 6020, 6022, 6030, 6032, 6034, 6038, 6041, 6044, 6045, 6046, 6047, 6048, 6049, 7020, 7022, 7025, 7029, 7039, 7052, 7054, 7064, 7074, 7084, 7094, 7101, 7110, 8000] (f10P 4) ⟨111, [(3, (.ptr d 0)), (4, (.ptr e 0)), (17, lv), (18, (i64 n18)), (19, (i64 n19))], []⟩ st [.av TT, .av q22, .eff v23 id, .eff (.ptr a6 0) (fun _ => s1), .eff .undef (fun _ => s2), .av FF, .eff (i64 n27) id, .av FF, .av FF, .av FF, .av TT, .eff (i64 n67) id, .eff (.tup []) (fun _ => s3), .eff (i64 n71) id, .eff (.tup []) (fun _ => s4), .av FF, .eff v106 id, .eff TT (fun _ => s5), .av (i64 n110)]).map fun q => (q.1, q.2.1.n, ([q.2.1.get 3, q.2.1.get 4, q.2.1.get 17, q.2.1.get 18, q.2.1.get 19] : List AV), q.2.2.1, q.2.2.2.2)) = some (.normal, 111, [(.ptr d 0), (.ptr e 0), lv, (i64 n18), (i64 n110)], s5, [binA E0 .lss 3 (i64 n19) (i64 n18) = some TT, indexAddrA E0 81 lv (i64 n19) = some q22, loadA E0 st 83 q22 = some v23 ∧ st = st, allocA E0 st 83 = some ((.ptr a6 0), s1), storeA E0 s1 83 (.ptr a6 0) v23 = some s2, binA E0 .eql 3 (i64 n19) (i64 60) = some FF, loadA E0 s2 3 (.ptr a6 0) = some (i64 n27) ∧ s2 = s2, binA E0 .eql 3 (i64 n27) (i64 0) = some FF, binA E0 .eql 3 (i64 n27) (i64 1) = some FF, binA E0 .eql 3 (i64 n27) (i64 2) = some FF, binA E0 .eql 3 (i64 n27) (i64 3) = some TT, loadA E0 s2 3 (.ptr a6 1) = some (i64 n67) ∧ s2 = s2, obC 22 [(.ptr d 0), (i64 n67)] s2 (.tup []) s3, loadA E0 s3 3 (.ptr a6 1) = some (i64 n71) ∧ s3 = s3, obC 45 [(.ptr e 0), (i64 n71)] s3 (.tup []) s4, binA E0 .neq 3 (i64 0) (i64 0) = some FF, loadA E0 s4 67 (.ptr a6 101) = some v106 ∧ s4 = s4, obC 47 [(.ptr d 0), (.ptr e 0), v106] s4 TT s5, binA E0 .add 3 (i64 n19) (i64 1) = some (i64 n110)]) := by kernel_rfl
theorem f10_4_TFFFFTFT {d e a6 : Nat} {lv q22 v23 v106 : AV} {n18 n19 n27 n67 n71 n110 : Int} {st s1 s2 s3 s4 s5 : St} (h1 : binA E0 .lss 3 (i64 n19) (i64 n18) = some TT) (h2 : indexAddrA E0 81 lv (i64 n19) = some q22) (h3 : loadA E0 st 83 q22 = some v23) (h4 : allocA E0 st 83 = some ((.ptr a6 0), s1)) (h5 : storeA E0 s1 83 (.ptr a6 0) v23 = some s2) (h6 : binA E0 .eql 3 (i64 n19) (i64 60) = some FF) (h7 : loadA E0 s2 3 (.ptr a6 0) = some (i64 n27)) (h8 : binA E0 .eql 3 (i64 n27) (i64 0) = some FF) (h9 : binA E0 .eql 3 (i64 n27) (i64 1) = some FF) (h10 : binA E0 .eql 3 (i64 n27) (i64 2) = some FF) (h11 : binA E0 .eql 3 (i64 n27) (i64 3) = some TT) (h12 : loadA E0 s2 3 (.ptr a6 1) = some (i64 n67)) (h13 : obC 22 [(.ptr d 0), (i64 n67)] s2 (.tup []) s3) (h14 : loadA E0 s3 3 (.ptr a6 1) = some (i64 n71)) (h15 : obC 45 [(.ptr e 0), (i64 n71)] s3 (.tup []) s4) (h16 : binA E0 .neq 3 (i64 0) (i64 0) = some FF) (h17 : loadA E0 s4 67 (.ptr a6 101) = some v106) (h18 : obC 47 [(.ptr d 0), (.ptr e 0), v106] s4 TT s5) (h19 : binA E0 .add 3 (i64 n19) (i64 1) = some (i64 n110)) {T : Tm} (hT : f10L3 T (.ptr d 0) (.ptr e 0) lv (i64 n18) (i64 n19)) : AW Try.prog (f10P 4) (fun ex T' st' => ex = .normal ∧ f10L3 T' (.ptr d 0) (.ptr e 0) lv (i64 n18) (i64 n110) ∧ st' = s5) T st := by
  obtain ⟨hn, g3, g4, g17, g18, g19⟩ := hT
  exact (gen_run (G := fun T => ([T.get 3, T.get 4, T.get 17, T.get 18, T.get 19] : List AV)) F.E1_ok (f10_4_TFFFFTFT_e d e a6 lv q22 v23 v106 n18 n19 n27 n67 n71 n110 st s1 s2 s3 s4 s5) (Ob.ok_cons.2 ⟨h1, (Ob.ok_cons.2 ⟨h2, (Ob.ok_cons.2 ⟨⟨h3, rfl⟩, (Ob.ok_cons.2 ⟨h4, (Ob.ok_cons.2 ⟨h5, (Ob.ok_cons.2 ⟨h6, (Ob.ok_cons.2 ⟨⟨h7, rfl⟩, (Ob.ok_cons.2 ⟨h8, (Ob.ok_cons.2 ⟨h9, (Ob.ok_cons.2 ⟨h10, (Ob.ok_cons.2 ⟨h11, (Ob.ok_cons.2 ⟨⟨h12, rfl⟩, (Ob.ok_cons.2 ⟨h13, (Ob.ok_cons.2 ⟨⟨h14, rfl⟩, (Ob.ok_cons.2 ⟨h15, (Ob.ok_cons.2 ⟨h16, (Ob.ok_cons.2 ⟨⟨h17, rfl⟩, (Ob.ok_cons.2 ⟨h18, (Ob.ok_cons.2 ⟨h19, Ob.ok_nil⟩)⟩)⟩)⟩)⟩)⟩)⟩)⟩)⟩)⟩)⟩)⟩)⟩)⟩)⟩)⟩)⟩)⟩)⟩) hn (conz g3 (conz g4 (conz g17 (conz g18 (one g19)))))).mono fun ex T' st' ⟨q1, q2, q3, q4⟩ => by simp only [List.cons.injEq, and_true] at q3; exact ⟨q1, ⟨q2, q3⟩, q4⟩
theorem f10_4_TFFFFFTFT_e (d e a6 : Nat) (lv q22 v23 v106 : AV) (n18 n19 n27 n77 n81 n110 : Int) (st s1 s2 s3 s4 s5 : St) : ((evS Try.prog F.E1 noOv noS 100000 [2006, 2009, 2010, 2023, 2027, 2050, 2051, 2057, 2061, 2067, 2071, 2077, 2081, 2106, 5000, 6018, 6019, 6020, 6022, 6030, 6032, 6034, 6038, 6041, 6044, 6045, 6046, 6047, 6048, 6049, 7020, 7022, 7025, 7029, 7039, 7052, 7054, 7064, 7074, 7084, 7094, 7101, 7110, 8000] (f10P 4) ⟨111, [(3, (.ptr d 0)), (4, (.ptr e 0)), (17, lv), (18, (i64 n18)), (19, (i64 n19))], []⟩ st [.av TT, .av q22, .eff v23 id, .eff (.ptr a6 0) (fun _ => s1), .eff .undef (fun _ => s2), .av FF, .eff (i64 n27) id, .av FF, .av FF, .av FF, .av FF, .av TT, .eff (i64 n77) id, .eff (.tup []) (fun _ => s3), .eff (i64 n81) id, .eff (.tup []) (fun _ => s4), .av FF, .eff v106 id, .eff TT (fun _ => s5), .av (i64 n110)]).map fun q => (q.1, q.2.1.n, ([q.2.1.get 3, q.2.1.get 4, q.2.1.get 17, q.2.1.get 18, q.2.1.get 19] : List AV), q.2.2.1, q.2.2.2.2)) = some (.normal, 111, [(.ptr d 0), (.ptr e 0), lv, (i64 n18), (i64 n110)], s5, [binA E0 .lss 3 (i64 n19) (i64 n18) = some TT, indexAddrA E0 81 lv (i64 n19) = some q22, loadA E0 st 83 q22 = some v23 ∧ st = st, allocA E0 st 83 = some ((.ptr a6 0), s1), storeA E0 s1 83 (.ptr a6 0) v23 = some s2, binA E0 .eql 3 (i64 n19) (i64 60) = some FF, loadA E0 s2 3 (.ptr a6 0) = some (i64 n27) ∧ s2 = s2, binA E0 .eql 3 (i64 n27) (i64 0) = some FF, binA E0 .eql 3 (i64 n27) (i64 1) = some FF, binA E0 .eql 3 (i64 n27) (i64 2) = some FF, binA E0 .eql 3 (i64 n27) (i64 3) = some FF, binA E0 .eql 3 (i64 n27) (i64 4) = some TT, loadA E0 s2 3 (.ptr a6 1) = some (i64 n77) ∧ s2 = s2, obC 32 [(.ptr d 0), (i64 n77)] s2 (.tup []) s3, loadA E0 s3 3 (.ptr a6 1) = some (i64 n81) ∧ s3 = s3, obC 44 [(.ptr e 0), (i64 n81)] s3 (.tup []) s4, binA E0 .neq 3 (i64 0) (i64 0) = some FF, loadA E0 s4 67 (.ptr a6 101) = some v106 ∧ s4 = s4, obC 47 [(.ptr d 0), (.ptr e 0), v106] s4 TT s5, binA E0 .add 3 (i64 n19) (i64 1) = some (i64 n110)]) := by kernel_rfl
theorem f10_4_TFFFFFTFT {d e a6 : Nat} {lv q22 v23 v106 : AV} {n18 n19 n27 n77 n81 n110 : Int} {st s1 s2 s3 s4 s5 : St} (h1 : binA E0 .lss 3 (i64 n19) (i64 n18) = some TT) (h2 : indexAddrA E0 81 lv (i64 n19) = some q22) (h3 : loadA E0 st 83 q22 = some v23) (h4 : allocA E0 st 83 = some ((.ptr a6 0), s1)) (h5 : storeA E0 s1 83 (.ptr a6 0) v23 = some s2) (h6 : binA E0 .eql 3 (i64 n19) (i64 60) = some FF) (h7 : loadA E0 s2 3 (.ptr a6 0) = some (i64 n27)) (h8 : binA E0 .eql 3 (i64 n27) (i64 0) = some FF) (h9 : binA E0 .eql 3 (i64 n27) (i64 1) = some FF) (h10 : binA E0 .eql 3 (i64 n27) (i64 2) = some FF) (h11 : binA E0 .eql 3 (i64 n27) (i64 3) = some FF) (h12 : binA E0 .eql 3 (i64 n27) (i64 4) = some TT) (h13 : loadA E0 s2 3 (.ptr a6 1) = some (i64 n77)) (h14 : obC 32 [(.ptr d 0), (i64 n77)] s2 (.tup []) s3) (h15 : loadA E0 s3 3 (.ptr a6 1) = some (i64 n81)) (h16 : obC 44 [(.ptr e 0), (i64 n81)] s3 (.tup []) s4) (h17 : binA E0 .neq 3 (i64 0) (i64 0) = some FF) (h18 : loadA E0 s4 67 (.ptr a6 101) = some v106) (h19 : obC 47 [(.ptr d 0), (.ptr e 0), v106] s4 TT s5) (h20 : binA E0 .add 3 (i64 n19) (i64 1) = some (i64 n110)) {T : Tm} (hT : f10L3 T (.ptr d 0) (.ptr e 0) lv (i64 n18) (i64 n19)) : AW Try.prog (f10P 4) (fun ex T' st' => ex = .normal ∧ f10L3 T' (.ptr d 0) (.ptr e 0) lv (i64 n18) (i64 n110) ∧ st' = s5) T st := by
  obtain ⟨hn, g3, g4, g17, g18, g19⟩ := hT
  exact (gen_run (G := fun T => ([T.get 3, T.get 4, T.get 17, T.get 18, T.get 19] : List AV)) F.E1_ok (f10_4_TFFFFFTFT_e d e a6 lv q22 v23 v106 n18 n19 n27 n77 n81 n110 st s1 s2 s3 s4 s5) (Ob.ok_cons.2 ⟨h1, (Ob.ok_cons.2 ⟨h2, (Ob.ok_cons.2 ⟨⟨h3, rfl⟩, (Ob.ok_cons.2 ⟨h4, (Ob.ok_cons.2 ⟨h5, (Ob.ok_cons.2 ⟨h6, (Ob.ok_cons.2 ⟨⟨h7, rfl⟩, (Ob.ok_cons.2 ⟨h8, (Ob.ok_cons.2 ⟨h9, (Ob.ok_cons.2 ⟨h10, (Ob.ok_cons.2 ⟨h11, (Ob.ok_cons.2 ⟨h12, (Ob.ok_cons.2 ⟨⟨h13, rfl⟩, (Ob.ok_cons.2 ⟨h14, (Ob.ok_cons.2 ⟨⟨h15, rfl⟩, (Ob.ok_cons.2 ⟨h16, (Ob.ok_cons.2 ⟨h17, (Ob.ok_cons.2 ⟨⟨h18, rfl⟩, (Ob.ok_cons.2 ⟨h19, (Ob.ok_cons.2 ⟨h20, Ob.ok_nil⟩)⟩)⟩)⟩)⟩)⟩)⟩)⟩)⟩)⟩)⟩)⟩)⟩)⟩)⟩)⟩)⟩)⟩)⟩)⟩) hn (conz g3 (conz g4 (conz g17 (conz g18 (one g19)))))).mono fun ex T' st' ⟨q1, q2, q3, q4⟩ => by simp only [List.cons.injEq, and_true] at q3; exact ⟨q1, ⟨q2, q3⟩, q4⟩
theorem f10_4_TFFFFFFTFT_e (d e a6 : Nat) (lv q22 v23 v87 v91 v106 : AV) (n18 n19 n27 n88 n92 n110 : Int) (st s1 s2 s3 s4 s5 : St) : ((evS Try.prog F.E1 noOv noS 100000 [2006, 2009, 2010, 2023, 2027, 2050, 2051, 2057, 2061, 2067, 2071, 2077, 2081, 2106, 5000, 6018, 6019, 6020, 6022, 6030, 6032, 6034, 6038, 6041, 6044, 6045, 6046, 6047, 6048, 6049, 7020, 7022, 7025, 7029, 7039, 7052, 7054, 7064, 7074, 7084, 7094, 7101, 7110, 8000] (f10P 4) ⟨111, [(3, (.ptr d 0)), (4, (.ptr e 0)), (17, lv), (18, (i64 n18)), (19, (i64 n19))], []⟩ st [.av TT, .av q22, .eff v23 id, .eff (.ptr a6 0) (fun _ => s1), .eff .undef (fun _ => s2), .av FF, .eff (i64 n27) id, .av FF, .av FF, .av FF, .av FF, .av FF, .av TT, .eff v87 id, .eff v91 id, .eff (i64 n88) (fun _ => s3), .eff (i64 n92) (fun _ => s4), .av FF, .eff v106 id, .eff TT (fun _ => s5), .av (i64 n110)]).map fun q => (q.1, q.2.1.n, ([q.2.1.get 3, q.2.1.get 4, q.2.1.get 17, q.2.1.get 18, q.2.1.get 19] : List AV), q.2.2.1, q.2.2.2.2)) = some (.normal, 111, [(.ptr d 0), (.ptr e 0), lv, (i64 n18), (i64 n110)], s5, [binA E0 .lss 3 (i64 n19) (i64 n18) = some TT, indexAddrA E0 81 lv (i64 n19) = some q22, loadA E0 st 83 q22 = some v23 ∧ st = st, allocA E0 st 83 = some ((.ptr a6 0), s1), storeA E0 s1 83 (.ptr a6 0) v23 = some s2, binA E0 .eql 3 (i64 n19) (i64 60) = some FF, loadA E0 s2 3 (.ptr a6 0) = some (i64 n27) ∧ s2 = s2, binA E0 .eql 3 (i64 n27) (i64 0) = some FF, binA E0 .eql 3 (i64 n27) (i64 1) = some FF, binA E0 .eql 3 (i64 n27) (i64 2) = some FF, binA E0 .eql 3 (i64 n27) (i64 3) = some FF, binA E0 .eql 3 (i64 n27) (i64 4) = some FF, binA E0 .eql 3 (i64 n27) (i64 5) = some TT, ∀ k ∈ [a6, a6], k < s2.next, [a6, a6].contains a6 = true ∧ loadA E0 s2 28 (.ptr a6 100) = some v87, [a6, a6].contains a6 = true ∧ loadA E0 s2 28 (.ptr a6 100) = some v91, (true = true → [a6, a6].all (fun k => (s2.get k).isSome) = true), obC 19 [(.ptr d 0), (str ⟨#[104, 101, 97, 100]⟩), v87] (s2.hide [a6, a6]) (i64 n88) s3, (false = true → [a6, a6].all (fun k => ((s3.show s2 [a6, a6]).get k).isSome) = true), obC 38 [(.ptr e 0), (str ⟨#[104, 101, 97, 100]⟩), v91] (s3.show s2 [a6, a6]) (i64 n92) s4, binA E0 .neq 3 (i64 n88) (i64 n92) = some FF, loadA E0 s4 67 (.ptr a6 101) = some v106 ∧ s4 = s4, obC 47 [(.ptr d 0), (.ptr e 0), v106] s4 TT s5, binA E0 .add 3 (i64 n19) (i64 1) = some (i64 n110)]) := by kernel_rfl
theorem f10_4_TFFFFFFTFT {d e a6 : Nat} {lv q22 v23 v87 v91 v106 : AV} {n18 n19 n27 n88 n92 n110 : Int} {st s1 s2 s3 s4 s5 : St} (h1 : binA E0 .lss 3 (i64 n19) (i64 n18) = some TT) (h2 : indexAddrA E0 81 lv (i64 n19) = some q22) (h3 : loadA E0 st 83 q22 = some v23) (h4 : allocA E0 st 83 = some ((.ptr a6 0), s1)) (h5 : storeA E0 s1 83 (.ptr a6 0) v23 = some s2) (h6 : binA E0 .eql 3 (i64 n19) (i64 60) = some FF) (h7 : loadA E0 s2 3 (.ptr a6 0) = some (i64 n27)) (h8 : binA E0 .eql 3 (i64 n27) (i64 0) = some FF) (h9 : binA E0 .eql 3 (i64 n27) (i64 1) = some FF) (h10 : binA E0 .eql 3 (i64 n27) (i64 2) = some FF) (h11 : binA E0 .eql 3 (i64 n27) (i64 3) = some FF) (h12 : binA E0 .eql 3 (i64 n27) (i64 4) = some FF) (h13 : binA E0 .eql 3 (i64 n27) (i64 5) = some TT) (h14 : ∀ k ∈ [a6, a6], k < s2.next) (h15 : loadA E0 s2 28 (.ptr a6 100) = some v87) (h16 : loadA E0 s2 28 (.ptr a6 100) = some v91) (h17 : [a6, a6].all (fun k => (s2.get k).isSome) = true) (h18 : obC 19 [(.ptr d 0), (str ⟨#[104, 101, 97, 100]⟩), v87] (s2.hide [a6, a6]) (i64 n88) s3) (h19 : obC 38 [(.ptr e 0), (str ⟨#[104, 101, 97, 100]⟩), v91] (s3.show s2 [a6, a6]) (i64 n92) s4) (h20 : binA E0 .neq 3 (i64 n88) (i64 n92) = some FF) (h21 : loadA E0 s4 67 (.ptr a6 101) = some v106) (h22 : obC 47 [(.ptr d 0), (.ptr e 0), v106] s4 TT s5) (h23 : binA E0 .add 3 (i64 n19) (i64 1) = some (i64 n110)) {T : Tm} (hT : f10L3 T (.ptr d 0) (.ptr e 0) lv (i64 n18) (i64 n19)) : AW Try.prog (f10P 4) (fun ex T' st' => ex = .normal ∧ f10L3 T' (.ptr d 0) (.ptr e 0) lv (i64 n18) (i64 n110) ∧ st' = s5) T st := by
  obtain ⟨hn, g3, g4, g17, g18, g19⟩ := hT
  exact (gen_run (G := fun T => ([T.get 3, T.get 4, T.get 17, T.get 18, T.get 19] : List AV)) F.E1_ok (f10_4_TFFFFFFTFT_e d e a6 lv q22 v23 v87 v91 v106 n18 n19 n27 n88 n92 n110 st s1 s2 s3 s4 s5) (Ob.ok_cons.2 ⟨h1, (Ob.ok_cons.2 ⟨h2, (Ob.ok_cons.2 ⟨⟨h3, rfl⟩, (Ob.ok_cons.2 ⟨h4, (Ob.ok_cons.2 ⟨h5, (Ob.ok_cons.2 ⟨h6, (Ob.ok_cons.2 ⟨⟨h7, rfl⟩, (Ob.ok_cons.2 ⟨h8, (Ob.ok_cons.2 ⟨h9, (Ob.ok_cons.2 ⟨h10, (Ob.ok_cons.2 ⟨h11, (Ob.ok_cons.2 ⟨h12, (Ob.ok_cons.2 ⟨h13, (Ob.ok_cons.2 ⟨h14, (Ob.ok_cons.2 ⟨⟨by simp, h15⟩, (Ob.ok_cons.2 ⟨⟨by simp, h16⟩, (Ob.ok_cons.2 ⟨(fun _ => h17), (Ob.ok_cons.2 ⟨h18, (Ob.ok_cons.2 ⟨(fun h => by cases h), (Ob.ok_cons.2 ⟨h19, (Ob.ok_cons.2 ⟨h20, (Ob.ok_cons.2 ⟨⟨h21, rfl⟩, (Ob.ok_cons.2 ⟨h22, (Ob.ok_cons.2 ⟨h23, Ob.ok_nil⟩)⟩)⟩)⟩)⟩)⟩)⟩)⟩)⟩)⟩)⟩)⟩)⟩)⟩)⟩)⟩)⟩)⟩)⟩)⟩)⟩)⟩)⟩)⟩) hn (conz g3 (conz g4 (conz g17 (conz g18 (one g19)))))).mono fun ex T' st' ⟨q1, q2, q3, q4⟩ => by simp only [List.cons.injEq, and_true] at q3; exact ⟨q1, ⟨q2, q3⟩, q4⟩
theorem f10_4_TFFFFFFFTFT_e (d e a6 : Nat) (lv q22 v23 v106 : AV) (n18 n19 n27 n96 n98 n110 : Int) (st s1 s2 s3 s4 s5 : St) : ((evS Try.prog F.E1 noOv noS 100000 [2006, 2009, 2010, 2023, 2027, 2050, 2051, 2057, 2061, 2067, 2071, 2077, 2081, 2106, 5000, 6018, 6019, 6020, 6022, 6030, 6032, 6034, 6038, 6041, 6044, 6045, 6046, 6047, 6048, 6049, 7020, 7022, 7025, 7029, 7039, 7052, 7054, 7064, 7074, 7084, 7094, 7101, 7110, 8000] (f10P 4) ⟨111, [(3, (.ptr d 0)), (4, (.ptr e 0)), (17, lv), (18, (i64 n18)), (19, (i64 n19))], []⟩ st [.av TT, .av q22, .eff v23 id, .eff (.ptr a6 0) (fun _ => s1), .eff .undef (fun _ => s2), .av FF, .eff (i64 n27) id, .av FF, .av FF, .av FF, .av FF, .av FF, .av FF, .av TT, .eff (i64 n96) (fun _ => s3), .eff (i64 n98) (fun _ => s4), .av FF, .eff v106 id, .eff TT (fun _ => s5), .av (i64 n110)]).map fun q => (q.1, q.2.1.n, ([q.2.1.get 3, q.2.1.get 4, q.2.1.get 17, q.2.1.get 18, q.2.1.get 19] : List AV), q.2.2.1, q.2.2.2.2)) = some (.normal, 111, [(.ptr d 0), (.ptr e 0), lv, (i64 n18), (i64 n110)], s5, [binA E0 .lss 3 (i64 n19) (i64 n18) = some TT, indexAddrA E0 81 lv (i64 n19) = some q22, loadA E0 st 83 q22 = some v23 ∧ st = st, allocA E0 st 83 = some ((.ptr a6 0), s1), storeA E0 s1 83 (.ptr a6 0) v23 = some s2, binA E0 .eql 3 (i64 n19) (i64 60) = some FF, loadA E0 s2 3 (.ptr a6 0) = some (i64 n27) ∧ s2 = s2, binA E0 .eql 3 (i64 n27) (i64 0) = some FF, binA E0 .eql 3 (i64 n27) (i64 1) = some FF, binA E0 .eql 3 (i64 n27) (i64 2) = some FF, binA E0 .eql 3 (i64 n27) (i64 3) = some FF, binA E0 .eql 3 (i64 n27) (i64 4) = some FF, binA E0 .eql 3 (i64 n27) (i64 5) = some FF, binA E0 .eql 3 (i64 n27) (i64 6) = some TT, obC 34 [(.ptr d 0), (str ⟨#[104, 101, 97, 100]⟩)] s2 (i64 n96) s3, obC 41 [(.ptr e 0), (str ⟨#[104, 101, 97, 100]⟩)] s3 (i64 n98) s4, binA E0 .neq 3 (i64 n96) (i64 n98) = some FF, loadA E0 s4 67 (.ptr a6 101) = some v106 ∧ s4 = s4, obC 47 [(.ptr d 0), (.ptr e 0), v106] s4 TT s5, binA E0 .add 3 (i64 n19) (i64 1) = some (i64 n110)]) := by kernel_rfl
theorem f10_4_TFFFFFFFTFT {d e a6 : Nat} {lv q22 v23 v106 : AV} {n18 n19 n27 n96 n98 n110 : Int} {st s1 s2 s3 s4 s5 : St} (h1 : binA E0 .lss 3 (i64 n19) (i64 n18) = some TT) (h2 : indexAddrA E0 81 lv (i64 n19) = some q22) (h3 : loadA E0 st 83 q22 = some v23) (h4 : allocA E0 st 83 = some ((.ptr a6 0), s1)) (h5 : storeA E0 s1 83 (.ptr a6 0) v23 = some s2) (h6 : binA E0 .eql 3 (i64 n19) (i64 60) = some FF) (h7 : loadA E0 s2 3 (.ptr a6 0) = some (i64 n27)) (h8 : binA E0 .eql 3 (i64 n27) (i64 0) = some FF) (h9 : binA E0 .eql 3 (i64 n27) (i64 1) = some FF) (h10 : binA E0 .eql 3 (i64 n27) (i64 2) = some FF) (h11 : binA E0 .eql 3 (i64 n27) (i64 3) = some FF) (h12 : binA E0 .eql 3 (i64 n27) (i64 4) = some FF) (h13 : binA E0 .eql 3 (i64 n27) (i64 5) = some FF) (h14 : binA E0 .eql 3 (i64 n27) (i64 6) = some TT) (h15 : obC 34 [(.ptr d 0), (str ⟨#[104, 101, 97, 100]⟩)] s2 (i64 n96) s3) (h16 : obC 41 [(.ptr e 0), (str ⟨#[104, 101, 97, 100]⟩)] s3 (i64 n98) s4) (h17 : binA E0 .neq 3 (i64 n96) (i64 n98) = some FF) (h18 : loadA E0 s4 67 (.ptr a6 101) = some v106) (h19 : obC 47 [(.ptr d 0), (.ptr e 0), v106] s4 TT s5) (h20 : binA E0 .add 3 (i64 n19) (i64 1) = some (i64 n110)) {T : Tm} (hT : f10L3 T (.ptr d 0) (.ptr e 0) lv (i64 n18) (i64 n19)) : AW Try.prog (f10P 4) (fun ex T' st' => ex = .normal ∧ f10L3 T' (.ptr d 0) (.ptr e 0) lv (i64 n18) (i64 n110) ∧ st' = s5) T st := by
  obtain ⟨hn, g3, g4, g17, g18, g19⟩ := hT
  exact (gen_run (G := fun T => ([T.get 3, T.get 4, T.get 17, T.get 18, T.get 19] : List AV)) F.E1_ok (f10_4_TFFFFFFFTFT_e d e a6 lv q22 v23 v106 n18 n19 n27 n96 n98 n110 st s1 s2 s3 s4 s5) (Ob.ok_cons.2 ⟨h1, (Ob.ok_cons.2 ⟨h2, (Ob.ok_cons.2 ⟨⟨h3, rfl⟩, (Ob.ok_cons.2 ⟨h4, (Ob.ok_cons.2 ⟨h5, (Ob.ok_cons.2 ⟨h6, (Ob.ok_cons.2 ⟨⟨h7, rfl⟩, (Ob.ok_cons.2 ⟨h8, (Ob.ok_cons.2 ⟨h9, (Ob.ok_cons.2 ⟨h10, (Ob.ok_cons.2 ⟨h11, (Ob.ok_cons.2 ⟨h12, (Ob.ok_cons.2 ⟨h13, (Ob.ok_cons.2 ⟨h14, (Ob.ok_cons.2 ⟨h15, (Ob.ok_cons.2 ⟨h16, (Ob.ok_cons.2 ⟨h17, (Ob.ok_cons.2 ⟨⟨h18, rfl⟩, (Ob.ok_cons.2 ⟨h19, (Ob.ok_cons.2 ⟨h20, Ob.ok_nil⟩)⟩)⟩)⟩)⟩)⟩)⟩)⟩)⟩)⟩)⟩)⟩)⟩)⟩)⟩)⟩)⟩)⟩)⟩)⟩) hn (conz g3 (conz g4 (conz g17 (conz g18 (one g19)))))).mono fun ex T' st' ⟨q1, q2, q3, q4⟩ => by simp only [List.cons.injEq, and_true] at q3; exact ⟨q1, ⟨q2, q3⟩, q4⟩
theorem f10_4_TFFFFFFFFFT_e (d e a6 : Nat) (lv q22 v23 v106 : AV) (n18 n19 n27 n110 : Int) (st s1 s2 s3 : St) : ((evS Try.prog F.E1 noOv noS 100000 [2006, 2009, 2010, 2023, 2027, 2050, 2051, 2057, 2061, 2067, 2071, 2077, 2081, 2106, 5000, 6018, 6019, 6020, 6022, 6030, 6032, 6034, 6038, 6041, 6044, 6045, 6046, 6047, 6048, 6049, 7020, 7022, 7025, 7029, 7039, 7052, 7054, 7064, 7074, 7084, 7094, 7101, 7110, 8000] (f10P 4) ⟨111, [(3, (.ptr d 0)), (4, (.ptr e 0)), (17, lv), (18, (i64 n18)), (19, (i64 n19))], []⟩ st [.av TT, .av q22, .eff v23 id, .eff (.ptr a6 0) (fun _ => s1), .eff .undef (fun _ => s2), .av FF, .eff (i64 n27) id, .av FF, .av FF, .av FF, .av FF, .av FF, .av FF, .av FF, .av FF, .eff v106 id, .eff TT (fun _ => s3), .av (i64 n110)]).map fun q => (q.1, q.2.1.n, ([q.2.1.get 3, q.2.1.get 4, q.2.1.get 17, q.2.1.get 18, q.2.1.get 19] : List AV), q.2.2.1, q.2.2.2.2)) = some (.normal, 111, [(.ptr d 0), (.ptr e 0), lv, (i64 n18), (i64 n110)], s3, [binA E0 .lss 3 (i64 n19) (i64 n18) = some TT, indexAddrA E0 81 lv (i64 n19) = some q22, loadA E0 st 83 q22 = some v23 ∧ st = st, allocA E0 st 83 = some ((.ptr a6 0), s1), storeA E0 s1 83 (.ptr a6 0) v23 = some s2, binA E0 .eql 3 (i64 n19) (i64 60) = some FF, loadA E0 s2 3 (.ptr a6 0) = some (i64 n27) ∧ s2 = s2, binA E0 .eql 3 (i64 n27) (i64 0) = some FF, binA E0 .eql 3 (i64 n27) (i64 1) = some FF, binA E0 .eql 3 (i64 n27) (i64 2) = some FF, binA E0 .eql 3 (i64 n27) (i64 3) = some FF, binA E0 .eql 3 (i64 n27) (i64 4) = some FF, binA E0 .eql 3 (i64 n27) (i64 5) = some FF, binA E0 .eql 3 (i64 n27) (i64 6) = some FF, binA E0 .neq 3 (i64 0) (i64 0) = some FF, loadA E0 s2 67 (.ptr a6 101) = some v106 ∧ s2 = s2, obC 47 [(.ptr d 0), (.ptr e 0), v106] s2 TT s3, binA E0 .add 3 (i64 n19) (i64 1) = some (i64 n110)]) := by kernel_rfl
theorem f10_4_TFFFFFFFFFT {d e a6 : Nat} {lv q22 v23 v106 : AV} {n18 n19 n27 n110 : Int} {st s1 s2 s3 : St} (h1 : binA E0 .lss 3 (i64 n19) (i64 n18) = some TT) (h2 : indexAddrA E0 81 lv (i64 n19) = some q22) (h3 : loadA E0 st 83 q22 = some v23) (h4 : allocA E0 st 83 = some ((.ptr a6 0), s1)) (h5 : storeA E0 s1 83 (.ptr a6 0) v23 = some s2) (h6 : binA E0 .eql 3 (i64 n19) (i64 60) = some FF) (h7 : loadA E0 s2 3 (.ptr a6 0) = some (i64 n27)) (h8 : binA E0 .eql 3 (i64 n27) (i64 0) = some FF) (h9 : binA E0 .eql 3 (i64 n27) (i64 1) = some FF) (h10 : binA E0 .eql 3 (i64 n27) (i64 2) = some FF) (h11 : binA E0 .eql 3 (i64 n27) (i64 3) = some FF) (h12 : binA E0 .eql 3 (i64 n27) (i64 4) = some FF) (h13 : binA E0 .eql 3 (i64 n27) (i64 5) = some FF) (h14 : binA E0 .eql 3 (i64 n27) (i64 6) = some FF) (h15 : binA E0 .neq 3 (i64 0) (i64 0) = some FF) (h16 : loadA E0 s2 67 (.ptr a6 101) = some v106) (h17 : obC 47 [(.ptr d 0), (.ptr e 0), v106] s2 TT s3) (h18 : binA E0 .add 3 (i64 n19) (i64 1) = some (i64 n110)) {T : Tm} (hT : f10L3 T (.ptr d 0) (.ptr e 0) lv (i64 n18) (i64 n19)) : AW Try.prog (f10P 4) (fun ex T' st' => ex = .normal ∧ f10L3 T' (.ptr d 0) (.ptr e 0) lv (i64 n18) (i64 n110) ∧ st' = s3) T st := by
  obtain ⟨hn, g3, g4, g17, g18, g19⟩ := hT
  exact (gen_run (G := fun T => ([T.get 3, T.get 4, T.get 17, T.get 18, T.get 19] : List AV)) F.E1_ok (f10_4_TFFFFFFFFFT_e d e a6 lv q22 v23 v106 n18 n19 n27 n110 st s1 s2 s3) (Ob.ok_cons.2 ⟨h1, (Ob.ok_cons.2 ⟨h2, (Ob.ok_cons.2 ⟨⟨h3, rfl⟩, (Ob.ok_cons.2 ⟨h4, (Ob.ok_cons.2 ⟨h5, (Ob.ok_cons.2 ⟨h6, (Ob.ok_cons.2 ⟨⟨h7, rfl⟩, (Ob.ok_cons.2 ⟨h8, (Ob.ok_cons.2 ⟨h9, (Ob.ok_cons.2 ⟨h10, (Ob.ok_cons.2 ⟨h11, (Ob.ok_cons.2 ⟨h12, (Ob.ok_cons.2 ⟨h13, (Ob.ok_cons.2 ⟨h14, (Ob.ok_cons.2 ⟨h15, (Ob.ok_cons.2 ⟨⟨h16, rfl⟩, (Ob.ok_cons.2 ⟨h17, (Ob.ok_cons.2 ⟨h18, Ob.ok_nil⟩)⟩)⟩)⟩)⟩)⟩)⟩)⟩)⟩)⟩)⟩)⟩)⟩)⟩)⟩)⟩)⟩)⟩) hn (conz g3 (conz g4 (conz g17 (conz g18 (one g19)))))).mono fun ex T' st' ⟨q1, q2, q3, q4⟩ => by simp only [List.cons.injEq, and_true] at q3; exact ⟨q1, ⟨q2, q3⟩, q4⟩
theorem f10_4_F_e (d e : Nat) (lv : AV) (n18 n19 : Int) (st : St) : ((evS Try.prog F.E1 noOv noS 100000 [2006, 2009, 2010, 2023, 2027, 2050, 2051, 2057, 2061, 2067, 2071, 2077, 2081, 2106, 5000, 6018, 6019, 6020, 6022, 6030, 6032, 6034, 6038, 6041, 6044, 6045, 6046, 6047, 6048, 6049, 7020, 7022, 7025, 7029, 7039, 7052, 7054, 7064, 7074, 7084, 7094, 7101, 7110, 8000] (f10P 4) ⟨111, [(3, (.ptr d 0)), (4, (.ptr e 0)), (17, lv), (18, (i64 n18)), (19, (i64 n19))], []⟩ st [.av FF]).map fun q => (q.1, q.2.1.n, ([] : List AV), q.2.2.1, q.2.2.2.2)) = some ((.exit 0), 111, [], st, [binA E0 .lss 3 (i64 n19) (i64 n18) = some FF]) := by kernel_rfl
theorem f10_4_F {d e : Nat} {lv : AV} {n18 n19 : Int} {st : St} (h1 : binA E0 .lss 3 (i64 n19) (i64 n18) = some FF) {T : Tm} (hT : f10L3 T (.ptr d 0) (.ptr e 0) lv (i64 n18) (i64 n19)) : AW Try.prog (f10P 4) (fun ex T' st' => ex = (.exit 0) ∧ f10L4 T'  ∧ st' = st) T st := by
  obtain ⟨hn, g3, g4, g17, g18, g19⟩ := hT
  exact (gen_run (G := fun T => ([] : List AV)) F.E1_ok (f10_4_F_e d e lv n18 n19 st) (Ob.ok_cons.2 ⟨h1, Ob.ok_nil⟩) hn (conz g3 (conz g4 (conz g17 (conz g18 (one g19)))))).mono fun ex T' st' ⟨q1, q2, q3, q4⟩ => by exact ⟨q1, q2, q4⟩
theorem f10_5_e (st : St) : ((evS Try.prog F.E1 noOv noS 100000 [] (f10P 5) ⟨111, [], []⟩ st []).map fun q => (q.1, q.2.1.n, ([q.2.1.get 2] : List AV), q.2.2.1, q.2.2.2.2)) = some (.ret, 111, [TT], st, []) := by kernel_rfl
theorem f10_5 {st : St}  {T : Tm} (hT : f10L4 T ) : AW Try.prog (f10P 5) (fun ex T' st' => ex = .ret ∧ f10L1 T' TT ∧ st' = st) T st := by
  have hn : T.n = 111 := hT
  exact (gen_run (G := fun T => ([T.get 2] : List AV)) F.E1_ok (f10_5_e st) Ob.ok_nil hn (fun q hq => by cases hq)).mono fun ex T' st' ⟨q1, q2, q3, q4⟩ => by simp only [List.cons.injEq, and_true] at q3; exact ⟨q1, ⟨q2, q3⟩, q4⟩
end
section
set_option maxRecDepth 4000
/-- a thing that is done -/
structure Cc where
  what : Int
  n : Int
  s : Int
  t : Int
  r : Nat → Int
  g : Nat → Int
  bv : AV
  bs : List Int
  pv : AV
  ps : List Int
structure CcOk (A : Cc) : Prop where
  n : A.n ≤ 9223372036854775807
  h : HR A.s A.t A.r A.g
  b : BV A.bv A.bs
  bl : A.bs.length ≤ 1048576
  by_ : F.bytesP A.bs
  p : BP A.pv A.ps
  ps : PicksOk A.ps
def Cc.hd (A : Cc) : List AV := F.headCells A.s A.t A.r A.g
def Cc.cells (A : Cc) : List AV := i64 A.what :: i64 A.n :: (A.hd ++ [A.bv, A.pv])
def Cc.row (A : Cc) : AObj := .row A.cells 83
theorem Cc.len (A : Cc) : A.cells.length = 102 := by simp [Cc.cells, Cc.hd, head_len]
theorem Cc.at (A : Cc) : A.cells[0]? = some (i64 A.what) ∧ A.cells[1]? = some (i64 A.n) ∧ A.cells[100]? = some A.bv ∧ A.cells[101]? = some A.pv ∧ (A.cells.drop 2).take 98 = A.hd := by
  have hl := head_len A.s A.t A.r A.g
  refine ⟨rfl, rfl, ?_, ?_, ?_⟩
  · show (A.hd ++ [A.bv, A.pv])[98]? = _
    rw [List.getElem?_append_right (by rw [Cc.hd, hl]; omega), Cc.hd, hl]; rfl
  · show (A.hd ++ [A.bv, A.pv])[99]? = _
    rw [List.getElem?_append_right (by rw [Cc.hd, hl]; omega), Cc.hd, hl]; rfl
  · show (A.hd ++ [A.bv, A.pv]).take 98 = _
    rw [List.take_append_of_le_length (by rw [Cc.hd, hl]; omega), List.take_of_length_le (by rw [Cc.hd, hl]; omega)]
theorem frzL_append (id : Nat) (vs a b : List AV) : frzL id vs (a ++ b) = frzL id vs a ++ frzL id vs b := by
  rw [frzL_eq, frzL_eq, frzL_eq, List.map_append]
theorem Cc.calm {A : Cc} (h : CcOk A) (n : Nat) : Calm n A.row := fun id vs _ => by
  show AObj.row (frzL id vs (i64 A.what :: i64 A.n :: (A.hd ++ [A.bv, A.pv]))) 83 = _
  have h1 : frzL id vs A.hd = A.hd := by kernel_rfl
  have e : frzL id vs (i64 A.what :: i64 A.n :: (A.hd ++ [A.bv, A.pv])) = i64 A.what :: i64 A.n :: (A.hd ++ [A.bv, A.pv]) := by
    simp only [frzL, frzL_append, h1, frz_bv h.b, frz_bp h.p]
    rfl
  rw [e]; rfl
theorem cl_ldW {st : St} {a : Nat} {A : Cc} (h : st.get a = some A.row) : loadA E0 st 3 (.ptr a 0) = some (i64 A.what) := load_row h (p3 A.at.1)
theorem cl_ldN {st : St} {a : Nat} {A : Cc} (h : st.get a = some A.row) : loadA E0 st 3 (.ptr a 1) = some (i64 A.n) := load_row h (p3 A.at.2.1)
theorem cl_ldH {st : St} {a : Nat} {A : Cc} (h : st.get a = some A.row) : loadA E0 st 27 (.ptr a 2) = some (.agg A.hd) := load_row h (part27 A.at.2.2.2.2 (by rw [A.len]; omega))
theorem cl_ldB {st : St} {a : Nat} {A : Cc} (h : st.get a = some A.row) : loadA E0 st 28 (.ptr a 100) = some A.bv := load_row h (p28 A.at.2.2.1)
theorem cl_ldP {st : St} {a : Nat} {A : Cc} (h : st.get a = some A.row) : loadA E0 st 67 (.ptr a 101) = some A.pv := by
  obtain ⟨i, h1, h2⟩ := ty67
  exact load_row h (plainT h1 h2 A.at.2.2.2.1)
/-! ### the rows of what is done, as data -/
def CcsV (L : AV) (As : List Cc) : Prop := (As = [] ∧ L = .nils) ∨ ∃ fl, L = .imm 102 As.length fl (As.flatMap Cc.cells)
theorem ty81 : ∃ i, E0.ty 81 = some i ∧ i.desc = .slice 83 := ⟨_, rfl, by kernel_rfl⟩
theorem lenCcs {L : AV} {As : List Cc} (h : CcsV L As) : lenA E0 81 L = some (i64 As.length) := by
  obtain ⟨q, h1, h2⟩ := ty81
  rcases h with ⟨rfl, rfl⟩ | ⟨fl, rfl⟩ <;> simp only [lenA, h1, h2] <;> rfl
theorem drop_flatc : ∀ (As : List Cc) (k : Nat), (As.flatMap Cc.cells).drop (k * 102) = (As.drop k).flatMap Cc.cells
  | [], k => by simp
  | A :: r, 0 => by simp
  | A :: r, k + 1 => by
    have : (k + 1) * 102 = 102 + k * 102 := by omega
    have e : (A.cells ++ r.flatMap Cc.cells).drop 102 = r.flatMap Cc.cells := by
      rw [List.drop_append_of_le_length (by rw [A.len]; omega), List.drop_of_length_le (by rw [A.len]; omega), List.nil_append]
    rw [this, List.flatMap_cons, ← List.drop_drop, List.drop_succ_cons, e]
    exact drop_flatc r k
theorem cc_elem {L : AV} {As : List Cc} (h : CcsV L As) {k : Nat} {A : Cc} (hk : As[k]? = some A) (st : St) : ∃ q, indexAddrA E0 81 L (i64 k) = some q ∧ loadA E0 st 83 q = some (.agg A.cells) := by
  have hlt := (List.getElem?_eq_some_iff.1 hk).1
  rcases h with ⟨rfl, _⟩ | ⟨fl, rfl⟩
  · simp at hlt
  obtain ⟨t, h1, h2⟩ := ty81
  have hs : tySize E0 83 = some 102 := by kernel_rfl
  refine ⟨.iptr ((As.flatMap Cc.cells).drop (k * 102)), ?_, ?_⟩
  · simp only [indexAddrA, h1, h2, hs]
    rw [if_pos ⟨trivial, by omega, by omega, by decide⟩]
    rfl
  · rw [drop_flatc, List.drop_eq_getElem_cons hlt, List.flatMap_cons, (List.getElem?_eq_some_iff.1 hk).2]
    have hp : (E0.ty 83).map (fun i => (isAggD i.desc, i.size)) = some (true, 102) := by kernel_rfl
    obtain ⟨i, h1, h2⟩ := Option.map_eq_some_iff.1 hp
    simp only [Prod.mk.injEq] at h2
    simp only [loadA, partA, h1, h2.1, h2.2, if_true]
    rw [if_pos (by rw [List.length_append, A.len]; omega), List.drop_zero, List.take_append_of_le_length (by rw [A.len]; omega), List.take_of_length_le (by rw [A.len]; omega)]
theorem avc_cc {A : Cc} (h : CcOk A) : avCells (.agg A.cells) = some A.cells := by
  rcases h.b with ⟨_, h1⟩ | ⟨fl, h1⟩ <;> rcases h.p with ⟨_, h2⟩ | ⟨gl, h2⟩ <;> rw [Cc.cells, Cc.hd, h1, h2] <;> kernel_rfl
theorem newCc {st : St} (hw : st.wf) (hl : st.lock = []) {A : Cc} (hA : CcOk A) : ∃ s1 s2, allocA E0 st 83 = some (.ptr st.next 0, s1) ∧ storeA E0 s1 83 (.ptr st.next 0) (.agg A.cells) = some s2 ∧ s2.get st.next = some A.row ∧ Rest st s2 [] := by
  obtain ⟨q, hq, hl3⟩ : ∃ q : List AV, zeroA E0 83 = some q ∧ q.length = 102 := by
    have h : (zeroA E0 83).map List.length = some 102 := by kernel_rfl
    obtain ⟨q, a, b⟩ := Option.map_eq_some_iff.1 h
    exact ⟨q, a, b⟩
  have hsz : tySize E0 83 = some 102 := by kernel_rfl
  have hg : (st.push (.row q 83)).get st.next = some (.row q 83) := by rw [St.get_push, if_pos rfl]
  have hwg := St.wget_of hg (show st.next ∉ (st.push (.row q 83)).lock by show st.next ∉ st.lock; rw [hl]; simp)
  have R := Rest.push hw (.row q 83) []
  refine ⟨st.push (.row q 83), (st.push (.row q 83)).set st.next A.row, by simp only [allocA, hq], ?_, ?_, R.old (Rest.set R.wf (R.wf _ _ hg) _ (S := [st.next]) (by simp)) (by simp) hw⟩
  · simp only [storeA, avc_cc hA, hwg, hsz]
    rw [if_pos ⟨by rw [A.len], by rw [A.len, hl3]; omega⟩]
    have hd : List.drop 102 q = [] := List.drop_of_length_le (by omega)
    simp [A.len, hd, Cc.row]
  · rw [St.get_set, if_pos rfl]
theorem neq27 (s t : Int) (r g : Nat → Int) : binA F.E1 .neq 27 (.agg (F.headCells s t r g)) (.agg (F.headCells s t r g)) = some FF := by
  have h : binA F.E1 .neq 27 (.agg (F.headCells s t r g)) (.agg (F.headCells s t r g)) = some (.val (.bool (!(decide (F.headL s t r g = F.headL s t r g))))) := by kernel_rfl
  rw [h, decide_eq_true rfl]; rfl
end
section
set_option maxRecDepth 4000
theorem PD.keepR {z z' : St} {d m e : Nat} {s : PS} (h : PDs z d m s) (hk : KeepR z z' e) (hg : ∀ f ∈ s.L, DV f) (h1 : d ≠ e) (h2 : m ≠ e) : PDs z' d m s := by
  obtain ⟨bs, c, hm⟩ := h.map
  exact ⟨hk.keep _ _ h1 (fun vs h => by injection h with _ h; exact absurd h (by decide)) h.row (fun id vs _ => rfl), bs, c, hk.keep _ _ h2 (fun vs h => by cases h) hm (calm_map hg _ bs c)⟩
theorem byteP_form {s t : Int} {r g : Nat → Int} (h : HR s t r g) : F.bytesP (putB s t r g) := by
  unfold putB
  split
  · exact bytesP_nil
  · have be : ∀ n c, 0 ≤ F.byteAt n c ∧ F.byteAt n c < 256 := F.byteAt_range
    unfold F.formInts F.headInts
    refine bytesP_app (fun x hx => ?_) (fun x hx => ?_)
    · simp only [List.mem_cons, List.mem_append, F.be8, F.rootL, F.sigL, List.mem_map, List.mem_range, List.not_mem_nil, or_false] at hx
      rcases hx with rfl | rfl | rfl | rfl | ((hx | hx) | ⟨i, hi, rfl⟩) | ⟨i, hi, rfl⟩
      · omega
      · omega
      · omega
      · omega
      · rcases hx with rfl | rfl | rfl | rfl | rfl | rfl | rfl | rfl <;> exact be _ _
      · rcases hx with rfl | rfl | rfl | rfl | rfl | rfl | rfl | rfl <;> exact be _ _
      · exact h.r i hi
      · exact h.g i hi
    · simp only [F.be4, List.mem_cons, List.not_mem_nil, or_false] at hx
      rcases hx with rfl | rfl | rfl | rfl <;> exact be _ _
theorem putB_len (s t : Int) (r g : Nat → Int) : (putB s t r g).length ≤ 120 := by unfold putB; split <;> simp [F.form_len]
variable {e U a : Nat} {σ : PlS} {A : Cc} {L : AV} {len i : Nat}
def CTurn (e : Nat) (L : AV) (len i : Nat) (σ σ' : PlS) : Prop := ∀ T, f10L3 T (.ptr σ.d 0) (.ptr e 0) L (i64 len) (i64 i) →
  AW Try.prog (f10P 4) (fun ex T' st' => ex = .normal ∧ f10L3 T' (.ptr σ'.d 0) (.ptr e 0) L (i64 len) (i64 ((i + 1 : Nat) : Int)) ∧ st' = σ'.st) T σ.st
theorem PlI.sepC (H : PlI e U σ) (hA : σ.st.get a = some A.row) : a ∉ [σ.d, σ.m] ∧ a ∉ e :: fid σ.fv := H.sepA hA (by decide) (by decide) (by decide)
/-- behind a call of the program beside a hidden object -/
theorem shown {st s1 z1 : St} {d m a : Nat} {I : List Nat} {s s' : PS} (hp0 : PDs st d m s) (n1 : a ∉ [d, m]) (a2 : PDs z1 d m s') (b3 : ∀ k, k ≠ a → ((∃ o, st.get k = some o) ∨ st.next ≤ k) → (s1.show st I).get k = z1.get k) : PDs (s1.show st I) d m s' := by
  simp only [List.mem_cons, List.not_mem_nil, or_false, not_or] at n1
  obtain ⟨bs, c, hm⟩ := a2.map
  obtain ⟨bs0, c0, hm0⟩ := hp0.map
  exact ⟨by rw [b3 _ (fun h => n1.1 h.symm) (.inl ⟨_, hp0.row⟩)]; exact a2.row, bs, c, by rw [b3 _ (fun h => n1.2 h.symm) (.inl ⟨_, hm0⟩)]; exact hm⟩
theorem cb_write (H : PlI e U σ) (K : KB σ.r.F) (hU : U < 900000000) (hA : σ.st.get a = some A.row) (ho : CcOk A) :
    ∃ σ' er s1, σ'.d = σ.d ∧ PlI e (U + 1049000) σ' ∧ KB σ'.r.F ∧ σ'.st.get a = some A.row ∧ obC 18 [.ptr σ.d 0, .agg A.hd] (σ.st.hide [a, a]) (i64 er) s1 ∧ obC 48 [.ptr e 0, .agg A.hd] (s1.show σ.st [a, a]) (i64 er) σ'.st := by
  have hu := H.used
  obtain ⟨n1, n2⟩ := H.sepC hA
  obtain ⟨z1, er, s', c1, p1, R1, W1⟩ := write_ok H.sim (by omega) (del_PD H.p n1) (del_wf H.wf a) H.lock ho.h
  obtain ⟨s1, b1, b2, b3, b4⟩ := hid_ok H.wf H.lock H.gl (I := [a, a]) dup hA (Cc.calm ho _) c1 R1 n1
  obtain ⟨h1, h2⟩ := H.sep
  have hq := H.q.restF H.wf H.sim.rgood b2 h1 h2
  obtain ⟨z2, er', r', fv', d1, d2, d3, W2⟩ := rwrite_ok H.sim (by omega) hq b2.wf (b2.lock.trans H.lock) ho.h
  obtain ⟨rfl, S', K', U'⟩ := sim_write H.sim K (byteP_form ho.h) W1 W2
  have hp := shown H.p n1 p1 b3
  have hde : σ.d ≠ e := fun h => h1 (by simp [h])
  have hme : σ.m ≠ e := fun h => h1 (by simp [h])
  have hae : a ≠ e := fun h => n2 (by simp [h])
  have hl := putB_len A.s A.t A.r A.g
  exact ⟨⟨z2, σ.d, σ.m, fv', s', r'⟩, er, s1, rfl, ⟨d3.wf, (d3.lock.trans b2.lock).trans H.lock, (d3.gl.trans b2.gl).trans H.gl, PD.keepR hp d3 (fun f hf => (S'.good f hf).1) hde hme, d2, S', by show usedR r'.F ≤ _; omega⟩, K', d3.keep _ _ hae (fun vs h => by simp only [Cc.row] at h; injection h with _ h; exact absurd h (by decide)) b4 (Cc.calm ho _), b1, d1⟩
theorem cb_append (H : PlI e U σ) (K : KB σ.r.F) (hU : U < 900000000) (hA : σ.st.get a = some A.row) (ho : CcOk A) :
    ∃ σ' er s1, σ'.d = σ.d ∧ PlI e (U + 1049000) σ' ∧ KB σ'.r.F ∧ σ'.st.get a = some A.row ∧ obC 19 [.ptr σ.d 0, str nHead, A.bv] (σ.st.hide [a, a]) (i64 er) s1 ∧ obC 38 [.ptr e 0, str nHead, A.bv] (s1.show σ.st [a, a]) (i64 er) σ'.st := by
  have hu := H.used
  have hbl := ho.bl
  have hlen := H.sim.len
  obtain ⟨n1, n2⟩ := H.sepC hA
  have hx : ArgB (σ.st.del a) A.bv A.bs := by
    rcases ho.b with h | h
    · exact .inl h
    · exact .inr (.inl h)
  obtain ⟨z1, s', c1, p1, R1, W1⟩ := append_ok (del_PD H.p n1) (del_wf H.wf a) H.lock H.sim.g (by rw [H.sim.used]; omega) H.sim.qb nHead hx (by omega)
  obtain ⟨s1, b1, b2, b3, b4⟩ := hid_ok H.wf H.lock H.gl (I := [a, a]) dup hA (Cc.calm ho _) c1 R1 n1
  obtain ⟨h1, h2⟩ := H.sep
  obtain ⟨h3, h4⟩ := H.sepR
  have hq := H.q.restF H.wf H.sim.rgood b2 h1 h2
  obtain ⟨z2, r', d1, d2, d3, W2⟩ := rappend_ok hq b2.wf (b2.lock.trans H.lock) H.sim.rgood (by omega) (by omega) (by rw [← H.sim.fu]; exact H.sim.fub) nHead_size ho.b (by omega)
  obtain ⟨q1, S', U'⟩ := sim_append H.sim nHead A.bs W1 W2
  rw [← q1] at d1
  have hp := shown H.p n1 p1 b3
  exact ⟨⟨z2, σ.d, σ.m, σ.fv, s', r'⟩, _, s1, rfl, ⟨d3.wf, (d3.lock.trans b2.lock).trans H.lock, (d3.gl.trans b2.gl).trans H.gl, PD.restF hp (fun f hf => (S'.good f hf).1) d3 h3 h4, d2, S', by show usedR r'.F ≤ _; omega⟩, KB.append K ho.by_ W2, d3.keep _ _ n2 b4 (Cc.calm ho _), b1, d1⟩
/-- calls, one behind the other, of both disks -/
theorem cb_two {s' : PS} {r' : RS} {fp fr : Nat} {ap ar : List AV} {vp vr : AV} (H : PlI e U σ) (hA : σ.st.get a = some A.row) (ho : CcOk A)
    (hP : ∃ z, obC fp ap σ.st vp z ∧ PDs z σ.d σ.m s' ∧ Rest σ.st z [σ.d, σ.m]) (hR : ∀ z, RD z e σ.fv σ.r → z.wf → z.lock = [] → ∃ z' fv', obC fr ar z vr z' ∧ RD z' e fv' r' ∧ RestF z z' (e :: fid σ.fv)) (hS : Sim s' r') {U' : Nat} (hu : usedR r'.F ≤ U') :
    ∃ σ' s1, σ'.d = σ.d ∧ σ'.r = r' ∧ PlI e U' σ' ∧ σ'.st.get a = some A.row ∧ s1.get a = some A.row ∧ obC fp ap σ.st vp s1 ∧ obC fr ar s1 vr σ'.st := by
  obtain ⟨z1, c1, p1, R1⟩ := hP
  obtain ⟨n1, n2⟩ := H.sepC hA
  obtain ⟨h1, h2⟩ := H.sep
  obtain ⟨h3, h4⟩ := H.sepR
  obtain ⟨z2, fv', d1, d2, d3⟩ := hR z1 (H.q.rest R1 h1 h2) R1.wf (R1.lock.trans H.lock)
  have hA1 : z1.get a = some A.row := R1.keep _ _ n1 hA
  exact ⟨⟨z2, σ.d, σ.m, fv', s', r'⟩, z1, rfl, rfl, ⟨d3.wf, (d3.lock.trans R1.lock).trans H.lock, (d3.gl.trans R1.gl).trans H.gl, PD.restF p1 (fun f hf => (hS.good f hf).1) d3 h3 h4, d2, hS, hu⟩, d3.keep _ _ n2 hA1 (Cc.calm ho _), hA1, c1, d1⟩
end
section
set_option maxRecDepth 4000
variable {e U a : Nat} {σ : PlS} {L : AV} {i : Nat}
theorem cturn_ok {As : List Cc} (hL : CcsV L As) (hAs : ∀ A ∈ As, CcOk A) (hi : i < As.length) (hi2 : i < 60) (H : PlI e (i * 1049000) σ) (K : KB σ.r.F) : ∃ σ', PlI e ((i + 1) * 1049000) σ' ∧ KB σ'.r.F ∧ CTurn e L As.length i σ σ' := by
  have hA := List.getElem?_eq_getElem hi
  generalize As[i] = A at hA
  have ho := hAs A (List.mem_of_getElem? hA)
  obtain ⟨q, a1, a2⟩ := cc_elem hL hA σ.st
  obtain ⟨t1, t2, b1, b2, b3, R2⟩ := newCc H.wf H.lock ho
  have H2 := H.push R2.f
  have hb3 : ({ σ with st := t2 } : PlS).st.get σ.st.next = some A.row := b3
  have hlt : binA E0 .lss 3 (i64 i) (i64 As.length) = some TT := lssT (by omega)
  have h60 : binA E0 .eql 3 (i64 i) (i64 60) = some FF := eqlF (by omega)
  have hadd : binA E0 .add 3 (i64 i) (i64 1) = some (i64 ((i + 1 : Nat) : Int)) := add64 (by omega)
  have hw := cl_ldW b3
  have hlen := H.sim.len
  have hfu : 0 ≤ σ.r.fu ∧ σ.r.fu ≤ 9223372036854775807 := by rw [← H.sim.fu]; exact H.sim.fub
  -- behind the call: both are held against each other
  have fin : ∀ {σ3 : PlS} {U' : Nat}, PlI e U' σ3 → KB σ3.r.F → U' ≤ (i + 1) * 1049000 → ∃ s4, obC 47 [.ptr σ3.d 0, .ptr e 0, A.pv] σ3.st TT s4 ∧ PlI e ((i + 1) * 1049000) { σ3 with st := s4 } := fun {σ3 U'} H3 _ hU => by
    obtain ⟨s4, c1, R4⟩ := alike_ok H3.sim H3.p H3.q H3.wf H3.lock (by have := H3.used; omega) ho.p ho.ps
    exact ⟨s4, c1, (H3.push R4).mono hU⟩
  by_cases w0 : A.what = 0
  · obtain ⟨σ3, er, s1, d1, H3, K3, hA3, c1, c2⟩ := cb_write H2 K (by omega) hb3 ho
    obtain ⟨s4, k4, H4⟩ := fin H3 K3 (by omega)
    refine ⟨{ σ3 with st := s4 }, H4, K3, fun T hT => ?_⟩
    have hd : σ3.d = σ.d := d1
    rw [hd] at k4 ⊢
    exact f10_4_TFTFT hlt a1 a2 b1 b2 h60 hw (eqlT w0) (one_mem (k := 0) R2.wf b3 dup) (cl_ldH b3) (cl_ldH b3) (one_all b3 dup) c1 c2 (neqF rfl) (cl_ldP hA3) k4 hadd hT
  have n0 : binA E0 .eql 3 (i64 A.what) (i64 0) = some FF := eqlF w0
  by_cases w1 : A.what = 1
  · obtain ⟨er, sz, tt, rt, gg, hH, kP, kR⟩ := cread_ok H2.sim K (by have := H2.used; omega)
    -- two cells of a head
    obtain ⟨R3, g3⟩ := cell27 (st := t2) R2.wf
    have H3 := H2.push R3.f
    have l3 : (t2.push (.row zH 27)).lock = [] := H3.lock
    obtain ⟨R4, g4⟩ := cell27 (st := t2.push (.row zH 27)) R3.wf
    have H4 := H3.push R4.f
    have n3 := new27 t2
    have n4 := new27 (t2.push (.row zH 27))
    have g3' := R4.keep _ _ (by simp) g3
    have hne : t2.next ≠ (t2.push (.row zH 27)).next := by have := R3.wf _ _ g3; omega
    have R24 := R3.trans R4
    generalize hz4 : (t2.push (.row zH 27)).push (.row zH 27) = z4 at *
    have hb9 : t2.next ≤ (t2.push (.row zH 27)).next := R3.next
    generalize (t2.push (.row zH 27)).next = b9 at *
    obtain ⟨z5, c1, R5⟩ := kP H4.p H4.wf H4.lock
    have g5 := R5.keep _ _ (by simp) g3' (calm27 _ _ _ _ _ _)
    have g5b := R5.keep _ _ (by simp) g4 (calm27 _ _ _ _ _ _)
    have l5 : z5.lock = [] := R5.lock.trans H4.lock
    obtain ⟨z6, e6, g6, R6, l6⟩ := set27 (st := t2) (s := sz) (t := tt) (r := rt) (g := gg) g5 (R24.f.trans R5) (Nat.le_refl _) l5 R2.wf
    have H6 := H2.push R6
    have g6b : z6.get b9 = some (.row zH 27) := by
      have := st27 g5 l5 sz tt rt gg
      rw [this] at e6
      simp only [Option.some.injEq] at e6
      rw [← e6, St.get_set, if_neg (fun h => hne h.symm)]; exact g5b
    obtain ⟨z7, c2, R7⟩ := kR H6.q H6.wf H6.lock
    have g7 := R7.keep _ _ (by simp) g6 (calm27 _ _ _ _ _ _)
    have g7b := R7.keep _ _ (by simp) g6b (calm27 _ _ _ _ _ _)
    obtain ⟨z8, e8, g8, R8, l8⟩ := set27 (st := t2) (s := sz) (t := tt) (r := rt) (g := gg) g7b (R6.trans R7) hb9 (R7.lock.trans l6) R2.wf
    have g8a : z8.get t2.next = some (.row (F.headCells sz tt rt gg) 27) := by
      have := st27 g7b (R7.lock.trans l6) sz tt rt gg
      rw [this] at e8
      simp only [Option.some.injEq] at e8
      rw [← e8, St.get_set, if_neg hne]; exact g7
    have H8 := H2.push R8
    have hA8 : z8.get σ.st.next = some A.row := R8.keep _ _ (by simp) b3 (Cc.calm ho _)
    obtain ⟨s4, k4, H9⟩ := fin (σ3 := { σ with st := z8 }) H8 K (by omega)
    exact ⟨{ σ with st := s4 }, H9, K, fun T hT => f10_4_TFFTFFT hlt a1 a2 b1 b2 h60 hw n0 (eqlT w1) n3 n4 c1 e6 c2 e8 (ld27 g8a) (ld27 g8) (neq27 _ _ _ _) (neqF rfl) (cl_ldP hA8) k4 hadd hT⟩
  have n1 : binA E0 .eql 3 (i64 A.what) (i64 1) = some FF := eqlF w1
  by_cases w2 : A.what = 2
  · have hbig : (1000000000 : Nat) ≤ big := by decide
    have hu := H.used
    have hMn : (ks σ.r.F).map (·.1) = σ.r.F.map RF.name := by simp only [ks, List.map_map]; rfl
    have hMl : (ks σ.r.F).length = σ.r.F.length := by simp [ks]
    have hxA : ArgP t2 A.pv A.ps := by
      rcases ho.p with h | h
      · exact .inl h
      · exact .inr (.inl h)
    obtain ⟨s3, L', k3, p3, _, g3, m3, u3, R3⟩ := crash_ok H2.p H2.wf H2.lock (sim_good H.sim (by omega)) (M := ks σ.r.F) H.sim.perm (by rw [hMn]; exact H.sim.ord) (by omega) (fun k hk => by obtain ⟨f, hf, rfl⟩ := List.mem_map.1 hk; exact H.sim.may f hf) hxA ho.ps
    obtain ⟨h1, h2⟩ := H2.sep
    obtain ⟨m1, m2⟩ := H2.sepC hb3
    obtain ⟨h3, h4⟩ := H2.sepR
    have q3 := H2.q.rest R3 h1 h2
    have hA3 : s3.get σ.st.next = some A.row := R3.keep _ _ m1 b3
    obtain ⟨s4, F', k4, q4, m4, g4, u4, R4⟩ := rcrash_ok q3 R3.wf (R3.lock.trans H2.lock) H.sim.rgood (by show σ.r.F.length ≤ _; omega) (by show usedR σ.r.F ≤ _; omega) ho.p ho.ps
    have hS := sim_crash H.sim m3 m4 (fun f hf => ⟨(g3 f hf).1, (g3 f hf).2.1⟩) g4
    have H5 : PlI e (i * 1049000) ⟨s4, σ.d, σ.m, σ.fv, _, _⟩ := ⟨R4.wf, (R4.lock.trans R3.lock).trans H2.lock, (R4.gl.trans R3.gl).trans H2.gl, PD.restF p3 (fun f hf => (g3 f hf).1) R4 h3 h4, q4, hS, Nat.le_trans u4 hu⟩
    have K5 : KB F' := KB.keys K m4
    have hA4 : s4.get σ.st.next = some A.row := R4.keep _ _ m2 hA3 (Cc.calm ho _)
    obtain ⟨s6, k6, H6⟩ := fin H5 K5 (by omega)
    exact ⟨_, H6, K5, fun T hT => f10_4_TFFFTFT hlt a1 a2 b1 b2 h60 hw n0 n1 (eqlT w2) (cl_ldP b3) k3 (cl_ldP hA3) k4 (neqF rfl) (cl_ldP hA4) k6 hadd hT⟩
  have n2 : binA E0 .eql 3 (i64 A.what) (i64 2) = some FF := eqlF w2
  by_cases w3 : A.what = 3
  · obtain ⟨σ3, s1, d1, e1, H3, hA3, hA1, c1, c2⟩ := cb_two (fp := 22) (fr := 45) (ap := [.ptr σ.d 0, i64 A.n]) (ar := [.ptr e 0, i64 A.n]) (vp := .tup []) (vr := .tup []) (s' := { σ.s with fu := nn A.n }) (r' := { σ.r with fu := nn A.n }) H2 hb3 ho
      (fuse_ok H2.p H2.wf H2.lock A.n) (fun z hz w l => by obtain ⟨z', x1, x2, x3⟩ := rfuse_ok hz w l A.n; exact ⟨z', _, x1, x2, x3.f.weak (by simp)⟩) { H.sim with fu := rfl, fub := nn_ok ho.n } (U' := i * 1049000) H.used
    have K3 : KB σ3.r.F := by rw [e1]; exact K
    obtain ⟨s4, k4, H4⟩ := fin H3 K3 (by omega)
    refine ⟨{ σ3 with st := s4 }, H4, K3, fun T hT => ?_⟩
    have hd : σ3.d = σ.d := d1
    rw [hd] at k4 ⊢
    exact f10_4_TFFFFTFT hlt a1 a2 b1 b2 h60 hw n0 n1 n2 (eqlT w3) (cl_ldN b3) c1 (cl_ldN hA1) c2 (neqF rfl) (cl_ldP hA3) k4 hadd hT
  have n3 : binA E0 .eql 3 (i64 A.what) (i64 3) = some FF := eqlF w3
  by_cases w4 : A.what = 4
  · obtain ⟨σ3, s1, d1, e1, H3, hA3, hA1, c1, c2⟩ := cb_two (fp := 32) (fr := 44) (ap := [.ptr σ.d 0, i64 A.n]) (ar := [.ptr e 0, i64 A.n]) (vp := .tup []) (vr := .tup []) (s' := { σ.s with q := nn A.n }) (r' := { σ.r with q := nn A.n }) H2 hb3 ho
      (quota_ok H2.p H2.wf H2.lock A.n) (fun z hz w l => by obtain ⟨z', x1, x2, x3⟩ := rquota_ok hz w l A.n; exact ⟨z', _, x1, x2, x3.f.weak (by simp)⟩) { H.sim with q := rfl, qb := nn_ok ho.n } (U' := i * 1049000) H.used
    have K3 : KB σ3.r.F := by rw [e1]; exact K
    obtain ⟨s4, k4, H4⟩ := fin H3 K3 (by omega)
    refine ⟨{ σ3 with st := s4 }, H4, K3, fun T hT => ?_⟩
    have hd : σ3.d = σ.d := d1
    rw [hd] at k4 ⊢
    exact f10_4_TFFFFFTFT hlt a1 a2 b1 b2 h60 hw n0 n1 n2 n3 (eqlT w4) (cl_ldN b3) c1 (cl_ldN hA1) c2 (neqF rfl) (cl_ldP hA3) k4 hadd hT
  have n4 : binA E0 .eql 3 (i64 A.what) (i64 4) = some FF := eqlF w4
  by_cases w5 : A.what = 5
  · obtain ⟨σ3, er, s1, d1, H3, K3, hA3, c1, c2⟩ := cb_append H2 K (by omega) hb3 ho
    obtain ⟨s4, k4, H4⟩ := fin H3 K3 (by omega)
    refine ⟨{ σ3 with st := s4 }, H4, K3, fun T hT => ?_⟩
    have hd : σ3.d = σ.d := d1
    rw [hd] at k4 ⊢
    exact f10_4_TFFFFFFTFT hlt a1 a2 b1 b2 h60 hw n0 n1 n2 n3 n4 (eqlT w5) (one_mem (k := 0) R2.wf b3 dup) (cl_ldB b3) (cl_ldB b3) (one_all b3 dup) c1 c2 (neqF rfl) (cl_ldP hA3) k4 hadd hT
  have n5 : binA E0 .eql 3 (i64 A.what) (i64 5) = some FF := eqlF w5
  by_cases w6 : A.what = 6
  · obtain ⟨q1, q2⟩ := sim_remove H.sim nHead
    obtain ⟨σ3, s1, d1, e1, H3, hA3, hA1, c1, c2⟩ := cb_two (fp := 34) (fr := 41) (ap := [.ptr σ.d 0, str nHead]) (ar := [.ptr e 0, str nHead]) (vp := i64 (pRemove σ.s nHead).1) (vr := i64 (pRemove σ.s nHead).1) (s' := (pRemove σ.s nHead).2) (r' := (rRemove σ.r nHead).2) H2 hb3 ho
      (remove_ok H2.p H2.wf H2.lock H.sim.g nHead) (fun z hz w l => by obtain ⟨z', fv', x1, x2, x3⟩ := rremove_ok hz w l (by show σ.r.F.length ≤ _; omega) hfu nHead_size; rw [← q1] at x1; exact ⟨z', fv', x1, x2, x3.f⟩) q2 (U' := i * 1049000) (Nat.le_trans (used_rRemove H.sim _) H.used)
    have K3 : KB σ3.r.F := by rw [e1]; exact KB.remove K _
    obtain ⟨s4, k4, H4⟩ := fin H3 K3 (by omega)
    refine ⟨{ σ3 with st := s4 }, H4, K3, fun T hT => ?_⟩
    have hd : σ3.d = σ.d := d1
    rw [hd] at k4 ⊢
    exact f10_4_TFFFFFFFTFT hlt a1 a2 b1 b2 h60 hw n0 n1 n2 n3 n4 n5 (eqlT w6) c1 c2 (neqF rfl) (cl_ldP hA3) k4 hadd hT
  have n6 : binA E0 .eql 3 (i64 A.what) (i64 6) = some FF := eqlF w6
  obtain ⟨s4, k4, H4⟩ := fin H2 K (by omega)
  exact ⟨{ σ with st := s4 }, H4, K, fun T hT => f10_4_TFFFFFFFFFT hlt a1 a2 b1 b2 h60 hw n0 n1 n2 n3 n4 n5 n6 (neqF rfl) (cl_ldP b3) k4 hadd hT⟩
end
section
set_option maxRecDepth 4000
theorem cplays_all {L : AV} {As : List Cc} (hL : CcsV L As) (hAs : ∀ A ∈ As, CcOk A) : ACalls Try.prog 10 [L] (fun r st' => r = TT) st00 := by
  obtain ⟨s1, k1, p1, R1⟩ := (new_ok st00_wf 1048576).2 (by omega)
  obtain ⟨s2, k2, q2, R2⟩ := (rnew_ok R1.wf 1048576).2 (by omega)
  have init : PlI s1.next (0 * 1049000) ⟨s2, st00.next + 1, st00.next, .nils, ⟨[], 1048576, 0, false⟩, ⟨[], 1048576, 0, false⟩⟩ :=
    ⟨R2.wf, R2.lock.trans (R1.lock.trans rfl), R2.gl.trans (R1.gl.trans rfl), PD.rest p1 R2, q2, { perm := .refl _, ord := .nil, may := fun f h => (by cases h), q := rfl, fu := rfl, off := rfl, good := fun f h => (by cases h), rgood := fun f h => (by cases h), fub := ⟨Int.le_refl 0, by show (0 : Int) ≤ _; omega⟩, qb := ⟨by show (0 : Int) ≤ 1048576; omega, by show (1048576 : Int) ≤ _; omega⟩, len := Nat.zero_le _ }, Nat.le_refl _⟩
  refine ACalls.body (E := E0) hE Try.func10 f10body ?_
  refine .andThen (f10_0 (lv := L) ⟨rfl, rfl⟩) fun T1 h1 => ?_
  refine .andThen (f10_1_T (F.closed_calls F.awake_ev st00) h1) fun T2 h2 => ?_
  refine .andThen (f10_2 (f17_FF k1 k2 (neqF rfl) (neqF rfl)) h2) fun T3 h3 => ?_
  obtain ⟨c, c0, inv, step⟩ := chain_seq (fun i σ => PlI s1.next (i * 1049000) σ ∧ KB σ.r.F) (CTurn s1.next L As.length) (min As.length 60) _ ⟨init, fun g hg => by cases hg⟩ (fun i σ hi H => by
    obtain ⟨σ', x1, x2, x3⟩ := cturn_ok hL hAs (show i < As.length by omega) (show i < 60 by omega) H.1 H.2
    exact ⟨σ', ⟨x1, x2⟩, x3⟩)
  have Hn := (inv (min As.length 60) (Nat.le_refl _)).1
  obtain ⟨sf, fin⟩ : ∃ sf, ∀ T, f10L3 T (.ptr (c (min As.length 60)).d 0) (.ptr s1.next 0) L (i64 As.length) (i64 (min As.length 60 : Nat)) → AW Try.prog (f10P 4) (fun ex T' st' => ex = .exit 0 ∧ f10L4 T' ∧ st' = sf) T (c (min As.length 60)).st := by
    by_cases hle : As.length ≤ 60
    · have he : min As.length 60 = As.length := by omega
      rw [he]
      exact ⟨(c As.length).st, fun T hT => f10_4_F (lssF (by omega)) hT⟩
    · have he : min As.length 60 = 60 := by omega
      rw [he] at Hn ⊢
      have hi : 60 < As.length := by omega
      have hA := List.getElem?_eq_getElem hi
      generalize As[60] = A at hA
      have hok := hAs A (List.mem_of_getElem? hA)
      obtain ⟨q, a1, a2⟩ := cc_elem hL hA (c 60).st
      obtain ⟨t1, t2, b1, b2, b3, R⟩ := newCc Hn.wf Hn.lock hok
      exact ⟨t2, fun T hT => f10_4_TT (lssT (by omega)) a1 a2 b1 b2 (eqlT rfl) hT⟩
  refine .andThen (L := fun T => f10L4 T) (s := sf) (.andThen (f10_3 (lenCcs hL) h3) fun T4 h4 => ?_) fun T5 h5 => ?_
  · exact AW.turns (In := fun i T => f10L3 T (.ptr (c i).d 0) (.ptr s1.next 0) L (i64 As.length) (i64 i)) (c := fun i => (c i).st) (n := min As.length 60) (by rw [c0]) (by rw [c0]; exact h4) (fun i hi T hT => step i hi T hT) fin
  · refine .atRet (f10_5 h5) fun T9 h9 => ⟨[TT], ?_, rfl⟩
    show some [T9.get 2] = _
    rw [h9.2]
end
end Go.Proofs.Ytniaiciabfdbnaa.E
