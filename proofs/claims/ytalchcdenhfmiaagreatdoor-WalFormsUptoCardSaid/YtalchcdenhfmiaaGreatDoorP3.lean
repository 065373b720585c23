/- Part 3 of the proof, over the abstract machine: contracts of the functions that the statement reaches, joined out of several texts. Condition: none beyond those that the lemmas name. -/
import Derived.Test.YtalchcdenhfmiaaGreatDoorP2
import Derived.Shelf.Strconv.Itoa3
import Derived.Ground.NamesProg
import Derived.Lib.ItoaLen
namespace Go.Proofs.YtalchcdenhfmiaaGreatDoor.E
open Go Go.Proofs
section
set_option maxRecDepth 100000
noncomputable def f9P (i : Nat) : Code := match Tryz.f9.body with
  | some (.seq x0 (.scope (.seq x1 (.seq x2 (.seq x3 (.seq (.block 0 (.loop x4)) x5)))))) => [x0, x1, x2, x3, x4, x5].getD i .skip
  | _ => .skip
theorem f9body : Tryz.f9.body = some (.seq (f9P 0) (.scope (.seq (f9P 1) (.seq (f9P 2) (.seq (f9P 3) (.seq (.block 0 (.loop (f9P 4))) (f9P 5))))))) := by kernel_rfl
def f9L0 (T : Tm) (a0 : AV) : Prop := T.n = 54 ∧ T.get 0 = a0
theorem f9_0_e (b : AV) (st : St) : ((evS Tryz.prog E0 noOv noS 100000 [] (f9P 0) ⟨54, [(0, b)], []⟩ st []).map fun q => (q.1, q.2.1.n, ([q.2.1.get 0] : List AV), q.2.2.1, q.2.2.2.2)) = some (.normal, 54, [b], st, []) := by kernel_rfl
theorem f9_0 {b : AV} {st : St}  {T : Tm} (hT : f9L0 T b) : AW Tryz.prog (f9P 0) (fun ex T' st' => ex = .normal ∧ f9L0 T' b ∧ st' = st) T st := by
  obtain ⟨hn, g0⟩ := hT
  exact (gen_run (G := fun T => ([T.get 0] : List AV)) hE (f9_0_e b st) Ob.ok_nil hn (one g0)).mono fun ex T' st' ⟨q1, q2, q3, q4⟩ => by simp only [List.cons.injEq, and_true] at q3; exact ⟨q1, ⟨q2, q3⟩, q4⟩
def f9L1 (T : Tm) (a0 a3 : AV) : Prop := T.n = 54 ∧ T.get 0 = a0 ∧ T.get 3 = a3
theorem f9_1_e (b : AV) (st : St) : ((evS Tryz.prog E0 noOv noS 100000 [] (f9P 1) ⟨54, [(0, b)], []⟩ st []).map fun q => (q.1, q.2.1.n, ([q.2.1.get 0, q.2.1.get 3] : List AV), q.2.2.1, q.2.2.2.2)) = some (.normal, 54, [b, .nils], st, []) := by kernel_rfl
theorem f9_1 {b : AV} {st : St}  {T : Tm} (hT : f9L0 T b) : AW Tryz.prog (f9P 1) (fun ex T' st' => ex = .normal ∧ f9L1 T' b .nils ∧ st' = st) T st := by
  obtain ⟨hn, g0⟩ := hT
  exact (gen_run (G := fun T => ([T.get 0, T.get 3] : List AV)) hE (f9_1_e b st) Ob.ok_nil hn (one g0)).mono fun ex T' st' ⟨q1, q2, q3, q4⟩ => by simp only [List.cons.injEq, and_true] at q3; exact ⟨q1, ⟨q2, q3⟩, q4⟩
def f9L2 (T : Tm) (a3 a4 : AV) : Prop := T.n = 54 ∧ T.get 3 = a3 ∧ T.get 4 = a4
theorem f9_2_e (b v3 : AV) (st s1 : St) (p10 : Nat) : ((evS Tryz.prog E0 noOv noS 100000 [6044] (f9P 2) ⟨54, [(0, b), (3, v3)], []⟩ st [.eff (.ptr p10 0) (fun _ => s1)]).map fun q => (q.1, q.2.1.n, ([q.2.1.get 3, q.2.1.get 4] : List AV), q.2.2.1, q.2.2.2.2)) = some (.normal, 54, [v3, (.ptr p10 0)], s1, [obC 44 [b] st (.ptr p10 0) s1]) := by kernel_rfl
theorem f9_2 {b v3 : AV} {st s1 : St} {p10 : Nat} (h1 : obC 44 [b] st (.ptr p10 0) s1) {T : Tm} (hT : f9L1 T b v3) : AW Tryz.prog (f9P 2) (fun ex T' st' => ex = .normal ∧ f9L2 T' v3 (.ptr p10 0) ∧ st' = s1) T st := by
  obtain ⟨hn, g0, g3⟩ := hT
  exact (gen_run (G := fun T => ([T.get 3, T.get 4] : List AV)) hE (f9_2_e b v3 st s1 p10) (Ob.ok_cons.2 ⟨h1, Ob.ok_nil⟩) hn (conz g0 (one g3))).mono fun ex T' st' ⟨q1, q2, q3, q4⟩ => by simp only [List.cons.injEq, and_true] at q3; exact ⟨q1, ⟨q2, q3⟩, q4⟩
theorem f9_3_e (v3 : AV) (r : Nat) (st : St) : ((evS Tryz.prog E0 noOv noS 100000 [] (f9P 3) ⟨54, [(3, v3), (4, (.ptr r 0))], []⟩ st []).map fun q => (q.1, q.2.1.n, ([q.2.1.get 3, q.2.1.get 4] : List AV), q.2.2.1, q.2.2.2.2)) = some (.normal, 54, [v3, (.ptr r 0)], st, []) := by kernel_rfl
theorem f9_3 {v3 : AV} {r : Nat} {st : St}  {T : Tm} (hT : f9L2 T v3 (.ptr r 0)) : AW Tryz.prog (f9P 3) (fun ex T' st' => ex = .normal ∧ f9L2 T' v3 (.ptr r 0) ∧ st' = st) T st := by
  obtain ⟨hn, g3, g4⟩ := hT
  exact (gen_run (G := fun T => ([T.get 3, T.get 4] : List AV)) hE (f9_3_e v3 r st) Ob.ok_nil hn (conz g3 (one g4))).mono fun ex T' st' ⟨q1, q2, q3, q4⟩ => by simp only [List.cons.injEq, and_true] at q3; exact ⟨q1, ⟨q2, q3⟩, q4⟩
def f9L3 (T : Tm) (a3 : AV) : Prop := T.n = 54 ∧ T.get 3 = a3
theorem f9_4_T_e (v3 : AV) (r : Nat) (st s1 : St) (n13a n13b : Int) : ((evS Tryz.prog E0 noOv noS 100000 [2036, 2045, 2051, 2052, 6041, 6045, 6046, 7017, 7020, 7024, 7032, 7041, 7047] (f9P 4) ⟨54, [(3, v3), (4, (.ptr r 0))], []⟩ st [.eff (.tup [(u64 n13a), (i64 n13b)]) (fun _ => s1), .av TT]).map fun q => (q.1, q.2.1.n, ([q.2.1.get 3] : List AV), q.2.2.1, q.2.2.2.2)) = some ((.exit 0), 54, [v3], s1, [obC 45 [(.ptr r 0), (i64 4)] st (.tup [(u64 n13a), (i64 n13b)]) s1, binA E0 .neq 23 (i64 n13b) (i64 0) = some TT]) := by kernel_rfl
theorem f9_4_T {v3 : AV} {r : Nat} {st s1 : St} {n13a n13b : Int} (h1 : obC 45 [(.ptr r 0), (i64 4)] st (.tup [(u64 n13a), (i64 n13b)]) s1) (h2 : binA E0 .neq 23 (i64 n13b) (i64 0) = some TT) {T : Tm} (hT : f9L2 T v3 (.ptr r 0)) : AW Tryz.prog (f9P 4) (fun ex T' st' => ex = (.exit 0) ∧ f9L3 T' v3 ∧ st' = s1) T st := by
  obtain ⟨hn, g3, g4⟩ := hT
  exact (gen_run (G := fun T => ([T.get 3] : List AV)) hE (f9_4_T_e v3 r st s1 n13a n13b) (Ob.ok_cons.2 ⟨h1, (Ob.ok_cons.2 ⟨h2, Ob.ok_nil⟩)⟩) hn (conz g3 (one g4))).mono fun ex T' st' ⟨q1, q2, q3, q4⟩ => by simp only [List.cons.injEq, and_true] at q3; exact ⟨q1, ⟨q2, q3⟩, q4⟩
theorem f9_4_FT_e (v3 : AV) (r : Nat) (st s1 : St) (n13a n13b : Int) : ((evS Tryz.prog E0 noOv noS 100000 [2036, 2045, 2051, 2052, 6041, 6045, 6046, 7017, 7020, 7024, 7032, 7041, 7047] (f9P 4) ⟨54, [(3, v3), (4, (.ptr r 0))], []⟩ st [.eff (.tup [(u64 n13a), (i64 n13b)]) (fun _ => s1), .av FF, .av TT]).map fun q => (q.1, q.2.1.n, ([q.2.1.get 3] : List AV), q.2.2.1, q.2.2.2.2)) = some ((.exit 0), 54, [v3], s1, [obC 45 [(.ptr r 0), (i64 4)] st (.tup [(u64 n13a), (i64 n13b)]) s1, binA E0 .neq 23 (i64 n13b) (i64 0) = some FF, binA E0 .lss 79 (u64 n13a) (u64 1) = some TT]) := by kernel_rfl
theorem f9_4_FT {v3 : AV} {r : Nat} {st s1 : St} {n13a n13b : Int} (h1 : obC 45 [(.ptr r 0), (i64 4)] st (.tup [(u64 n13a), (i64 n13b)]) s1) (h2 : binA E0 .neq 23 (i64 n13b) (i64 0) = some FF) (h3 : binA E0 .lss 79 (u64 n13a) (u64 1) = some TT) {T : Tm} (hT : f9L2 T v3 (.ptr r 0)) : AW Tryz.prog (f9P 4) (fun ex T' st' => ex = (.exit 0) ∧ f9L3 T' v3 ∧ st' = s1) T st := by
  obtain ⟨hn, g3, g4⟩ := hT
  exact (gen_run (G := fun T => ([T.get 3] : List AV)) hE (f9_4_FT_e v3 r st s1 n13a n13b) (Ob.ok_cons.2 ⟨h1, (Ob.ok_cons.2 ⟨h2, (Ob.ok_cons.2 ⟨h3, Ob.ok_nil⟩)⟩)⟩) hn (conz g3 (one g4))).mono fun ex T' st' ⟨q1, q2, q3, q4⟩ => by simp only [List.cons.injEq, and_true] at q3; exact ⟨q1, ⟨q2, q3⟩, q4⟩
theorem f9_4_FFT_e (v3 : AV) (r : Nat) (st s1 : St) (n13a n13b : Int) : ((evS Tryz.prog E0 noOv noS 100000 [2036, 2045, 2051, 2052, 6041, 6045, 6046, 7017, 7020, 7024, 7032, 7041, 7047] (f9P 4) ⟨54, [(3, v3), (4, (.ptr r 0))], []⟩ st [.eff (.tup [(u64 n13a), (i64 n13b)]) (fun _ => s1), .av FF, .av FF, .av TT]).map fun q => (q.1, q.2.1.n, ([q.2.1.get 3] : List AV), q.2.2.1, q.2.2.2.2)) = some ((.exit 0), 54, [v3], s1, [obC 45 [(.ptr r 0), (i64 4)] st (.tup [(u64 n13a), (i64 n13b)]) s1, binA E0 .neq 23 (i64 n13b) (i64 0) = some FF, binA E0 .lss 79 (u64 n13a) (u64 1) = some FF, binA E0 .gtr 79 (u64 n13a) (u64 4096) = some TT]) := by kernel_rfl
theorem f9_4_FFT {v3 : AV} {r : Nat} {st s1 : St} {n13a n13b : Int} (h1 : obC 45 [(.ptr r 0), (i64 4)] st (.tup [(u64 n13a), (i64 n13b)]) s1) (h2 : binA E0 .neq 23 (i64 n13b) (i64 0) = some FF) (h3 : binA E0 .lss 79 (u64 n13a) (u64 1) = some FF) (h4 : binA E0 .gtr 79 (u64 n13a) (u64 4096) = some TT) {T : Tm} (hT : f9L2 T v3 (.ptr r 0)) : AW Tryz.prog (f9P 4) (fun ex T' st' => ex = (.exit 0) ∧ f9L3 T' v3 ∧ st' = s1) T st := by
  obtain ⟨hn, g3, g4⟩ := hT
  exact (gen_run (G := fun T => ([T.get 3] : List AV)) hE (f9_4_FFT_e v3 r st s1 n13a n13b) (Ob.ok_cons.2 ⟨h1, (Ob.ok_cons.2 ⟨h2, (Ob.ok_cons.2 ⟨h3, (Ob.ok_cons.2 ⟨h4, Ob.ok_nil⟩)⟩)⟩)⟩) hn (conz g3 (one g4))).mono fun ex T' st' ⟨q1, q2, q3, q4⟩ => by simp only [List.cons.injEq, and_true] at q3; exact ⟨q1, ⟨q2, q3⟩, q4⟩
theorem f9_4_FFFT_e (v3 : AV) (r : Nat) (st s1 s2 : St) (n13a n13b n28a n28b : Int) : ((evS Tryz.prog E0 noOv noS 100000 [2036, 2045, 2051, 2052, 6041, 6045, 6046, 7017, 7020, 7024, 7032, 7041, 7047] (f9P 4) ⟨54, [(3, v3), (4, (.ptr r 0))], []⟩ st [.eff (.tup [(u64 n13a), (i64 n13b)]) (fun _ => s1), .av FF, .av FF, .av FF, .eff (.tup [(u64 n28a), (i64 n28b)]) (fun _ => s2), .av TT]).map fun q => (q.1, q.2.1.n, ([q.2.1.get 3] : List AV), q.2.2.1, q.2.2.2.2)) = some ((.exit 0), 54, [v3], s2, [obC 45 [(.ptr r 0), (i64 4)] st (.tup [(u64 n13a), (i64 n13b)]) s1, binA E0 .neq 23 (i64 n13b) (i64 0) = some FF, binA E0 .lss 79 (u64 n13a) (u64 1) = some FF, binA E0 .gtr 79 (u64 n13a) (u64 4096) = some FF, obC 45 [(.ptr r 0), (i64 4)] s1 (.tup [(u64 n28a), (i64 n28b)]) s2, binA E0 .neq 23 (i64 n28b) (i64 0) = some TT]) := by kernel_rfl
theorem f9_4_FFFT {v3 : AV} {r : Nat} {st s1 s2 : St} {n13a n13b n28a n28b : Int} (h1 : obC 45 [(.ptr r 0), (i64 4)] st (.tup [(u64 n13a), (i64 n13b)]) s1) (h2 : binA E0 .neq 23 (i64 n13b) (i64 0) = some FF) (h3 : binA E0 .lss 79 (u64 n13a) (u64 1) = some FF) (h4 : binA E0 .gtr 79 (u64 n13a) (u64 4096) = some FF) (h5 : obC 45 [(.ptr r 0), (i64 4)] s1 (.tup [(u64 n28a), (i64 n28b)]) s2) (h6 : binA E0 .neq 23 (i64 n28b) (i64 0) = some TT) {T : Tm} (hT : f9L2 T v3 (.ptr r 0)) : AW Tryz.prog (f9P 4) (fun ex T' st' => ex = (.exit 0) ∧ f9L3 T' v3 ∧ st' = s2) T st := by
  obtain ⟨hn, g3, g4⟩ := hT
  exact (gen_run (G := fun T => ([T.get 3] : List AV)) hE (f9_4_FFFT_e v3 r st s1 s2 n13a n13b n28a n28b) (Ob.ok_cons.2 ⟨h1, (Ob.ok_cons.2 ⟨h2, (Ob.ok_cons.2 ⟨h3, (Ob.ok_cons.2 ⟨h4, (Ob.ok_cons.2 ⟨h5, (Ob.ok_cons.2 ⟨h6, Ob.ok_nil⟩)⟩)⟩)⟩)⟩)⟩) hn (conz g3 (one g4))).mono fun ex T' st' ⟨q1, q2, q3, q4⟩ => by simp only [List.cons.injEq, and_true] at q3; exact ⟨q1, ⟨q2, q3⟩, q4⟩
theorem f9_4_FFFFT_e (v3 v37a : AV) (r : Nat) (st s1 s2 s3 : St) (n13a n13b n28a n28b n36 n37b : Int) : ((evS Tryz.prog E0 noOv noS 100000 [2036, 2045, 2051, 2052, 6041, 6045, 6046, 7017, 7020, 7024, 7032, 7041, 7047] (f9P 4) ⟨54, [(3, v3), (4, (.ptr r 0))], []⟩ st [.eff (.tup [(u64 n13a), (i64 n13b)]) (fun _ => s1), .av FF, .av FF, .av FF, .eff (.tup [(u64 n28a), (i64 n28b)]) (fun _ => s2), .av FF, .eff (i64 n36) id, .eff (.tup [v37a, (i64 n37b)]) (fun _ => s3), .av TT]).map fun q => (q.1, q.2.1.n, ([q.2.1.get 3] : List AV), q.2.2.1, q.2.2.2.2)) = some ((.exit 0), 54, [v3], s3, [obC 45 [(.ptr r 0), (i64 4)] st (.tup [(u64 n13a), (i64 n13b)]) s1, binA E0 .neq 23 (i64 n13b) (i64 0) = some FF, binA E0 .lss 79 (u64 n13a) (u64 1) = some FF, binA E0 .gtr 79 (u64 n13a) (u64 4096) = some FF, obC 45 [(.ptr r 0), (i64 4)] s1 (.tup [(u64 n28a), (i64 n28b)]) s2, binA E0 .neq 23 (i64 n28b) (i64 0) = some FF, convO E0 s2 79 3 (u64 n13a) = some ((i64 n36), s2), obC 46 [(.ptr r 0), (i64 n36)] s2 (.tup [v37a, (i64 n37b)]) s3, binA E0 .neq 23 (i64 n37b) (i64 0) = some TT]) := by kernel_rfl
theorem f9_4_FFFFT {v3 v37a : AV} {r : Nat} {st s1 s2 s3 : St} {n13a n13b n28a n28b n36 n37b : Int} (h1 : obC 45 [(.ptr r 0), (i64 4)] st (.tup [(u64 n13a), (i64 n13b)]) s1) (h2 : binA E0 .neq 23 (i64 n13b) (i64 0) = some FF) (h3 : binA E0 .lss 79 (u64 n13a) (u64 1) = some FF) (h4 : binA E0 .gtr 79 (u64 n13a) (u64 4096) = some FF) (h5 : obC 45 [(.ptr r 0), (i64 4)] s1 (.tup [(u64 n28a), (i64 n28b)]) s2) (h6 : binA E0 .neq 23 (i64 n28b) (i64 0) = some FF) (h7 : convO E0 s2 79 3 (u64 n13a) = some ((i64 n36), s2)) (h8 : obC 46 [(.ptr r 0), (i64 n36)] s2 (.tup [v37a, (i64 n37b)]) s3) (h9 : binA E0 .neq 23 (i64 n37b) (i64 0) = some TT) {T : Tm} (hT : f9L2 T v3 (.ptr r 0)) : AW Tryz.prog (f9P 4) (fun ex T' st' => ex = (.exit 0) ∧ f9L3 T' v3 ∧ st' = s3) T st := by
  obtain ⟨hn, g3, g4⟩ := hT
  exact (gen_run (G := fun T => ([T.get 3] : List AV)) hE (f9_4_FFFFT_e v3 v37a r st s1 s2 s3 n13a n13b n28a n28b n36 n37b) (Ob.ok_cons.2 ⟨h1, (Ob.ok_cons.2 ⟨h2, (Ob.ok_cons.2 ⟨h3, (Ob.ok_cons.2 ⟨h4, (Ob.ok_cons.2 ⟨h5, (Ob.ok_cons.2 ⟨h6, (Ob.ok_cons.2 ⟨h7, (Ob.ok_cons.2 ⟨h8, (Ob.ok_cons.2 ⟨h9, Ob.ok_nil⟩)⟩)⟩)⟩)⟩)⟩)⟩)⟩)⟩) hn (conz g3 (one g4))).mono fun ex T' st' ⟨q1, q2, q3, q4⟩ => by simp only [List.cons.injEq, and_true] at q3; exact ⟨q1, ⟨q2, q3⟩, q4⟩
theorem f9_4_FFFFFT_e (v3 v37a : AV) (r : Nat) (st s1 s2 s3 s4 : St) (n13a n13b n28a n28b n36 n37b n44 n45 : Int) : ((evS Tryz.prog E0 noOv noS 100000 [2036, 2045, 2051, 2052, 6041, 6045, 6046, 7017, 7020, 7024, 7032, 7041, 7047] (f9P 4) ⟨54, [(3, v3), (4, (.ptr r 0))], []⟩ st [.eff (.tup [(u64 n13a), (i64 n13b)]) (fun _ => s1), .av FF, .av FF, .av FF, .eff (.tup [(u64 n28a), (i64 n28b)]) (fun _ => s2), .av FF, .eff (i64 n36) id, .eff (.tup [v37a, (i64 n37b)]) (fun _ => s3), .av FF, .eff (u32 n44) (fun _ => s4), .eff (u64 n45) id, .av TT]).map fun q => (q.1, q.2.1.n, ([q.2.1.get 3] : List AV), q.2.2.1, q.2.2.2.2)) = some ((.exit 0), 54, [v3], s4, [obC 45 [(.ptr r 0), (i64 4)] st (.tup [(u64 n13a), (i64 n13b)]) s1, binA E0 .neq 23 (i64 n13b) (i64 0) = some FF, binA E0 .lss 79 (u64 n13a) (u64 1) = some FF, binA E0 .gtr 79 (u64 n13a) (u64 4096) = some FF, obC 45 [(.ptr r 0), (i64 4)] s1 (.tup [(u64 n28a), (i64 n28b)]) s2, binA E0 .neq 23 (i64 n28b) (i64 0) = some FF, convO E0 s2 79 3 (u64 n13a) = some ((i64 n36), s2), obC 46 [(.ptr r 0), (i64 n36)] s2 (.tup [v37a, (i64 n37b)]) s3, binA E0 .neq 23 (i64 n37b) (i64 0) = some FF, obC 41 [v37a] s3 (u32 n44) s4, convO E0 s4 80 79 (u32 n44) = some ((u64 n45), s4), binA E0 .neq 79 (u64 n45) (u64 n28a) = some TT]) := by kernel_rfl
theorem f9_4_FFFFFT {v3 v37a : AV} {r : Nat} {st s1 s2 s3 s4 : St} {n13a n13b n28a n28b n36 n37b n44 n45 : Int} (h1 : obC 45 [(.ptr r 0), (i64 4)] st (.tup [(u64 n13a), (i64 n13b)]) s1) (h2 : binA E0 .neq 23 (i64 n13b) (i64 0) = some FF) (h3 : binA E0 .lss 79 (u64 n13a) (u64 1) = some FF) (h4 : binA E0 .gtr 79 (u64 n13a) (u64 4096) = some FF) (h5 : obC 45 [(.ptr r 0), (i64 4)] s1 (.tup [(u64 n28a), (i64 n28b)]) s2) (h6 : binA E0 .neq 23 (i64 n28b) (i64 0) = some FF) (h7 : convO E0 s2 79 3 (u64 n13a) = some ((i64 n36), s2)) (h8 : obC 46 [(.ptr r 0), (i64 n36)] s2 (.tup [v37a, (i64 n37b)]) s3) (h9 : binA E0 .neq 23 (i64 n37b) (i64 0) = some FF) (h10 : obC 41 [v37a] s3 (u32 n44) s4) (h11 : convO E0 s4 80 79 (u32 n44) = some ((u64 n45), s4)) (h12 : binA E0 .neq 79 (u64 n45) (u64 n28a) = some TT) {T : Tm} (hT : f9L2 T v3 (.ptr r 0)) : AW Tryz.prog (f9P 4) (fun ex T' st' => ex = (.exit 0) ∧ f9L3 T' v3 ∧ st' = s4) T st := by
  obtain ⟨hn, g3, g4⟩ := hT
  exact (gen_run (G := fun T => ([T.get 3] : List AV)) hE (f9_4_FFFFFT_e v3 v37a r st s1 s2 s3 s4 n13a n13b n28a n28b n36 n37b n44 n45) (Ob.ok_cons.2 ⟨h1, (Ob.ok_cons.2 ⟨h2, (Ob.ok_cons.2 ⟨h3, (Ob.ok_cons.2 ⟨h4, (Ob.ok_cons.2 ⟨h5, (Ob.ok_cons.2 ⟨h6, (Ob.ok_cons.2 ⟨h7, (Ob.ok_cons.2 ⟨h8, (Ob.ok_cons.2 ⟨h9, (Ob.ok_cons.2 ⟨h10, (Ob.ok_cons.2 ⟨h11, (Ob.ok_cons.2 ⟨h12, Ob.ok_nil⟩)⟩)⟩)⟩)⟩)⟩)⟩)⟩)⟩)⟩)⟩)⟩) hn (conz g3 (one g4))).mono fun ex T' st' ⟨q1, q2, q3, q4⟩ => by simp only [List.cons.injEq, and_true] at q3; exact ⟨q1, ⟨q2, q3⟩, q4⟩
theorem f9_4_FFFFFF_e (v3 v37a v51 v52 : AV) (r : Nat) (st s1 s2 s3 s4 s5 s6 : St) (n13a n13b n28a n28b n36 n37b n44 n45 : Int) : ((evS Tryz.prog E0 noOv noS 100000 [2036, 2045, 2051, 2052, 6041, 6045, 6046, 7017, 7020, 7024, 7032, 7041, 7047] (f9P 4) ⟨54, [(3, v3), (4, (.ptr r 0))], []⟩ st [.eff (.tup [(u64 n13a), (i64 n13b)]) (fun _ => s1), .av FF, .av FF, .av FF, .eff (.tup [(u64 n28a), (i64 n28b)]) (fun _ => s2), .av FF, .eff (i64 n36) id, .eff (.tup [v37a, (i64 n37b)]) (fun _ => s3), .av FF, .eff (u32 n44) (fun _ => s4), .eff (u64 n45) id, .av FF, .eff v51 (fun _ => s5), .eff v52 (fun _ => s6)]).map fun q => (q.1, q.2.1.n, ([q.2.1.get 3, q.2.1.get 4] : List AV), q.2.2.1, q.2.2.2.2)) = some (.normal, 54, [v52, (.ptr r 0)], s6, [obC 45 [(.ptr r 0), (i64 4)] st (.tup [(u64 n13a), (i64 n13b)]) s1, binA E0 .neq 23 (i64 n13b) (i64 0) = some FF, binA E0 .lss 79 (u64 n13a) (u64 1) = some FF, binA E0 .gtr 79 (u64 n13a) (u64 4096) = some FF, obC 45 [(.ptr r 0), (i64 4)] s1 (.tup [(u64 n28a), (i64 n28b)]) s2, binA E0 .neq 23 (i64 n28b) (i64 0) = some FF, convO E0 s2 79 3 (u64 n13a) = some ((i64 n36), s2), obC 46 [(.ptr r 0), (i64 n36)] s2 (.tup [v37a, (i64 n37b)]) s3, binA E0 .neq 23 (i64 n37b) (i64 0) = some FF, obC 41 [v37a] s3 (u32 n44) s4, convO E0 s4 80 79 (u32 n44) = some ((u64 n45), s4), binA E0 .neq 79 (u64 n45) (u64 n28a) = some FF, buildSliceA E0 s4 32 1 [(0, v37a)] = some (v51, s5), appendA E0 s5 32 32 v3 v51 = some (v52, s6)]) := by kernel_rfl
theorem f9_4_FFFFFF {v3 v37a v51 v52 : AV} {r : Nat} {st s1 s2 s3 s4 s5 s6 : St} {n13a n13b n28a n28b n36 n37b n44 n45 : Int} (h1 : obC 45 [(.ptr r 0), (i64 4)] st (.tup [(u64 n13a), (i64 n13b)]) s1) (h2 : binA E0 .neq 23 (i64 n13b) (i64 0) = some FF) (h3 : binA E0 .lss 79 (u64 n13a) (u64 1) = some FF) (h4 : binA E0 .gtr 79 (u64 n13a) (u64 4096) = some FF) (h5 : obC 45 [(.ptr r 0), (i64 4)] s1 (.tup [(u64 n28a), (i64 n28b)]) s2) (h6 : binA E0 .neq 23 (i64 n28b) (i64 0) = some FF) (h7 : convO E0 s2 79 3 (u64 n13a) = some ((i64 n36), s2)) (h8 : obC 46 [(.ptr r 0), (i64 n36)] s2 (.tup [v37a, (i64 n37b)]) s3) (h9 : binA E0 .neq 23 (i64 n37b) (i64 0) = some FF) (h10 : obC 41 [v37a] s3 (u32 n44) s4) (h11 : convO E0 s4 80 79 (u32 n44) = some ((u64 n45), s4)) (h12 : binA E0 .neq 79 (u64 n45) (u64 n28a) = some FF) (h13 : buildSliceA E0 s4 32 1 [(0, v37a)] = some (v51, s5)) (h14 : appendA E0 s5 32 32 v3 v51 = some (v52, s6)) {T : Tm} (hT : f9L2 T v3 (.ptr r 0)) : AW Tryz.prog (f9P 4) (fun ex T' st' => ex = .normal ∧ f9L2 T' v52 (.ptr r 0) ∧ st' = s6) T st := by
  obtain ⟨hn, g3, g4⟩ := hT
  exact (gen_run (G := fun T => ([T.get 3, T.get 4] : List AV)) hE (f9_4_FFFFFF_e v3 v37a v51 v52 r st s1 s2 s3 s4 s5 s6 n13a n13b n28a n28b n36 n37b n44 n45) (Ob.ok_cons.2 ⟨h1, (Ob.ok_cons.2 ⟨h2, (Ob.ok_cons.2 ⟨h3, (Ob.ok_cons.2 ⟨h4, (Ob.ok_cons.2 ⟨h5, (Ob.ok_cons.2 ⟨h6, (Ob.ok_cons.2 ⟨h7, (Ob.ok_cons.2 ⟨h8, (Ob.ok_cons.2 ⟨h9, (Ob.ok_cons.2 ⟨h10, (Ob.ok_cons.2 ⟨h11, (Ob.ok_cons.2 ⟨h12, (Ob.ok_cons.2 ⟨h13, (Ob.ok_cons.2 ⟨h14, Ob.ok_nil⟩)⟩)⟩)⟩)⟩)⟩)⟩)⟩)⟩)⟩)⟩)⟩)⟩)⟩) hn (conz g3 (one g4))).mono fun ex T' st' ⟨q1, q2, q3, q4⟩ => by simp only [List.cons.injEq, and_true] at q3; exact ⟨q1, ⟨q2, q3⟩, q4⟩
def f9L4 (T : Tm) (a2 : AV) : Prop := T.n = 54 ∧ T.get 2 = a2
theorem f9_5_e (v3 : AV) (st : St) : ((evS Tryz.prog E0 noOv noS 100000 [] (f9P 5) ⟨54, [(3, v3)], []⟩ st []).map fun q => (q.1, q.2.1.n, ([q.2.1.get 2] : List AV), q.2.2.1, q.2.2.2.2)) = some (.ret, 54, [v3], st, []) := by kernel_rfl
theorem f9_5 {v3 : AV} {st : St}  {T : Tm} (hT : f9L3 T v3) : AW Tryz.prog (f9P 5) (fun ex T' st' => ex = .ret ∧ f9L4 T' v3 ∧ st' = st) T st := by
  obtain ⟨hn, g3⟩ := hT
  exact (gen_run (G := fun T => ([T.get 2] : List AV)) hE (f9_5_e v3 st) Ob.ok_nil hn (one g3)).mono fun ex T' st' ⟨q1, q2, q3, q4⟩ => by simp only [List.cons.injEq, and_true] at q3; exact ⟨q1, ⟨q2, q3⟩, q4⟩
end
section
set_option maxRecDepth 4000
theorem conv64 (st : St) (k : Nat) (h : k ≤ 4096) : convO E0 st 79 3 (u64 k) = some (i64 k, st) := by
  have : ∀ k : Int, convO E0 st 79 3 (u64 k) = some (i64 (IntKind.i64.wrap k), st) := fun k => by kernel_rfl
  rw [this, IntWalk.i64_in _ (by omega)]
theorem conv32 (st : St) (k : Int) : convO E0 st 80 79 (u32 k) = some (u64 (IntKind.u64.wrap k), st) := by kernel_rfl
theorem build33 (st : St) (j k : Nat) : buildSliceA E0 st 32 1 [(0, dS j k)] = some (.sl st.next 1 0 1 true, st.push (.row [dS j k] 22)) := by kernel_rfl
theorem app_rec' {st3 : St} {l : AV} {R : List (List Int)} (hls : LR st3 l R) (hw : st3.wf) (hl : st3.lock = []) (hb : R.length + 1 ≤ 1000000) (x : AV) :
    ∃ st5, appendA E0 (st3.push (.row [x] 22)) 32 32 l (.sl st3.next 1 0 1 true) = some (.sl (st3.next + 1) 1 0 (R.length + 1) false, st5) ∧ st5.get (st3.next + 1) = some (.row (R.map recA ++ [x]) 22) ∧ st5.lock = [] ∧ st5.next = st3.next + 2 ∧
      (∀ i o, st3.get i = some o → l ≠ .sl i 1 0 R.length false → st5.get i = some o) ∧ st5.wf ∧ st5.gl = st3.gl := by
  have hx : sliceCells (st3.push (.row [x] 22)) (.sl st3.next 1 0 1 true) = some (1, [x]) := by
    rw [cells_sl (by rw [St.get_push, if_pos rfl]) (by simp)]
    rfl
  rcases hls with ⟨rfl, rfl⟩ | ⟨hne, id, rfl, hg⟩
  · refine ⟨_, lapp_nil hx rfl (by omega) (by omega), ?_, by simpa using hl, rfl, fun i o ho _ => ?_, push_wf (push_wf hw _) _, rfl⟩
    · rw [St.get_push, if_pos (by simp)]; rfl
    · have := hw _ _ ho
      rw [St.get_push, if_neg (by rw [St.next_push]; omega), St.get_push, if_neg (by omega)]; exact ho
  · have hid := hw _ _ hg
    have hg' : (st3.push (.row [x] 22)).get id = some (.row (R.map recA) 22) := by rw [St.get_push, if_neg (by omega)]; exact hg
    refine ⟨_, lapp_row hg' (by simpa using hl) (by simp) hx rfl (by omega) hb, ?_, by simpa using hl, rfl, fun i o ho hne' => ?_, push_wf (del_wf (push_wf hw _) _) _, rfl⟩
    · rw [St.get_push, if_pos (by simp)]
    · have := hw _ _ ho
      rw [St.get_push, if_neg (by rw [St.next_del, St.next_push]; omega), St.get_del, if_neg (fun e => hne' (by rw [e])), St.get_push, if_neg (by omega)]; exact ho
theorem RestF.take {st0 st : St} (hk : RestF st0 st []) (hw0 : st0.wf) {r ty n : Nat} {bs : List AV} {lf : AV} (hr : st0.next ≤ r) (hrn : r < st.next) : RestF st0 (takeSt st r ty bs n lf) [] :=
  ⟨fun i o hi ho hp => by
    have := hw0 _ _ ho
    have hn := hk.next
    rw [takeSt_get, if_neg (by omega), if_neg (by omega)]
    exact hk.keep i o hi ho hp, by rw [takeSt_next]; have := hk.next; omega, by rw [takeSt_lock]; exact hk.lock, hk.gl, takeSt_wf hk.wf hrn⟩
/-- the loop of Split, value by value -/
structure SplD (A : List Int) (st0 : St) (r : Nat) (R : List (List Int)) (bs : List Int) (l : AV) (st : St) : Prop where
  rd : ∃ left, st.get r = some (.row [left, TT] 137) ∧ LeftR st left (bs.map u8)
  ls : LR st l R
  lock : st.lock = []
  keep : RestF st0 st []
  law : R ++ splitN bs.length bs = splitN A.length A
  len : R.length + bs.length ≤ A.length
  lid : ∀ i sz o k f, l = .sl i sz o k f → st0.next ≤ i
theorem SplD.done {A : List Int} {st0 : St} {r : Nat} {R : List (List Int)} {bs : List Int} {l : AV} {st : St} (h : SplD A st0 r R bs l st) (hp : parse1 bs = none) {st' : St} (hls : LR st l R → LR st' l R) (hk : RestF st0 st' []) : LR st' l (splitN A.length A) ∧ RestF st0 st' [] :=
  ⟨by have := h.law
      rw [split_none hp, List.append_nil] at this
      rw [← this]; exact hls h.ls, hk⟩
theorem spl_det {A : List Int} {st0 : St} {r : Nat} {R : List (List Int)} {bs : List Int} {l : AV} {st : St} (hI : SplD A st0 r R bs l st) (hA : A.length ≤ 1000000) (hw0 : st0.wf) (hr0 : st0.next ≤ r) :
    (∃ st', (LR st' l (splitN A.length A) ∧ RestF st0 st' []) ∧ ∀ T, f9L2 T l (.ptr r 0) → AW Tryz.prog (f9P 4) (fun ex T' s => ex = .exit 0 ∧ f9L3 T' l ∧ s = st') T st) ∨
    (∃ R' bs' l' st', bs'.length < bs.length ∧ SplD A st0 r R' bs' l' st' ∧ ∀ T, f9L2 T l (.ptr r 0) → AW Tryz.prog (f9P 4) (fun ex T' s => ex = .normal ∧ f9L2 T' l' (.ptr r 0) ∧ s = st') T st) := by
  have hw := hI.keep.wf
  obtain ⟨left, hrd, hL⟩ := hI.rd
  have hrn := hw _ _ hrd
  by_cases h4 : bs.length < 4
  · have hp : parse1 bs = none := by unfold parse1; rw [if_pos h4]
    exact .inl ⟨st, hI.done hp (fun h => h) hI.keep, fun T hT => f9_4_T (num_short hrd hL (by simpa using h4)) (neqT (by decide)) hT⟩
  obtain ⟨lf1, c1, L1, i1⟩ := num_ok hw hI.lock hrd hL (by omega) (by decide)
  have w1 := takeSt_wf (ty := 137) (n := 4) (bs := bs.map u8) (lf := lf1) hw hrn
  have r1 := takeSt_r (st := st) (r := r) (ty := 137) (n := 4) (bs := bs.map u8) (lf := lf1)
  have ls1 := fun l (h : LR st l R) => LR_take h hrd hw (bs.map u8) 4 lf1
  have k1 : RestF st0 (takeSt st r 137 (bs.map u8) 4 lf1) [] := hI.keep.take hw0 hr0 hrn
  have x1 : st0.next ≤ (takeSt st r 137 (bs.map u8) 4 lf1).next := k1.next
  have lk1 : (takeSt st r 137 (bs.map u8) 4 lf1).lock = [] := by rw [takeSt_lock]; exact hI.lock
  have rn1 : r < (takeSt st r 137 (bs.map u8) 4 lf1).next := by rw [takeSt_next]; omega
  have hnx1 : (takeSt st r 137 (bs.map u8) 4 lf1).next = st.next + 1 := takeSt_next
  generalize hs1 : takeSt st r 137 (bs.map u8) 4 lf1 = st1 at *
  by_cases hn1 : num4 bs < 1
  · have hp : parse1 bs = none := by unfold parse1; rw [if_neg h4, if_pos hn1]
    exact .inl ⟨st1, hI.done hp (ls1 l) k1, fun T hT => f9_4_FT c1 (neqF rfl) (lssT (by omega)) hT⟩
  by_cases hn2 : 4096 < num4 bs
  · have hp : parse1 bs = none := by unfold parse1; rw [if_neg h4, if_neg hn1, if_pos hn2]
    exact .inl ⟨st1, hI.done hp (ls1 l) k1, fun T hT => f9_4_FFT c1 (neqF rfl) (lssF (by omega)) (gtrT (by omega)) hT⟩
  by_cases h8 : (bs.drop 4).length < 4
  · have hp : parse1 bs = none := by unfold parse1; rw [if_neg h4, if_neg hn1, if_neg hn2, if_pos h8]
    exact .inl ⟨st1, hI.done hp (ls1 l) k1, fun T hT => f9_4_FFFT c1 (neqF rfl) (lssF (by omega)) (gtrF (by omega)) (num_short r1 L1 (by simpa using h8)) (neqT (by decide)) hT⟩
  have hd8 : (bs.drop 4).drop 4 = bs.drop 8 := by rw [List.drop_drop]
  obtain ⟨lf2, c2, L2, i2⟩ := num_ok w1 lk1 r1 L1 (by omega) (by decide)
  rw [hd8] at L2
  have w2 := takeSt_wf (ty := 137) (n := 4) (bs := (bs.drop 4).map u8) (lf := lf2) w1 rn1
  have r2 := takeSt_r (st := st1) (r := r) (ty := 137) (n := 4) (bs := (bs.drop 4).map u8) (lf := lf2)
  have ls2 := fun l (h : LR st1 l R) => LR_take h r1 w1 ((bs.drop 4).map u8) 4 lf2
  have k2 : RestF st0 (takeSt st1 r 137 ((bs.drop 4).map u8) 4 lf2) [] := k1.take hw0 hr0 rn1
  have x2 : st0.next ≤ (takeSt st1 r 137 ((bs.drop 4).map u8) 4 lf2).next := k2.next
  have lk2 : (takeSt st1 r 137 ((bs.drop 4).map u8) 4 lf2).lock = [] := by rw [takeSt_lock]; exact lk1
  have rn2 : r < (takeSt st1 r 137 ((bs.drop 4).map u8) 4 lf2).next := by rw [takeSt_next]; omega
  generalize hs2 : takeSt st1 r 137 ((bs.drop 4).map u8) 4 lf2 = st2 at *
  obtain ⟨n, hn⟩ : ∃ n : Nat, num4 bs = (n : Int) := ⟨(num4 bs).toNat, by omega⟩
  have hnt : (num4 bs).toNat = n := by rw [hn]; rfl
  have hcv : convO E0 st2 79 3 (u64 (num4 bs)) = some (i64 n, st2) := by rw [hn]; exact conv64 st2 n (by omega)
  by_cases hsh : (bs.drop 8).length < n
  · have hp : parse1 bs = none := by unfold parse1; rw [if_neg h4, if_neg hn1, if_neg hn2, if_neg h8, if_pos (by rw [hnt]; exact hsh)]
    exact .inl ⟨st2, hI.done hp (fun h => ls2 l (ls1 l h)) k2, fun T hT => f9_4_FFFFT c1 (neqF rfl) (lssF (by omega)) (gtrF (by omega)) c2 (neqF rfl) hcv (take_short r2 L2 (by simpa using hsh)) (neqT (by decide)) hT⟩
  obtain ⟨lf3, c3, L3, i3⟩ := take_ok (n := n) w2 lk2 r2 L2 (by omega) (by simpa using hsh) (by omega) (by decide)
  rw [← List.map_drop] at L3
  have w3 := takeSt_wf (ty := 137) (n := n) (bs := (bs.drop 8).map u8) (lf := lf3) w2 rn2
  have r3 := takeSt_r (st := st2) (r := r) (ty := 137) (n := n) (bs := (bs.drop 8).map u8) (lf := lf3)
  have ls3 := fun l (h : LR st2 l R) => LR_take h r2 w2 ((bs.drop 8).map u8) n lf3
  have k3 : RestF st0 (takeSt st2 r 137 ((bs.drop 8).map u8) n lf3) [] := k2.take hw0 hr0 rn2
  have x3 : st0.next ≤ (takeSt st2 r 137 ((bs.drop 8).map u8) n lf3).next := k3.next
  have lk3 : (takeSt st2 r 137 ((bs.drop 8).map u8) n lf3).lock = [] := by rw [takeSt_lock]; exact lk2
  have rn3 : r < (takeSt st2 r 137 ((bs.drop 8).map u8) n lf3).next := by rw [takeSt_next]; omega
  have g3 : (takeSt st2 r 137 ((bs.drop 8).map u8) n lf3).get st2.next = some (.row (((bs.drop 8).take n).map u8) 5) := by
    rw [takeSt_get, if_neg (by omega), if_pos rfl, List.map_take]
  have hnx3 : (takeSt st2 r 137 ((bs.drop 8).map u8) n lf3).next = st2.next + 1 := takeSt_next
  generalize hs3 : takeSt st2 r 137 ((bs.drop 8).map u8) n lf3 = st3 at *
  have hdl : ((bs.drop 8).take n).length = n := by rw [List.length_take]; omega
  have c4 := sum_ok (f := true) g3 hdl.symm (by omega)
  by_cases hcr : crcU ((bs.drop 8).take n) ≠ num4 (bs.drop 4)
  · have hp : parse1 bs = none := by unfold parse1; rw [if_neg h4, if_neg hn1, if_neg hn2, if_neg h8, if_neg (by rw [hnt]; exact hsh), if_pos (by rw [hnt]; exact hcr)]
    exact .inl ⟨st3, hI.done hp (fun h => ls3 l (ls2 l (ls1 l h))) k3, fun T hT => f9_4_FFFFFT c1 (neqF rfl) (lssF (by omega)) (gtrF (by omega)) c2 (neqF rfl) hcv c3 (neqF rfl) c4 (conv32 _ _) (neqT hcr) hT⟩
  have hp : parse1 bs = some ((bs.drop 8).take n, (bs.drop 8).drop n) := by
    unfold parse1; rw [if_neg h4, if_neg hn1, if_neg hn2, if_neg h8, if_neg (by rw [hnt]; exact hsh), if_neg (by rw [hnt]; exact hcr), hnt]
  have hlen := parse1_len hp
  simp only at hlen
  have l3 : LR st3 (l) R := ls3 _ (ls2 _ (ls1 _ hI.ls))
  have hlen2 := hI.len
  obtain ⟨st5, ha, g5, lk5, nx5, kp5, hw5, gl5⟩ := app_rec' l3 w3 lk3 (by omega) (dS st2.next n)
  have hF := fun hw5 => frzSt_ok (st := st5) (id := st2.next) (vs := ((bs.drop 8).take n).map u8) hw5
  have nl : ∀ (i : Nat) (o : AObj) (vs : List AV) (ty : Nat), st3.get i = some (.row vs ty) → ty ≠ 22 → l ≠ .sl i 1 0 R.length false := fun i o vs ty hg hty e => by
    rcases l3 with ⟨_, h⟩ | ⟨_, id, h, hg'⟩
    · rw [h] at e; cases e
    · rw [h] at e; cases e
      rw [hg] at hg'
      simp only [Option.some.injEq, AObj.row.injEq] at hg'
      exact hty hg'.2
  have gd : st5.get st2.next = some (.row (((bs.drop 8).take n).map u8) 5) := kp5 _ _ g3 (nl _ (.siter default 0) _ _ g3 (by decide))
  have gr : st5.get r = some (.row [lf3, TT] 137) := kp5 _ _ r3 (nl _ (.siter default 0) _ _ r3 (by decide))
  have hrn3 : r ≠ st2.next := by omega
  have hfl : frz st2.next (((bs.drop 8).take n).map u8) lf3 = lf3 := by
    rcases L3 with ⟨_, h | ⟨f, h⟩⟩ | ⟨_, id, off, full, B, h, _⟩
    · rw [h]; rfl
    · rw [h]; simp [frz, frzL]
    · rw [h]
      have := i3 _ _ _ _ _ h
      simp only [frz]
      rw [if_neg (by omega)]
  refine .inr ⟨R ++ [(bs.drop 8).take n], (bs.drop 8).drop n, .sl (st3.next + 1) 1 0 (R.length + 1) false, frzSt st2.next (((bs.drop 8).take n).map u8) st5, by omega, ?_, fun T hT => ?_⟩
  · have hF := hF hw5
    refine ⟨⟨lf3, ?_, ?_⟩, .inr ⟨by simp, st3.next + 1, by simp, ?_⟩, lk5, ⟨fun i o hi ho hp => ?_, ?_, ?_, ?_, ?_⟩, ?_, ?_, fun i sz o k f e => ?_⟩
    · rw [hF.get, if_neg hrn3, gr]
      simp only [Option.map_some, frzO, frzL, hfl, frz]
    · rcases L3 with h | ⟨hne, id, off, full, B, h, hg, hd⟩
      · exact .inl h
      · refine .inr ⟨hne, id, off, full, B, h, ?_, hd⟩
        have hi := i3 _ _ _ _ _ h
        rw [hF.get, if_neg (by omega), kp5 _ _ hg (nl _ (.siter default 0) _ _ hg (by decide))]
        simp only [Option.map_some, frzO, frz_u8]
    · rw [hF.get, if_neg (by omega), g5]
      simp only [Option.map_some, frzO]
      rw [frzL_eq, List.map_append, ← frzL_eq, frz_recs, List.map_append]
      congr 3
      simp only [List.map_cons, List.map_nil, dS, frz, if_true, recA, hdl, Nat.mul_one, Nat.zero_add, List.length_map, List.drop_zero, Nat.le_refl]
      rw [List.take_of_length_le (by rw [List.length_map, hdl]; exact Nat.le_refl _)]
    · have hi := hw0 _ _ ho
      have hst3 := k3.keep i o (by simp) ho hp
      rw [hF.get, if_neg (by omega)]
      have : st5.get i = some o := kp5 i o hst3 fun e => ?_
      · rw [this, Option.map_some, show frzO _ _ o = o from hp _ _ (by omega)]
      · have := hI.lid _ _ _ _ _ e; omega
    · rw [hF.next]; omega
    · rw [hF.lock, lk5, ← lk3]; exact k3.lock
    · rw [hF.gl, gl5]; exact k3.gl
    · intro i o ho
      rw [hF.get] at ho
      split at ho
      · cases ho
      · obtain ⟨o', h1, _⟩ := Option.map_eq_some_iff.1 ho
        rw [hF.next]; exact hw5 _ _ h1
    · rw [← hI.law, split_some hp]
      simp
    · simp only [List.length_append, List.length_cons, List.length_nil]
      omega
    · cases e; omega
  · refine AW.freeze (f9_4_FFFFFF c1 (neqF rfl) (lssF (by omega)) (gtrF (by omega)) c2 (neqF rfl) hcv c3 (neqF rfl) c4 (conv32 _ _) (neqF (Classical.not_not.1 hcr)) (build33 _ _ _) ha hT) ?_
    rintro e T' st' ⟨rfl, ⟨hn', t3, t4⟩, rfl⟩ _ _
    refine ⟨st2.next, _, 5, gd, lk5, rfl, ⟨hn', ?_, ?_⟩, rfl⟩
    · rw [frzT_get, t3]; simp only [frz]; rw [if_neg (by omega)]
    · rw [frzT_get, t4]; rfl
end
section
set_option maxRecDepth 4000
theorem newRunE (st : St) (i j : Nat) (full : Bool) (f1 : St → St) : newEv (.sl i 1 0 0 full) st [.eff (.sl j 1 0 0 true) f1] = some (.ptr (f1 (st.push (.row [] 5))).next 0, (f1 (st.push (.row [] 5))).push (.row [.sl j 1 0 0 true, TT] 137), [appendA E0 (st.push (.row [] 5)) 22 22 (.sl st.next 1 0 0 true) (.sl i 1 0 0 full) = some (.sl j 1 0 0 true, f1 (st.push (.row [] 5)))]) := by kernel_rfl
/-- a reader's left bytes, an empty slice too -/
def LeftE (st : St) (v : AV) (bs : List Int) : Prop := LeftR st v (bs.map u8) ∨ (bs = [] ∧ ∃ j, v = .sl j 1 0 0 true)
theorem new_own {st : St} {b : AV} {A : List Int} (hw : st.wf) (hb : OwnB st b A) (hA : A.length ≤ 1000000) :
    ∃ r left st', obC 44 [b] st (.ptr r 0) st' ∧ st.next ≤ r ∧ st'.get r = some (.row [left, TT] 137) ∧ LeftE st' left A ∧ Rest st st' [] := by
  rcases hb with ⟨rfl, rfl⟩ | ⟨rfl, i, rfl, hg⟩ | ⟨hne, i, rfl, hg⟩
  · obtain ⟨x1, h1⟩ := run_of (newRunN st)
    exact ⟨st.next, .nils, _, ACalls.run hE (ov := noOv) noOv_ok h1 Ob.ok_nil, Nat.le_refl _, by rw [St.get_push, if_pos rfl], .inl (.inl ⟨rfl, .inl rfl⟩), Rest.push hw _ _⟩
  · have hi := hw _ _ hg
    have hg' : (st.push (.row [] 5)).get i = some (.row [] 5) := by rw [St.get_push, if_neg (by omega)]; exact hg
    have ha : appendA E0 (st.push (.row [] 5)) 22 22 (.sl st.next 1 0 0 true) (.sl i 1 0 0 true) = some (.sl st.next 1 0 0 true, st.push (.row [] 5)) := by
      have hc : sliceCells (st.push (.row [] 5)) (.sl i 1 0 0 true) = some (0, []) := by rw [cells_sl hg' (by simp)]; rfl
      simp only [appendA, el28, src28, str28, hc]
      rw [if_pos ⟨by simp, fun h => by cases h⟩, if_neg (fun h => h rfl), if_pos trivial]
    obtain ⟨x1, h1⟩ := run_of (newRunE st i st.next true id)
    exact ⟨_, _, _, ACalls.run hE (ov := noOv) noOv_ok h1 (by simp only [Ob.ok_cons, Ob.ok_nil, and_true]; exact ha), by simp, by rw [St.get_push, if_pos rfl], .inr ⟨rfl, _, rfl⟩, (Rest.push hw _ _).trans (Rest.push (push_wf hw _) _ _)⟩
  · have hi := hw _ _ hg
    have h0 : 0 < A.length := List.length_pos_iff.2 hne
    have hg' : (st.push (.row [] 5)).get i = some (.row (A.map u8) 5) := by rw [St.get_push, if_neg (by omega)]; exact hg
    have ha : appendA E0 (st.push (.row [] 5)) 22 22 (.sl st.next 1 0 0 true) (.sl i 1 0 A.length false) = some (.sl (st.next + 1) 1 0 A.length false, (st.push (.row [] 5)).push (.row (A.map u8) 5)) := by
      have := app_full_w (st := st.push (.row [] 5)) (id := st.next) (off := 0) (len := 0) (n := A.length) (vs := []) (c := A.map u8) (x := .sl i 1 0 A.length false) (by rw [St.get_push, if_pos rfl]) (by simp)
        (by rw [cells_sl hg' (by simp), List.drop_zero, List.take_of_length_le (by simp)]) (by simp) (by omega) (by omega)
      simpa using this
    obtain ⟨x1, h1⟩ := run_of (newRun st (fun _ => (st.push (.row [] 5)).push (.row (A.map u8) 5)) i 0 A.length (st.next + 1) A.length false)
    refine ⟨st.next + 2, .sl (st.next + 1) 1 0 A.length false, _, ACalls.run hE (ov := noOv) noOv_ok h1 (by simp only [Ob.ok_cons, Ob.ok_nil, and_true]; exact ha), by omega, by rw [St.get_push, if_pos (by simp)], .inl (.inr ⟨by simpa using hne, st.next + 1, 0, false, A, by simp, ?_, by simp⟩), ((Rest.push hw _ _).trans (Rest.push (push_wf hw _) _ _)).trans (Rest.push (push_wf (push_wf hw _) _) _ _)⟩
    rw [St.get_push, if_neg (by simp), St.get_push, if_pos (by simp)]
theorem num_shortE {st : St} {r ty j : Nat} (hr : st.get r = some (.row [.sl j 1 0 0 true, TT] ty)) : obC 45 [.ptr r 0, i64 4] st (.tup [u64 0, i64 4]) st := by
  have k : obC 46 [.ptr r 0, i64 (4 : Nat)] st (.tup [.nils, i64 4]) st := take_run (takeShort r j 0 0 true (4 : Nat) st) (by
    simp only [Ob.ok_cons, Ob.ok_nil, and_true]
    exact ⟨⟨load_row hr (part4 rfl), rfl⟩, lt_F (by omega), ⟨load_row hr (part24 rfl), rfl⟩, gt_T (by omega)⟩)
  refine num_run (numShort r j 0 0 true st) ?_
  simp only [obR_w, List.cons_append, List.nil_append, Ob.ok_cons, Ob.ok_nil, and_true]
  exact ⟨⟨load_row hr (part4 rfl), rfl⟩, lt_F (by omega), ⟨load_row hr (part24 rfl), rfl⟩, gt_F (by omega), k⟩
theorem spl_chain {A : List Int} {st0 : St} {r : Nat} (hA : A.length ≤ 1000000) (hw0 : st0.wf) (hr0 : st0.next ≤ r) : ∀ (k : Nat) (bs : List Int), bs.length ≤ k → ∀ {R : List (List Int)} {l : AV} {st : St}, SplD A st0 r R bs l st →
    ∃ (n : Nat) (c : Nat → St) (v : Nat → AV) (sf : St), c 0 = st ∧ v 0 = l ∧ (∀ i, i < n → ∀ T, f9L2 T (v i) (.ptr r 0) → AW Tryz.prog (f9P 4) (fun ex T' s => ex = .normal ∧ f9L2 T' (v (i + 1)) (.ptr r 0) ∧ s = c (i + 1)) T (c i)) ∧
      (∀ T, f9L2 T (v n) (.ptr r 0) → AW Tryz.prog (f9P 4) (fun ex T' s => ex = .exit 0 ∧ f9L3 T' (v n) ∧ s = sf) T (c n)) ∧ LR sf (v n) (splitN A.length A) ∧ RestF st0 sf [] ∧ ∀ i sz o k f, v n = .sl i sz o k f → st0.next ≤ i := by
  intro k
  induction k with
  | zero =>
    intro bs hk R l st hI
    rcases spl_det hI hA hw0 hr0 with ⟨sf, ⟨h1, h2⟩, h3⟩ | ⟨R', bs', l', st', hlt, _, _⟩
    · exact ⟨0, fun _ => st, fun _ => l, sf, rfl, rfl, fun i h => by omega, h3, h1, h2, hI.lid⟩
    · omega
  | succ k ih =>
    intro bs hk R l st hI
    rcases spl_det hI hA hw0 hr0 with ⟨sf, ⟨h1, h2⟩, h3⟩ | ⟨R', bs', l', st', hlt, hI', h3⟩
    · exact ⟨0, fun _ => st, fun _ => l, sf, rfl, rfl, fun i h => by omega, h3, h1, h2, hI.lid⟩
    · obtain ⟨n, c, v, sf, c0, v0, ht, hf, h4, h5, h6⟩ := ih bs' (by omega) hI'
      refine ⟨n + 1, fun i => match i with | 0 => st | i + 1 => c i, fun i => match i with | 0 => l | i + 1 => v i, sf, rfl, rfl, fun i hi T hT => ?_, hf, h4, h5, h6⟩
      match i, hi, hT with
      | 0, _, hT => simp only; rw [c0, v0]; exact h3 T hT
      | i + 1, hi, hT => exact ht i (by omega) T hT
theorem split_own {st : St} {b : AV} {A : List Int} (hw : st.wf) (hl : st.lock = []) (hb : OwnB st b A) (hA : A.length ≤ 1000000) :
    ∃ l st', obC 9 [b] st l st' ∧ LR st' l (splitN A.length A) ∧ RestF st st' [] ∧ ∀ i sz o k f, l = .sl i sz o k f → st.next ≤ i := by
  obtain ⟨r, left, s1, hnew, hr0, hrd, hL, hk⟩ := new_own hw hb hA
  obtain ⟨n, c, v, sf, c0, v0, ht, hf, h4, h5, h6⟩ : ∃ (n : Nat) (c : Nat → St) (v : Nat → AV) (sf : St), c 0 = s1 ∧ v 0 = .nils ∧ (∀ i, i < n → ∀ T, f9L2 T (v i) (.ptr r 0) → AW Tryz.prog (f9P 4) (fun ex T' s => ex = .normal ∧ f9L2 T' (v (i + 1)) (.ptr r 0) ∧ s = c (i + 1)) T (c i)) ∧
      (∀ T, f9L2 T (v n) (.ptr r 0) → AW Tryz.prog (f9P 4) (fun ex T' s => ex = .exit 0 ∧ f9L3 T' (v n) ∧ s = sf) T (c n)) ∧ LR sf (v n) (splitN A.length A) ∧ RestF st sf [] ∧ ∀ i sz o k f, v n = .sl i sz o k f → st.next ≤ i := by
    rcases hL with hL | ⟨rfl, j, rfl⟩
    · exact spl_chain hA hw hr0 A.length A (Nat.le_refl _) (R := []) (l := .nils) (st := s1) ⟨⟨left, hrd, hL⟩, .inl ⟨rfl, rfl⟩, hk.lock.trans hl, hk.f, rfl, by simp, fun i sz o k f e => by cases e⟩
    · exact ⟨0, fun _ => s1, fun _ => .nils, s1, rfl, rfl, fun i h => by omega, fun T hT => f9_4_T (num_shortE hrd) (neqT (by decide)) hT, .inl ⟨rfl, rfl⟩, hk.f, fun i sz o k f e => by cases e⟩
  refine ⟨v n, sf, ?_, h4, h5, h6⟩
  refine ACalls.body (E := E0) hE Tryz.func9 f9body ?_
  refine AW.andThen (f9_0 ⟨rfl, rfl⟩) fun T1 q1 => .scope ?_
  refine AW.andThen (f9_1 q1) fun T2 q2 => ?_
  refine AW.andThen (f9_2 hnew q2) fun T3 q3 => ?_
  refine AW.andThen (f9_3 q3) fun T4 q4 => ?_
  refine AW.andThen (AW.turns (In := fun i T => f9L2 T (v i) (.ptr r 0)) (L := fun T => f9L3 T (v n)) (c := c) (n := n) (sf := sf) c0.symm (by rw [v0]; exact q4) ht hf) fun T5 q5 => ?_
  refine AW.atRet (f9_5 q5) fun T6 q6 => ?_
  refine ⟨fun l h => (by cases h), [T6.get 2], rfl, ?_⟩
  simp only [oneOrTup]
  exact ⟨q6.2, trivial⟩
end
section
set_option maxRecDepth 4000
theorem obC_gl {f : Nat} {args : List AV} {st st' : St} {a : AV} (h : obC f args st a st') : obC f args st a { st' with gl := st.gl } := by
  by_cases e : st'.gl = st.gl
  · rw [← e]; exact h
  · exact fun g w us hok hv => (h g w us hok hv).mono fun e' w' ⟨g', s, r, v, h1, k1, h3, h4, h5⟩ => absurd (by rw [← h5]; exact k1.gl) e
theorem frame_own {f : Bool} {st : St} (hw : st.wf) (hl : st.lock = []) {d : List Int} (h1 : 1 ≤ d.length) (h2 : d.length ≤ 4096) :
    ∃ v st', obC 7 [recF f d] st (.tup [v, i64 0]) st' ∧ (∃ i, v = .sl i 1 0 (frameL d).length false ∧ st'.get i = some (.row ((frameL d).map u8) 5) ∧ st.next ≤ i) ∧ Rest st st' [] := by
  obtain ⟨i, st', r, hg, hl', hi, hx, hk, hw'⟩ := frame_ok hw hl h1 h2
  exact ⟨_, _, obC_gl r, ⟨i, by rw [frame_len]; rfl, hg, hi⟩, fun j o _ ho => hk j o ho, hx, hl'.trans hl.symm, rfl, hw'⟩
/-- bytes in a slice of their own -/
def OwnW (st0 st : St) (v : AV) (c : List Int) : Prop := ∃ i, v = .sl i 1 0 c.length false ∧ st.get i = some (.row (c.map u8) 5) ∧ st0.next ≤ i
theorem OwnW.rest {st0 st st' : St} {v : AV} {c : List Int} {S : List Nat} (h : OwnW st0 st v c) (hr : Rest st st' S) (hS : ∀ i ∈ S, i < st0.next) : OwnW st0 st' v c := by
  obtain ⟨i, h1, h2, h3⟩ := h
  exact ⟨i, h1, hr.keep i _ (fun hi => by have := hS i hi; omega) h2, h3⟩
theorem OwnW.arg {st0 st : St} {v : AV} {c : List Int} (h : OwnW st0 st v c) : ArgB st v c := by
  obtain ⟨i, h1, h2, _⟩ := h
  exact .inr (.inr ⟨i, false, h1, h2⟩)
section
variable {st : St} {w d m nx op ct : Nat} {s : PS}
theorem WA.lt (h : WA st w d m s nx op ct) : ∀ i ∈ [d, m, w], i < st.next := fun i hi => by
  obtain ⟨_, _, hm⟩ := h.disk.map
  simp only [List.mem_cons, List.not_mem_nil, or_false] at hi
  rcases hi with rfl | rfl | rfl
  · exact h.wf _ _ h.disk.row
  · exact h.wf _ _ hm
  · exact h.wf _ _ h.row
/-- the last part of Append: the name, the disk's Append -/
theorem wapp_tail {st0 : St} {v : AV} {c : List Int} (h : WA st w d m s nx op ct) {U : Nat} (hf : Fine s U) (hU : U < 1000000000) (ho : 1 ≤ op ∧ op ≤ 9) (hv : OwnW st0 st v c) (hc : c.length < 1000000000) (hlt : ∀ i ∈ [d, m, w], i < st0.next) :
    ∃ sA sB s', obC 5 [i64 op] st (.tup [str (nm op), i64 0]) sA ∧ loadA E0 sA 38 (.ptr w 0) = some (.ptr d 0) ∧ obC 32 [.ptr d 0, str (nm op), v] sA (i64 (appE s (nm op) c)) sB ∧ AppS s (nm op) c s' ∧ WA sB w d m s' nx op ct ∧ RestF st sB [d, m, w] := by
  obtain ⟨sA, r1, k1⟩ := name_ok (k := op) (by omega) h.wf
  have h1 := h.rest k1
  obtain ⟨sB, s', r2, p2, k2, a2⟩ := append_ok h1.disk h1.wf h1.lock hf.good (by have := hf.used; omega) hf.q (nm op) (hv.rest k1 (by simp)).arg hc
  have hw2 : sB.get w = some (.row [.ptr d 0, i64 nx, i64 op, i64 ct] 93) := k2.keep w _ (by simp [h.wd, h.wm]) h1.row fun _ _ _ => rfl
  exact ⟨sA, sB, s', r1, h1.l0, r2, a2, ⟨p2, hw2, k2.wf, k2.lock.trans h1.lock⟩, (k1.f.weak (by simp)).trans (k2.weak (by simp))⟩
def wPre (s : PS) (nx op ct : Nat) : Int × PS × Nat × Nat × Nat :=
  if 0 < op ∧ ct = 8 then
    if (pSync s (nm op)).1 ≠ 0 then ((pSync s (nm op)).1, (pSync s (nm op)).2, nx, op, ct) else
    if (pCreate (pSync s (nm op)).2 (nm nx)).1 ≠ 0 then ((pCreate (pSync s (nm op)).2 (nm nx)).1, (pCreate (pSync s (nm op)).2 (nm nx)).2, nx, 0, ct)
    else (0, (pCreate (pSync s (nm op)).2 (nm nx)).2, nx + 1, nx, 0)
  else if op = 0 then
    if (pCreate s (nm nx)).1 ≠ 0 then ((pCreate s (nm nx)).1, (pCreate s (nm nx)).2, nx, 0, ct) else (0, (pCreate s (nm nx)).2, nx + 1, nx, 0)
  else (0, s, nx, op, ct)
/-- what Append comes to: an error ahead of the disk's Append; or that call's -/
def WApp (x : AV) (c : List Int) (st : St) (w d m : Nat) (s : PS) (nx op ct : Nat) (st' : St) (s' : PS) : Prop :=
  ((wPre s nx op ct).1 ≠ 0 ∧ s' = (wPre s nx op ct).2.1 ∧ obC 16 [.ptr w 0, x] st (.tup [i64 0, i64 (wPre s nx op ct).1]) st' ∧ WA st' w d m s' (wPre s nx op ct).2.2.1 (wPre s nx op ct).2.2.2.1 (wPre s nx op ct).2.2.2.2) ∨
  ((wPre s nx op ct).1 = 0 ∧ AppS (wPre s nx op ct).2.1 (nm (wPre s nx op ct).2.2.2.1) c s' ∧
    ((appE (wPre s nx op ct).2.1 (nm (wPre s nx op ct).2.2.2.1) c ≠ 0 ∧ obC 16 [.ptr w 0, x] st (.tup [i64 0, i64 (appE (wPre s nx op ct).2.1 (nm (wPre s nx op ct).2.2.2.1) c)]) st' ∧ WA st' w d m s' (wPre s nx op ct).2.2.1 (wPre s nx op ct).2.2.2.1 (wPre s nx op ct).2.2.2.2) ∨
     (appE (wPre s nx op ct).2.1 (nm (wPre s nx op ct).2.2.2.1) c = 0 ∧ obC 16 [.ptr w 0, x] st (.tup [i64 (wPre s nx op ct).2.2.2.1, i64 0]) st' ∧ WA st' w d m s' (wPre s nx op ct).2.2.1 (wPre s nx op ct).2.2.2.1 ((wPre s nx op ct).2.2.2.2 + 1))))
theorem wapp_fin {sB : St} {s' : PS} {ct' : Nat} (h : WA sB w d m s' nx op ct') (hct : ct' ≤ 1000) : ∃ s7, storeA E0 sB 3 (.ptr w 3) (i64 (ct' + 1 : Int)) = some s7 ∧ WA s7 w d m s' nx op (ct' + 1) ∧ Rest sB s7 [w] := by
  obtain ⟨h3, k3⟩ := h.set (vs := [.ptr d 0, i64 nx, i64 op, i64 ct'].set 3 (i64 (ct' + 1 : Nat))) rfl
  exact ⟨_, storeWl h.row h.lock (by simp) _, h3, k3⟩
theorem wappend_okF {f : Bool} {U : Nat} {data : List Int} (h : WA st w d m s nx op ct) (hf : Fine s U) (hU : U < 1000000000) (hn : 1 ≤ nx ∧ nx ≤ 9) (ho : op ≤ 9) (hct : ct ≤ 8) (h1 : 1 ≤ data.length) (h2 : data.length ≤ 4096) :
    ∃ st' s', WApp (recF f data) (frameL data) st w d m s nx op ct st' s' ∧ RestF st st' [d, m, w] := by
  have hlt := h.lt
  have hcl : (frameL data).length < 1000000000 := by rw [frame_len]; omega
  obtain ⟨v, s1, f1, hv, kf⟩ := frame_own h.wf h.lock h1 h2
  have hv1 : OwnW st s1 v (frameL data) := hv
  have w1 := h.rest kf
  have kf' : Rest st s1 [d, m, w] := kf.weak (by simp)
  by_cases hfull : 0 < op ∧ ct = 8
  · obtain ⟨s2, r2, w2, k2⟩ := wsync_ok w1 hf.good ho
    have hsy : wSync s op = pSync s (nm op) := by unfold wSync; rw [if_neg (by omega)]
    rw [hsy] at r2 w2
    by_cases he : (pSync s (nm op)).1 ≠ 0
    · refine ⟨s2, (pSync s (nm op)).2, .inl ?_, (kf'.trans (k2.weak (by simp))).f⟩
      have : wPre s nx op ct = ((pSync s (nm op)).1, (pSync s (nm op)).2, nx, op, ct) := by unfold wPre; rw [if_pos hfull, if_pos he]
      rw [this]
      exact ⟨he, rfl, f16_FTTT h.l0 f1 (neqF rfl) w1.l2 (gtrT (by omega)) w1.l3 (eqlT (by omega)) r2 (neqT he), w2⟩
    have he' := Classical.not_not.1 he
    rw [he'] at r2
    obtain ⟨w3, k3⟩ := w2.set (vs := [.ptr d 0, i64 nx, i64 op, i64 ct].set 2 (i64 (0 : Nat))) rfl
    have t3 := storeWl w2.row w2.lock (k := 2) (by simp) 0
    have hf3 : Fine (pSync s (nm op)).2 U := hf.sync _
    obtain ⟨s4, r4, w4, k4⟩ := begin_ok w3 hf3.good.fu hn
    have k14 : Rest st s4 [d, m, w] := (kf'.trans (k2.weak (by simp))).trans ((k3.weak (by simp)).trans k4)
    rcases w4 with ⟨hz, w4⟩ | ⟨hz, w4⟩
    · have hp : wPre s nx op ct = (0, (pCreate (pSync s (nm op)).2 (nm nx)).2, nx + 1, nx, 0) := by unfold wPre; rw [if_pos hfull, if_neg he, if_neg (fun e => e hz)]
      have hv4 : OwnW st s4 v (frameL data) := ((hv1.rest (k2.weak (S' := [d, m, w]) (by simp)) hlt).rest (k3.weak (S' := [d, m, w]) (by simp)) hlt).rest k4 hlt
      obtain ⟨sA, sB, s', a1, a2, a3, a4, a5, a6⟩ := wapp_tail w4 (hf3.create (nm nx)) hU hn hv4 hcl hlt
      rw [hz] at r4
      by_cases hz2 : appE (pCreate (pSync s (nm op)).2 (nm nx)).2 (nm nx) (frameL data) = 0
      · obtain ⟨s7, b1, b2, b3⟩ := wapp_fin a5 (by omega)
        refine ⟨s7, s', .inr ?_, k14.f.trans (a6.trans (b3.f.weak (by simp)))⟩
        rw [hp]
        rw [hz2] at a3
        exact ⟨rfl, a4, .inr ⟨hz2, f16_FTTFTFF h.l0 f1 (neqF rfl) w1.l2 (gtrT (by omega)) w1.l3 (eqlT (by omega)) r2 (neqF rfl) t3 w3.l2 (eqlT rfl) r4 (neqF rfl) w4.l2 a1 a2 a3 (neqF rfl) a5.l3 (add64 (by omega)) b1 b2.l2, b2⟩⟩
      · refine ⟨sB, s', .inr ?_, k14.f.trans a6⟩
        rw [hp]
        exact ⟨rfl, a4, .inl ⟨hz2, f16_FTTFTFT h.l0 f1 (neqF rfl) w1.l2 (gtrT (by omega)) w1.l3 (eqlT (by omega)) r2 (neqF rfl) t3 w3.l2 (eqlT rfl) r4 (neqF rfl) w4.l2 a1 a2 a3 (neqT hz2), a5⟩⟩
    · have hp : wPre s nx op ct = ((pCreate (pSync s (nm op)).2 (nm nx)).1, (pCreate (pSync s (nm op)).2 (nm nx)).2, nx, 0, ct) := by unfold wPre; rw [if_pos hfull, if_neg he, if_pos hz]
      refine ⟨s4, (pCreate (pSync s (nm op)).2 (nm nx)).2, .inl ?_, k14.f⟩
      rw [hp]
      exact ⟨hz, rfl, f16_FTTFTT h.l0 f1 (neqF rfl) w1.l2 (gtrT (by omega)) w1.l3 (eqlT (by omega)) r2 (neqF rfl) t3 w3.l2 (eqlT rfl) r4 (neqT hz), w4⟩
  by_cases h0 : op = 0
  · subst h0
    obtain ⟨s2, r2, w2, k2⟩ := begin_ok w1 hf.good.fu hn
    have k12 : Rest st s2 [d, m, w] := kf'.trans k2
    rcases w2 with ⟨hz, w2⟩ | ⟨hz, w2⟩
    · have hp : wPre s nx 0 ct = (0, (pCreate s (nm nx)).2, nx + 1, nx, 0) := by unfold wPre; rw [if_neg hfull, if_pos rfl, if_neg (fun e => e hz)]
      obtain ⟨sA, sB, s', a1, a2, a3, a4, a5, a6⟩ := wapp_tail w2 (hf.create (nm nx)) hU hn (hv1.rest k2 hlt) hcl hlt
      rw [hz] at r2
      by_cases hz2 : appE (pCreate s (nm nx)).2 (nm nx) (frameL data) = 0
      · obtain ⟨s7, b1, b2, b3⟩ := wapp_fin a5 (by omega)
        refine ⟨s7, s', .inr ?_, k12.f.trans (a6.trans (b3.f.weak (by simp)))⟩
        rw [hp]
        rw [hz2] at a3
        exact ⟨rfl, a4, .inr ⟨hz2, f16_FFTFF h.l0 f1 (neqF rfl) w1.l2 (gtrF (by omega)) w1.l2 (eqlT rfl) r2 (neqF rfl) w2.l2 a1 a2 a3 (neqF rfl) a5.l3 (add64 (by omega)) b1 b2.l2, b2⟩⟩
      · refine ⟨sB, s', .inr ?_, k12.f.trans a6⟩
        rw [hp]
        exact ⟨rfl, a4, .inl ⟨hz2, f16_FFTFT h.l0 f1 (neqF rfl) w1.l2 (gtrF (by omega)) w1.l2 (eqlT rfl) r2 (neqF rfl) w2.l2 a1 a2 a3 (neqT hz2), a5⟩⟩
    · have hp : wPre s nx 0 ct = ((pCreate s (nm nx)).1, (pCreate s (nm nx)).2, nx, 0, ct) := by unfold wPre; rw [if_neg hfull, if_pos rfl, if_pos hz]
      refine ⟨s2, (pCreate s (nm nx)).2, .inl ?_, k12.f⟩
      rw [hp]
      exact ⟨hz, rfl, f16_FFTT h.l0 f1 (neqF rfl) w1.l2 (gtrF (by omega)) w1.l2 (eqlT rfl) r2 (neqT hz), w2⟩
  · have hp : wPre s nx op ct = (0, s, nx, op, ct) := by unfold wPre; rw [if_neg hfull, if_neg h0]
    obtain ⟨sA, sB, s', a1, a2, a3, a4, a5, a6⟩ := wapp_tail w1 hf hU ⟨by omega, ho⟩ hv1 hcl hlt
    by_cases hz2 : appE s (nm op) (frameL data) = 0
    · obtain ⟨s7, b1, b2, b3⟩ := wapp_fin a5 (by omega)
      refine ⟨s7, s', .inr ?_, kf'.f.trans (a6.trans (b3.f.weak (by simp)))⟩
      rw [hp]
      rw [hz2] at a3
      exact ⟨rfl, a4, .inr ⟨hz2, f16_FTFFF h.l0 f1 (neqF rfl) w1.l2 (gtrT (by omega)) w1.l3 (eqlF (by omega)) w1.l2 (eqlF (by omega)) w1.l2 a1 a2 a3 (neqF rfl) a5.l3 (add64 (by omega)) b1 b2.l2, b2⟩⟩
    · refine ⟨sB, s', .inr ?_, kf'.f.trans a6⟩
      rw [hp]
      exact ⟨rfl, a4, .inl ⟨hz2, f16_FTFFT h.l0 f1 (neqF rfl) w1.l2 (gtrT (by omega)) w1.l3 (eqlF (by omega)) w1.l2 (eqlF (by omega)) w1.l2 a1 a2 a3 (neqT hz2), a5⟩⟩
theorem wappend_ok {U : Nat} {data : List Int} (h : WA st w d m s nx op ct) (hf : Fine s U) (hU : U < 1000000000) (hn : 1 ≤ nx ∧ nx ≤ 9) (ho : op ≤ 9) (hct : ct ≤ 8) (h1 : 1 ≤ data.length) (h2 : data.length ≤ 4096) :
    ∃ st' s', WApp (recW data) (frameL data) st w d m s nx op ct st' s' ∧ RestF st st' [d, m, w] := wappend_okF (f := false) h hf hU hn ho hct h1 h2
end
end
section
set_option maxRecDepth 4000
/-- a list that grows by append: none yet, or a row of its own -/
def Ls (st : St) (e sz : Nat) (l : AV) (n : Nat) (cells : List AV) : Prop := (n = 0 ∧ cells = [] ∧ l = .nils) ∨ (0 < n ∧ cells.length = n * sz ∧ ∃ id, l = .sl id sz 0 n false ∧ st.get id = some (.row cells e))
theorem Ls.keep {st st' : St} {e sz n : Nat} {l : AV} {cells : List AV} (h : Ls st e sz l n cells) (hk : ∀ id, l = .sl id sz 0 n false → st.get id = some (.row cells e) → st'.get id = some (.row cells e)) : Ls st' e sz l n cells := by
  rcases h with h | ⟨h1, h2, id, h3, h4⟩
  · exact .inl h
  · exact .inr ⟨h1, h2, id, h3, hk id h3 h4⟩
structure ElT (t e sz : Nat) : Prop where
  el : ∃ ti z, elemA E0 t = some (e, ti, z) ∧ ti.size = sz ∧ ti.bytes ≤ 1000
  str : isStrTy E0 t = false
  src : ∀ st x, srcA E0 st t x = sliceCells st x
theorem elT_of {t e sz : Nat} (h : (elemA E0 t).map (fun q => (q.1, q.2.1.size, decide (q.2.1.bytes ≤ 1000))) = some (e, sz, true)) : ∃ ti z, elemA E0 t = some (e, ti, z) ∧ ti.size = sz ∧ ti.bytes ≤ 1000 := by
  obtain ⟨⟨a, ti, z⟩, h1, h2⟩ := Option.map_eq_some_iff.1 h
  simp only [Prod.mk.injEq, decide_eq_true_eq] at h2
  obtain ⟨rfl, h3, h4⟩ := h2
  exact ⟨ti, z, h1, h3, h4⟩
theorem el55 : ElT 73 3 1 := ⟨elT_of (by kernel_rfl), by kernel_rfl, fun st x => by
  have : E0.ty 73 = some ⟨.slice 3, 1, 24, some (.slice none 0 0)⟩ := by kernel_rfl
  simp only [srcA, this]⟩
theorem app_one {t e sz : Nat} (hT : ElT t e sz) {st3 : St} {l : AV} {n : Nat} {cells c : List AV} (h : Ls st3 e sz l n cells) (hw : st3.wf) (hl : st3.lock = []) (hb : n + 1 ≤ 1000000) (hc : c.length = sz) (h0 : 0 < sz) :
    ∃ st5, appendA E0 (st3.push (.row c e)) t t l (.sl st3.next sz 0 1 true) = some (.sl (st3.next + 1) sz 0 (n + 1) false, st5) ∧ Ls st5 e sz (.sl (st3.next + 1) sz 0 (n + 1) false) (n + 1) (cells ++ c) ∧ st5.lock = [] ∧ st5.next = st3.next + 2 ∧ st5.gl = st3.gl ∧ st5.wf ∧
      ∀ i o, st3.get i = some o → l ≠ .sl i sz 0 n false → st5.get i = some o := by
  obtain ⟨ti, z, h1, h2, h3⟩ := hT.el
  have hx : sliceCells (st3.push (.row c e)) (.sl st3.next sz 0 1 true) = some (1, c) := by
    simp only [sliceCells]
    rw [St.get_push, if_pos rfl]
    simp only [Nat.zero_add, Nat.one_mul, List.drop_zero]
    rw [if_pos (by omega), List.take_of_length_le (by omega)]
  have hbb : (n + 1) * ti.bytes ≤ 140737488355328 := Nat.le_trans (Nat.mul_le_mul hb h3) (by decide)
  have hb1 : 1 * ti.bytes ≤ 140737488355328 := by omega
  rcases h with ⟨rfl, rfl, rfl⟩ | ⟨hn, hlen, id, rfl, hg⟩
  · refine ⟨(st3.push (.row c e)).push (.row c e), ?_, .inr ⟨by omega, by simp [hc], _, rfl, by rw [St.get_push, if_pos (by simp)]; rfl⟩, by simpa using hl, rfl, rfl, push_wf (push_wf hw _) _, fun i o ho _ => ?_⟩
    · simp only [appendA, h1, hT.src, hT.str, hx, h2]
      rw [if_pos ⟨by omega, fun h => by cases h⟩, if_neg (by decide), if_pos ⟨hb1, by omega⟩]; rfl
    · have := hw _ _ ho
      rw [St.get_push, if_neg (by rw [St.next_push]; omega), St.get_push, if_neg (by omega)]; exact ho
  · have hid := hw _ _ hg
    have hg' : (st3.push (.row c e)).get id = some (.row cells e) := by rw [St.get_push, if_neg (by omega)]; exact hg
    refine ⟨((st3.push (.row c e)).del id).push (.row (cells ++ c) e), ?_, .inr ⟨by omega, by rw [List.length_append, hlen, hc, Nat.add_mul, Nat.one_mul], _, rfl, by rw [St.get_push, if_pos (by simp)]⟩, by simpa using hl, rfl, rfl, push_wf (del_wf (push_wf hw _) _) _, fun i o ho hne' => ?_⟩
    · simp only [appendA, h1, hT.src, hT.str, hx, h2, hg']
      rw [if_pos ⟨by omega, fun h => by cases h⟩, if_neg (fun h => h rfl), if_neg (by decide), if_pos ⟨hbb, by omega⟩, if_pos ⟨trivial, by omega⟩]
      simp only [Bool.false_eq_true, if_false]
      rw [if_pos ⟨by omega, by simp [hl]⟩, List.drop_zero]; rfl
    · have := hw _ _ ho
      rw [St.get_push, if_neg (by rw [St.next_del, St.next_push]; omega), St.get_del, if_neg (fun e => hne' (by rw [e])), St.get_push, if_neg (by omega)]; exact ho
theorem build55 (st : St) (k : Int) : buildSliceA E0 st 73 1 [(0, i64 k)] = some (.sl st.next 1 0 1 true, st.push (.row [i64 k] 3)) := by kernel_rfl
/-! ### names of segments -/
theorem nm_ord : ∀ i j : Fin 9, i < j → nb (nm (i.val + 1)) < nb (nm (j.val + 1)) := by decide
theorem nm_may0 : ∀ i : Fin 9, (nm (i.val + 1)).size = 12 ∧ ∀ k : Fin 12, mayC (sg (nm (i.val + 1)) k.val) := by decide
theorem nm_may (i : Fin 9) : mayS (nm (i.val + 1)) := by
  obtain ⟨h1, h2⟩ := nm_may0 i
  exact ⟨by omega, by omega, fun k hk => h2 ⟨k, by omega⟩⟩
theorem nm_lt {i j : Nat} (h : i < j) (hi : 1 ≤ i) (hj : j ≤ 9) : nb (nm i) < nb (nm j) := by
  have := nm_ord ⟨i - 1, by omega⟩ ⟨j - 1, by omega⟩ (by show i - 1 < j - 1; omega)
  rwa [show i - 1 + 1 = i by omega, show j - 1 + 1 = j by omega] at this
theorem nm_ok {i : Nat} (h : 1 ≤ i ∧ i ≤ 9) : mayS (nm i) := by
  have := nm_may ⟨i - 1, by omega⟩
  rwa [show i - 1 + 1 = i by omega] at this
end
section
set_option maxRecDepth 4000
/-- a slice type and its elements' size -/
def SlT (t e sz : Nat) : Prop := (∃ i, E0.ty t = some i ∧ i.desc = .slice e) ∧ tySize E0 e = some sz
theorem sl69 : SlT 101 9 1 := ⟨⟨_, rfl, by kernel_rfl⟩, by kernel_rfl⟩
theorem sl55 : SlT 73 3 1 := ⟨⟨_, rfl, by kernel_rfl⟩, by kernel_rfl⟩
theorem sl22 : SlT 32 22 1 := ⟨⟨_, rfl, by kernel_rfl⟩, by kernel_rfl⟩
theorem sl28 : SlT 43 95 2 := ⟨⟨_, rfl, by kernel_rfl⟩, by kernel_rfl⟩
theorem idxS {t e sz : Nat} (h : SlT t e sz) {f off len i : Nat} {fl : Bool} (hi : i < len) : indexAddrA E0 t (.sl f sz off len fl) (i64 i) = some (.ptr f (off + i * sz)) := by
  obtain ⟨⟨q, h1, h2⟩, h3⟩ := h
  simp only [indexAddrA, h1, h2, h3]
  rw [if_pos ⟨trivial, by omega, by omega⟩]
  rfl
theorem lenS {t e sz : Nat} (h : SlT t e sz) {f z off len : Nat} {fl : Bool} : lenA E0 t (.sl f z off len fl) = some (i64 len) := by
  obtain ⟨⟨q, h1, h2⟩, _⟩ := h
  simp only [lenA, h1, h2]
theorem lenS0 {t e sz : Nat} (h : SlT t e sz) : lenA E0 t .nils = some (i64 0) := by
  obtain ⟨⟨q, h1, h2⟩, _⟩ := h
  simp only [lenA, h1, h2]
theorem Ls.len {t e sz : Nat} (h : SlT t e sz) {st : St} {l : AV} {n : Nat} {cells : List AV} (hl : Ls st e sz l n cells) : lenA E0 t l = some (i64 n) := by
  rcases hl with ⟨rfl, _, rfl⟩ | ⟨_, _, id, rfl, _⟩
  · exact lenS0 h
  · exact lenS h
theorem lenN (st : St) (R : List ByteArray) : lenA E0 101 (namesV st R) = some (i64 R.length) := by
  cases R with
  | nil => exact lenS0 sl69
  | cons a r => exact lenS sl69
theorem names_rest {st : St} (hw : st.wf) (R : List ByteArray) : Rest st (namesS st R) [] := by
  cases R with
  | nil => exact Rest.refl hw _
  | cons a r => exact Rest.push hw _ _
theorem ord_nm {K : List Nat} (hK : K.Pairwise (· < ·)) (h9 : ∀ k ∈ K, 1 ≤ k ∧ k ≤ 9) : Ord (K.map nm) := by
  unfold Ord
  rw [List.pairwise_map]
  exact hK.imp_of_mem fun {a b} ha hb hab => nm_lt hab (h9 a ha).1 (h9 b hb).2
theorem may_nm {K : List Nat} (h9 : ∀ k ∈ K, 1 ≤ k ∧ k ≤ 9) : ∀ n ∈ K.map nm, mayS n := fun n hn => by
  obtain ⟨k, hk, rfl⟩ := List.mem_map.1 hn
  exact nm_ok (h9 k hk)
section
variable {st : St} {w d m nx op ct : Nat} {s : PS}
theorem segments_ok (h : WA st w d m s nx op ct) {K : List Nat} (hperm : (s.L.map PF.name).Perm (K.map nm)) (hK : K.Pairwise (· < ·)) (h9 : ∀ k ∈ K, 1 ≤ k ∧ k ≤ 9) (hlen : K.length ≤ 9) :
    ∃ v st', obC 36 [.ptr w 0] st v st' ∧ Ls st' 3 1 v K.length (K.map fun k => i64 (k : Nat)) ∧ Rest st st' [] ∧ ∀ id, v = .sl id 1 0 K.length false → st.next ≤ id := by
  have k1 := names_ok h.disk hperm (ord_nm hK h9) (by simp; omega) (may_nm h9)
  have R1 := names_rest h.wf (K.map nm)
  have len1 := lenN st (K.map nm)
  rw [List.length_map] at len1
  generalize hs1 : namesS st (K.map nm) = s1 at *
  generalize hv1 : namesV st (K.map nm) = v1 at *
  have turn : ∀ (i : Nat) (p : AV × St), i < K.length → (Rest s1 p.2 [] ∧ Ls p.2 3 1 p.1 i ((K.take i).map fun k => i64 (k : Nat)) ∧ ∀ id, p.1 = .sl id 1 0 i false → s1.next ≤ id) → ∃ p' : AV × St, (Rest s1 p'.2 [] ∧ Ls p'.2 3 1 p'.1 (i + 1) ((K.take (i + 1)).map fun k => i64 (k : Nat)) ∧ ∀ id, p'.1 = .sl id 1 0 (i + 1) false → s1.next ≤ id) ∧
      ∀ T, f36L2 T p.1 v1 (i64 K.length) (i64 i) → AW Tryz.prog (f36P 4) (fun ex T' st' => ex = .normal ∧ f36L2 T' p'.1 v1 (i64 K.length) (i64 (i + 1 : Nat)) ∧ st' = p'.2) T p.2 := fun i ⟨l, σ⟩ hi ⟨hR, hL, hid⟩ => by
    simp only at hR hL hid
    have hki : K[i]? = some K[i] := List.getElem?_eq_getElem hi
    have h9i := h9 K[i] (List.getElem_mem hi)
    have hne : K ≠ [] := fun e => by rw [e] at hi; simp at hi
    obtain ⟨a, r, hal⟩ := List.exists_cons_of_ne_nil hne
    have hnv : v1 = .sl st.next 1 0 K.length false := by rw [← hv1, hal]; simp [namesV]
    have hnr : s1.get st.next = some (.row (K.map fun k => str (nm k)) 9) := by
      rw [← hs1, hal]
      simp only [List.map_cons, namesS]
      rw [St.get_push, if_pos rfl, List.map_map]; rfl
    have hld : loadA E0 σ 9 (.ptr st.next (0 + i * 1)) = some (str (nm K[i])) := load_row (hR.keep _ _ (by simp) hnr) (p9 (by rw [Nat.zero_add, Nat.mul_one, List.getElem?_map, hki]; rfl))
    obtain ⟨σ1, n1, N1⟩ := number_ok h9i hR.wf
    have hl1 : σ1.lock = [] := N1.lock.trans (hR.lock.trans (R1.lock.trans h.lock))
    have hL1 : Ls σ1 3 1 l i ((K.take i).map fun k => i64 (k : Nat)) := hL.keep fun id _ hg => N1.keep _ _ (by simp) hg
    obtain ⟨σ5, a1, a2, a3, a4, a5, a6, a7⟩ := app_one (c := [i64 (K[i] : Nat)]) el55 hL1 N1.wf hl1 (by omega) rfl (by decide)
    have htk : (K.take (i + 1)).map (fun k => i64 (k : Nat)) = (K.take i).map (fun k => i64 (k : Nat)) ++ [i64 (K[i] : Nat)] := by
      rw [List.take_add_one, hki, List.map_append]; rfl
    have hx1 : s1.next ≤ σ1.next := Nat.le_trans hR.next N1.next
    refine ⟨(.sl (σ1.next + 1) 1 0 (i + 1) false, σ5), ⟨⟨fun j o hj ho => ?_, by rw [a4]; omega, by rw [a3, R1.lock, h.lock], by rw [a5, N1.gl, hR.gl], a6⟩, by rw [htk]; exact a2, fun id e => by cases e; omega⟩, fun T hT => ?_⟩
    · refine a7 j o (N1.keep _ _ (by simp) (hR.keep _ _ (by simp) ho)) fun e => ?_
      have h1 := hid j e
      have hj2 : j < s1.next := R1.wf _ _ ho
      omega
    · exact f36_4_TT (lssT (by omega)) (by rw [hnv]; exact idxS sl69 hi) hld n1 (gtrT (by omega)) (build55 _ _) a1 (add64 (by omega)) hT
  obtain ⟨c, c0, inv, step⟩ := chain_seq (σ := AV × St) (fun i p => Rest s1 p.2 [] ∧ Ls p.2 3 1 p.1 i ((K.take i).map fun k => i64 (k : Nat)) ∧ ∀ id, p.1 = .sl id 1 0 i false → s1.next ≤ id)
    (fun i p p' => ∀ T, f36L2 T p.1 v1 (i64 K.length) (i64 i) → AW Tryz.prog (f36P 4) (fun ex T' st' => ex = .normal ∧ f36L2 T' p'.1 v1 (i64 K.length) (i64 (i + 1 : Nat)) ∧ st' = p'.2) T p.2) K.length (.nils, s1) ⟨Rest.refl R1.wf _, .inl ⟨rfl, by simp, rfl⟩, fun id e => by cases e⟩ turn
  obtain ⟨e1, e2, e3⟩ := inv K.length (Nat.le_refl _)
  rw [List.take_of_length_le (Nat.le_refl _)] at e2
  refine ⟨(c K.length).1, (c K.length).2, ?_, e2, R1.trans e1, fun id e => by have := e3 id e; have := R1.next; omega⟩
  refine ACalls.body (E := E0) hE Tryz.func36 f36body ?_
  refine AW.andThen (f36_0 ⟨rfl, rfl⟩) fun T1 q1 => ?_
  refine AW.andThen (f36_1 q1) fun T2 q2 => ?_
  refine AW.andThen (f36_2 q2) fun T3 q3 => ?_
  refine AW.andThen (AW.andThen (f36_3 h.l0 k1 len1 q3) fun T4 q4 => AW.turns (In := fun i T => f36L2 T (c i).1 v1 (i64 K.length) (i64 i)) (L := fun T => f36L3 T (c K.length).1) (c := fun i => (c i).2) (n := K.length) (sf := (c K.length).2) (by rw [c0]) (by rw [c0]; exact q4) (fun i hi T hT => step i hi T hT) (fun T hT => f36_4_F (lssF (by omega)) hT)) fun T5 q5 => ?_
  refine AW.atRet (f36_5 q5) fun T6 q6 => ?_
  refine ⟨[T6.get 2], rfl, ?_⟩
  simp only [oneOrTup]
  exact ⟨q6.2, trivial⟩
end
end
section
set_option maxRecDepth 4000
theorem el28' : ElT 43 95 2 := ⟨elT_of (by kernel_rfl), by kernel_rfl, fun st x => by
  obtain ⟨⟨q, h1, h2⟩, _⟩ := sl28
  simp only [srcA, h1, h2]⟩
theorem build39 (k : Int) (n : Nat) (f : Bool) (c : List AV) : buildA E0 95 [(0, i64 k), (1, .imm 1 n f c)] = some (.agg [i64 k, .imm 1 n f c]) := by kernel_rfl
theorem build28 (st : St) (k : Int) (n : Nat) (f : Bool) (c : List AV) : buildSliceA E0 st 43 1 [(0, .agg [i64 k, .imm 1 n f c])] = some (.sl st.next 2 0 1 true, st.push (.row [i64 k, .imm 1 n f c] 95)) := by kernel_rfl
/-- all that stood stands, but for one list -/
structure KX (l : AV) (sz n : Nat) (st st' : St) : Prop where
  keep : ∀ i o, st.get i = some o → l ≠ .sl i sz 0 n false → st'.get i = some o
  next : st.next ≤ st'.next
  lock : st'.lock = st.lock
  gl : st'.gl = st.gl
  wf : st'.wf
def recC (k : Nat) (r : List Int) : List AV := [i64 k, recA r]
theorem recs_loop {σ0 : St} {l : AV} {n : Nat} {cells : List AV} {R : List (List Int)} {v46 v25 : AV} {k d w : Nat} {n26 n27 : Int} (hL : Ls σ0 95 2 l n cells) (hR : LR σ0 v46 R) (hw : σ0.wf) (hl : σ0.lock = []) (hb : n + R.length ≤ 1000000) :
    ∃ l' σ', Ls σ' 95 2 l' (n + R.length) (cells ++ R.flatMap (recC k)) ∧ KX l 2 n σ0 σ' ∧ (l' = l ∨ ∀ id, l' = .sl id 2 0 (n + R.length) false → σ0.next ≤ id) ∧
      ∀ T, f14L11 T (.ptr d 0) (.ptr w 0) l (i64 k) v25 (i64 n26) (i64 n27) v46 (i64 R.length) (i64 0) → AW Tryz.prog (.block 3 (.loop (f14P 12))) (fun ex T' s => ex = .normal ∧ f14L7 T' (.ptr d 0) (.ptr w 0) l' (i64 k) v25 (i64 n26) (i64 n27) ∧ s = σ') T σ0 := by
  let Inv : Nat → AV × St → Prop := fun i p => Ls p.2 95 2 p.1 (n + i) (cells ++ (R.take i).flatMap (recC k)) ∧ KX l 2 n σ0 p.2 ∧ ((i = 0 ∧ p.1 = l) ∨ ∃ id, p.1 = .sl id 2 0 (n + i) false ∧ σ0.next ≤ id)
  let Rel : Nat → AV × St → AV × St → Prop := fun i p p' => ∀ T, f14L11 T (.ptr d 0) (.ptr w 0) p.1 (i64 k) v25 (i64 n26) (i64 n27) v46 (i64 R.length) (i64 i) → AW Tryz.prog (f14P 12) (fun ex T' s => ex = .normal ∧ f14L11 T' (.ptr d 0) (.ptr w 0) p'.1 (i64 k) v25 (i64 n26) (i64 n27) v46 (i64 R.length) (i64 (i + 1 : Nat)) ∧ s = p'.2) T p.2
  have turn : ∀ i p, i < R.length → Inv i p → ∃ p', Inv (i + 1) p' ∧ Rel i p p' := fun i ⟨q, σ⟩ hi ⟨h1, h2, h3⟩ => by
    simp only at h1 h2 h3
    have hri : R[i]? = some R[i] := List.getElem?_eq_getElem hi
    rcases hR with ⟨e, _⟩ | ⟨hne, id, rfl, hg⟩
    · rw [e] at hi; simp at hi
    have hnl : l ≠ .sl id 2 0 n false := fun e => by
      rcases hL with ⟨_, _, h⟩ | ⟨_, _, j, h, hj⟩
      · rw [h] at e; cases e
      · rw [h] at e; cases e
        rw [hg] at hj; simp at hj
    have hgσ := h2.keep _ _ hg hnl
    have hld : loadA E0 σ 22 (.ptr id (0 + i * 1)) = some (recA R[i]) := load_row hgσ (part24 (by rw [Nat.zero_add, Nat.mul_one, List.getElem?_map, hri]; rfl))
    obtain ⟨σ5, a1, a2, a3, a4, a5, a6, a7⟩ := app_one (c := recC k R[i]) el28' h1 h2.wf (h2.lock.trans hl) (by omega) rfl (by decide)
    have hfm : (R.take (i + 1)).flatMap (recC k) = (R.take i).flatMap (recC k) ++ recC k R[i] := by
      rw [List.take_add_one, hri, List.flatMap_append]; simp
    refine ⟨(.sl (σ.next + 1) 2 0 (n + i + 1) false, σ5), ⟨by rw [hfm, ← List.append_assoc]; exact a2, ⟨fun j o ho hj => a7 j o (h2.keep j o ho hj) fun e => ?_, by show σ0.next ≤ σ5.next; have := h2.next; omega, by rw [a3, hl], by rw [a5, h2.gl], a6⟩, .inr ⟨_, rfl, by have := h2.next; omega⟩⟩, fun T hT => ?_⟩
    · rcases h3 with ⟨rfl, e2⟩ | ⟨id', e2, hid⟩
      · rw [e2] at e; exact hj e
      · rw [e2] at e; cases e
        have := hw _ _ ho; omega
    · exact f14_12_T (lssT (by omega)) (idxS sl22 hi) hld (build39 _ _ _ _) (build28 _ _ _ _ _) a1 (add64 (by omega)) hT
  obtain ⟨c, c0, inv, step⟩ := chain_seq Inv Rel R.length (l, σ0) ⟨by simpa using hL, ⟨fun i o ho _ => ho, Nat.le_refl _, rfl, rfl, hw⟩, .inl ⟨rfl, rfl⟩⟩ turn
  obtain ⟨e1, e2, e3⟩ := inv R.length (Nat.le_refl _)
  rw [List.take_of_length_le (Nat.le_refl _)] at e1
  refine ⟨(c R.length).1, (c R.length).2, e1, e2, ?_, fun T hT => AW.turns (In := fun i T => f14L11 T (.ptr d 0) (.ptr w 0) (c i).1 (i64 k) v25 (i64 n26) (i64 n27) v46 (i64 R.length) (i64 i)) (L := fun T => f14L7 T (.ptr d 0) (.ptr w 0) (c R.length).1 (i64 k) v25 (i64 n26) (i64 n27)) (c := fun i => (c i).2) (n := R.length) (sf := (c R.length).2) (by rw [c0]) (by rw [c0]; exact hT) (fun i hi T hT => step i hi T hT) (fun T hT => f14_12_F (lssF (by omega)) hT)⟩
  rcases e3 with ⟨_, h⟩ | ⟨id, h, hid⟩
  · exact .inl h
  · exact .inr fun j e => by rw [h] at e; cases e; exact hid
end
section
set_option maxRecDepth 4000
theorem AW.blockN {P : Program} {c : Code} {id : Nat} {L : Tm → Prop} {T : Tm} {st s : St} (h : AW P c (fun ex T' st' => ex = .normal ∧ L T' ∧ st' = s) T st) : AW P (.block id c) (fun ex T' st' => ex = .normal ∧ L T' ∧ st' = s) T st :=
  .block (h.mono fun ex T' st' ⟨h1, h2, h3⟩ => by subst h1; exact ⟨rfl, h2, h3⟩)
theorem frz_i64s (id : Nat) (vs : List AV) (K : List Nat) : frzL id vs (K.map fun k => i64 (k : Nat)) = K.map fun k => i64 (k : Nat) := by
  rw [frzL_eq, List.map_map]
  exact List.map_congr_left fun _ _ => rfl
def recs (B : Nat → List Int) (k : Nat) : List (List Int) := splitN (B k).length (B k)
def cellsK (B : Nat → List Int) (K : List Nat) : List AV := K.flatMap fun k => (recs B k).flatMap (recC k)
def numK (B : Nat → List Int) (K : List Nat) : Nat := (K.map fun k => (recs B k).length).sum
def nxtK (K : List Nat) (i : Nat) : Nat := if i = 0 then 1 else K.getD (i - 1) 0 + 1
theorem frzL_app (id : Nat) (vs a b : List AV) : frzL id vs (a ++ b) = frzL id vs a ++ frzL id vs b := by rw [frzL_eq, frzL_eq, frzL_eq, List.map_append]
theorem frz_recC (id : Nat) (vs : List AV) (k : Nat) : ∀ R : List (List Int), frzL id vs (R.flatMap (recC k)) = R.flatMap (recC k)
  | [] => rfl
  | r :: R => by
    rw [List.flatMap_cons, frzL_app, frz_recC id vs k R]
    congr 1
    simp only [recC, frzL, frz, recA, frz_u8]
theorem frz_cellsK (id : Nat) (vs : List AV) (B : Nat → List Int) : ∀ K : List Nat, frzL id vs (cellsK B K) = cellsK B K
  | [] => rfl
  | k :: K => by
    have := frz_cellsK id vs B K
    unfold cellsK at this ⊢
    rw [List.flatMap_cons, frzL_app, this, frz_recC]
theorem Ls.restF {st st' : St} {e sz n : Nat} {l : AV} {cells : List AV} (h : Ls st e sz l n cells) (hr : RestF st st' []) (hf : ∀ id vs, frzL id vs cells = cells) : Ls st' e sz l n cells :=
  h.keep fun id _ hg => hr.keep id _ (by simp) hg fun i vs _ => by simp only [frzO, hf]
theorem KX.restF {l : AV} {sz n : Nat} {s0 σ σ' : St} {S : List Nat} (h : RestF s0 σ S) (k : KX l sz n σ σ') (hid : ∀ id, l = .sl id sz 0 n false → s0.next ≤ id) (hw0 : s0.wf) : RestF s0 σ' S :=
  ⟨fun i o hi ho hp => k.keep i o (h.keep i o hi ho hp) fun e => by have := hid i e; have := hw0 _ _ ho; omega, Nat.le_trans h.next k.next, k.lock.trans h.lock, k.gl.trans h.gl, k.wf⟩
end
section
set_option maxRecDepth 4000
theorem calm_map {L : List PF} (hd : ∀ f ∈ L, DV f) (n : Nat) (bs : List Nat) (c : Nat) : Calm n (.map (L.map ent) bs c) := fun id vs _ => by
  show AObj.map ((L.map ent).map fun p => (frz id vs p.1, frz id vs p.2)) bs c = _
  congr 1
  rw [List.map_map]
  refine List.map_congr_left fun f hf => ?_
  show (frz id vs (str f.name), AV.agg (frzL id vs [f.dv, i64 f.last])) = _
  simp only [frzL, frz_dv (id := id) (vs := vs) (hd f hf)]
  rfl
theorem PD.restF {st st' : St} {d m : Nat} {s : PS} (h : PDs st d m s) (hg : ∀ f ∈ s.L, DV f) {S : List Nat} (hr : RestF st st' S) (h1 : d ∉ S) (h2 : m ∉ S) : PDs st' d m s := by
  obtain ⟨bs, c, hm⟩ := h.map
  exact ⟨hr.keep _ _ h1 h.row (fun id vs _ => rfl), bs, c, hr.keep _ _ h2 hm (calm_map hg _ bs c)⟩
/-- the disk's files are the segments of K, with the bytes B -/
structure Segs (s : PS) (K : List Nat) (B : Nat → List Int) : Prop where
  perm : (s.L.map PF.name).Perm (K.map nm)
  inc : K.Pairwise (· < ·)
  r9 : ∀ k ∈ K, 1 ≤ k ∧ k ≤ 9
  len : K.length ≤ 9
  file : ∀ k ∈ K, ∃ j f, find (nm k) s.L = some j ∧ s.L[j]? = some f ∧ f.bytes = B k
theorem Segs.rd {s : PS} {K : List Nat} {B : Nat → List Int} (h : Segs s K B) (hoff : s.off = false) {k : Nat} (hk : k ∈ K) : rdE s.L s.off true (nm k) = 0 := by
  obtain ⟨j, f, h1, _, _⟩ := h.file k hk
  unfold rdE
  rw [hoff, if_neg (by simp), if_neg (fun h' => h' (nm_ok (h.r9 k hk))), if_neg (by rw [h1]; simp)]
structure OpI (σs : St) (w d : Nat) (K : List Nat) (B : Nat → List Int) (i : Nat) (l : AV) (σ : St) : Prop where
  ls : Ls σ 95 2 l (numK B (K.take i)) (cellsK B (K.take i))
  keep : RestF σs σ [w]
  row : σ.get w = some (.row [.ptr d 0, i64 (nxtK K i), i64 (0 : Nat), i64 (0 : Nat)] 93)
  lid : ∀ id, l = .sl id 2 0 (numK B (K.take i)) false → σs.next ≤ id
theorem LR.len {st : St} {l : AV} {R : List (List Int)} (h : LR st l R) : lenA E0 32 l = some (i64 R.length) := by
  rcases h with ⟨rfl, rfl⟩ | ⟨_, id, rfl, _⟩
  · exact lenS0 sl22
  · exact lenS sl22
theorem open_turn {σs : St} {w d m : Nat} {s : PS} {K : List Nat} {B : Nat → List Int} {U : Nat} (hS : Segs s K B) (hp : PDs σs d m s) {vs0 : List AV} (hwr : σs.get w = some (.row vs0 93)) (hwd : w ≠ d) (hwm : w ≠ m) (hw : σs.wf) (hl : σs.lock = []) (hf : Fine s U) (hU : U ≤ 1000000) (hoff : s.off = false) (hN : numK B K ≤ 1000000) {v25 : AV} (hv : Ls σs 3 1 v25 K.length (K.map fun k => i64 (k : Nat)))
    {i : Nat} (hi : i < K.length) {l : AV} {σ : St} (hI : OpI σs w d K B i l σ) :
    ∃ l' σ', OpI σs w d K B (i + 1) l' σ' ∧ ∀ T, f14L4 T (.ptr d 0) (.ptr w 0) l v25 (i64 K.length) (i64 i) →
      AW Tryz.prog (.seq (f14P 5) (.seq (f14P 6) (.seq (.block 2 (.seq (f14P 7) (.seq (f14P 8) (.seq (f14P 9) (.seq (f14P 10) (.seq (.seq (f14P 11) (.block 3 (.loop (f14P 12)))) (f14P 13))))))) (f14P 14)))) (fun ex T' s => ex = .normal ∧ f14L4 T' (.ptr d 0) (.ptr w 0) l' v25 (i64 K.length) (i64 (i + 1 : Nat)) ∧ s = σ') T σ := by
  have hki : K[i]? = some K[i] := List.getElem?_eq_getElem hi
  have hmem := List.getElem_mem hi
  have hk9 := hS.r9 _ hmem
  have hi9 : i < 9 := Nat.lt_of_lt_of_le hi hS.len
  generalize hk : K[i] = k at *
  rcases hv with ⟨e, _⟩ | ⟨_, _, id25, rfl, hg25⟩
  · rw [e] at hi; omega
  have hg25σ := hI.keep.keep id25 _ (by
    simp only [List.mem_singleton]
    intro e; rw [e, hwr] at hg25; simp at hg25) hg25 (fun id vs _ => by simp only [frzO, frz_i64s])
  have hld : loadA E0 σ 3 (.ptr id25 (0 + i * 1)) = some (i64 k) := load_row hg25σ (p3 (by rw [Nat.zero_add, Nat.mul_one, List.getElem?_map, hki]; rfl))
  obtain ⟨σ1, n1, N1⟩ := name_ok hk9 hI.keep.wf
  have hpσ := PD.restF hp (fun f hf' => (hf.good.dv f hf').1) hI.keep (by simp [hwd.symm]) (by simp [hwm.symm])
  have hp1 := PD.rest hpσ N1
  have hl1 : σ1.lock = [] := N1.lock.trans (hI.keep.lock.trans hl)
  obtain ⟨v, σ2, r2, R2, hv2⟩ := read_ok hp1 N1.wf hl1 hf.good (by have := hf.used; unfold big; omega) (nm k)
  rw [hS.rd hoff hmem] at r2 hv2
  rcases hv2 with ⟨h0, _⟩ | ⟨_, j, f, f1, f2, hown, _⟩
  · exact absurd rfl h0
  obtain ⟨j', f', g1, g2, g3⟩ := hS.file k hmem
  obtain rfl : j = j' := by rw [f1] at g1; exact Option.some.inj g1
  obtain rfl : f = f' := by rw [f2] at g2; exact Option.some.inj g2
  rw [g3] at hown
  have hBl : (B k).length ≤ 1000000 := by
    have : f.bytes.length ≤ usedL s.L := by
      have := usedL_put (f' := ⟨f.name, .nils, [], 0⟩) f2
      simp only [List.length_nil] at this
      omega
    rw [← g3]; have := hf.used; omega
  have hl2 : σ2.lock = [] := R2.lock.trans hl1
  obtain ⟨v46, σ3, r3, hL3, R3, _⟩ := split_own R2.wf hl2 hown hBl
  have hls3 : Ls σ3 95 2 l (numK B (K.take i)) (cellsK B (K.take i)) := (((hI.ls.keep fun id _ hg => N1.keep _ _ (by simp) hg).keep fun id _ hg => R2.keep _ _ (by simp) hg)).restF R3 fun id vs => frz_cellsK id vs B _
  have htk : K.take (i + 1) = K.take i ++ [k] := by rw [List.take_add_one, hki]; rfl
  have hnum : numK B (K.take (i + 1)) = numK B (K.take i) + (recs B k).length := by rw [htk]; simp [numK]
  have hnle : numK B (K.take (i + 1)) ≤ numK B K := by
    have : numK B K = numK B (K.take (i + 1)) + numK B (K.drop (i + 1)) := by
      unfold numK
      conv => lhs; rw [← List.take_append_drop (i + 1) K]
      rw [List.map_append, List.sum_append]
    omega
  have hcell : cellsK B (K.take (i + 1)) = cellsK B (K.take i) ++ (recs B k).flatMap (recC k) := by rw [htk]; simp [cellsK]
  have hl3 : σ3.lock = [] := R3.lock.trans hl2
  obtain ⟨l', σ4, a1, a2, a4, a3⟩ := recs_loop (k := k) (d := d) (w := w) (v25 := .sl id25 1 0 K.length false) (n26 := K.length) (n27 := i) hls3 hL3 R3.wf hl3 (by rw [show (splitN (B k).length (B k)) = recs B k from rfl]; omega)
  have K03 : RestF σs σ3 [w] := ((hI.keep.trans (N1.f.weak (by simp))).trans (R2.f.weak (by simp))).trans (R3.weak (by simp))
  have K04 : RestF σs σ4 [w] := KX.restF K03 a2 hI.lid hw
  have hwn : w < σs.next := hw _ _ hwr
  have hw4 : σ4.get w = some (.row [.ptr d 0, i64 (nxtK K i), i64 (0 : Nat), i64 (0 : Nat)] 93) :=
    a2.keep w _ (R3.keep w _ (by simp) (R2.keep _ _ (by simp) (N1.keep _ _ (by simp) hI.row)) fun _ _ _ => rfl) fun e => by have := hI.lid w e; omega
  have hl4 : σ4.lock = [] := a2.lock.trans hl3
  have hst := storeWl hw4 hl4 (k := 1) (by simp) (k + 1 : Nat)
  have K5 : Rest σ4 (σ4.set w (.row ([.ptr d 0, i64 (nxtK K i), i64 (0 : Nat), i64 (0 : Nat)].set 1 (i64 (k + 1 : Nat))) 93)) [w] := Rest.set a2.wf (a2.wf _ _ hw4) _ (by simp)
  have hnx : nxtK K (i + 1) = k + 1 := by
    unfold nxtK
    rw [if_neg (by omega), Nat.add_sub_cancel, List.getD_eq_getElem?_getD, hki]; rfl
  refine ⟨l', _, ⟨?_, K04.trans K5.f, by rw [St.get_set, if_pos rfl, hnx]; rfl, fun id e => ?_⟩, fun T hT => ?_⟩
  · rw [hnum, hcell]
    exact Ls.keep a1 fun id _ hg => by
      rw [St.get_set, if_neg (fun e => by rw [e, hw4] at hg; simp at hg)]; exact hg
  · rcases a4 with e2 | a4
    · rw [e2] at e
      rcases hI.ls with ⟨_, _, h0⟩ | ⟨_, _, id', h0, _⟩
      · rw [h0] at e; cases e
      · have hx := hI.lid id' h0
        rw [h0] at e
        simp only [AV.sl.injEq] at e
        omega
    · have := a4 id (by rw [e, hnum]; rfl)
      have := K03.next
      omega
  · refine AW.andThen (f14_5_T (lssT (by omega)) hT) fun T1 q1 => AW.andThen (f14_6_T q1) fun T2 q2 => ?_
    refine AW.andThen (AW.blockN (L := fun T => f14L4 T (.ptr d 0) (.ptr w 0) l' (.sl id25 1 0 K.length false) (i64 K.length) (i64 i)) ?_) fun T9 q9 => f14_14 (add64 (by omega)) q9
    refine AW.andThen (f14_7 (idxS sl55 hi) hld q2) fun T3 q3 => AW.andThen (f14_8 n1 q3) fun T4 q4 => AW.andThen (f14_9 r2 q4) fun T5 q5 => AW.andThen (f14_10_F (neqF rfl) q5) fun T6 q6 => ?_
    exact AW.andThen (AW.andThen (f14_11 r3 hL3.len q6) fun T7 q7 => a3 T7 q7) fun T8 q8 => f14_13 (add64 (by omega)) hst q8
end
section
set_option maxRecDepth 4000
theorem AW.seqExit {P : Program} {a b : Code} {k : Nat} {L : Tm → Prop} {T : Tm} {st s : St} (h : AW P a (fun ex T' st' => ex = .exit k ∧ L T' ∧ st' = s) T st) : AW P (.seq a b) (fun ex T' st' => ex = .exit k ∧ L T' ∧ st' = s) T st :=
  .seq (h.mono fun ex T' st' ⟨h1, h2, h3⟩ => by subst h1; exact ⟨rfl, h2, h3⟩)
theorem build54 (d : Nat) : buildA E0 93 [(0, .ptr d 0), (1, i64 1)] = some (.agg [.ptr d 0, i64 1, i64 0, i64 0]) := by kernel_rfl
theorem box54 (st : St) (d : Nat) : boxA st 93 (.agg [.ptr d 0, i64 1, i64 0, i64 0]) = some (.ptr st.next 0, st.push (.row [.ptr d 0, i64 1, i64 0, i64 0] 93)) := by kernel_rfl
theorem open_ok {st : St} {d m : Nat} {s : PS} {K : List Nat} {B : Nat → List Int} {U : Nat} (hS : Segs s K B) (hp : PDs st d m s) (hw : st.wf) (hl : st.lock = []) (hf : Fine s U) (hU : U ≤ 1000000) (hoff : s.off = false) (hN : numK B K ≤ 1000000) :
    ∃ v st', obC 14 [.ptr d 0] st (.tup [.ptr st.next 0, v, i64 0]) st' ∧ WA st' st.next d m s (nxtK K K.length) 0 0 ∧ Ls st' 95 2 v (numK B K) (cellsK B K) ∧ RestF st st' [] ∧ ∀ id, v = .sl id 2 0 (numK B K) false → st.next ≤ id := by
  have hob := off_ok hp
  rw [hoff] at hob
  have R1 : Rest st (st.push (.row [.ptr d 0, i64 (1 : Nat), i64 (0 : Nat), i64 (0 : Nat)] 93)) [] := Rest.push hw _ _
  have W1 : WA (st.push (.row [.ptr d 0, i64 (1 : Nat), i64 (0 : Nat), i64 (0 : Nat)] 93)) st.next d m s 1 0 0 := ⟨PD.rest hp R1, by rw [St.get_push, if_pos rfl], R1.wf, hl⟩
  have hbx := box54 st d
  have hnx1 : (st.push (.row [.ptr d 0, i64 (1 : Nat), i64 (0 : Nat), i64 (0 : Nat)] 93)).next = st.next + 1 := rfl
  change boxA st 93 (.agg [.ptr d 0, i64 1, i64 0, i64 0]) = some (.ptr st.next 0, st.push (.row [.ptr d 0, i64 (1 : Nat), i64 (0 : Nat), i64 (0 : Nat)] 93)) at hbx
  generalize st.push (.row [.ptr d 0, i64 (1 : Nat), i64 (0 : Nat), i64 (0 : Nat)] 93) = s1 at *
  obtain ⟨v25, s2, b1, b2, b3, _⟩ := segments_ok W1 hS.perm hS.inc hS.r9 hS.len
  have W2 := W1.rest b3
  obtain ⟨c, c0, inv, step⟩ := chain_seq (σ := AV × St) (fun i p => OpI s2 st.next d K B i p.1 p.2)
    (fun i p p' => ∀ T, f14L4 T (.ptr d 0) (.ptr st.next 0) p.1 v25 (i64 K.length) (i64 i) →
      AW Tryz.prog (.seq (f14P 5) (.seq (f14P 6) (.seq (.block 2 (.seq (f14P 7) (.seq (f14P 8) (.seq (f14P 9) (.seq (f14P 10) (.seq (.seq (f14P 11) (.block 3 (.loop (f14P 12)))) (f14P 13))))))) (f14P 14)))) (fun ex T' s => ex = .normal ∧ f14L4 T' (.ptr d 0) (.ptr st.next 0) p'.1 v25 (i64 K.length) (i64 (i + 1 : Nat)) ∧ s = p'.2) T p.2) K.length (.nils, s2)
    ⟨.inl ⟨by simp [numK], by simp [cellsK], rfl⟩, RestF.refl b3.wf _, W2.row, fun id e => by cases e⟩
    (fun i p hi hI => by
      obtain ⟨l', σ', h1, h2⟩ := open_turn hS W2.disk W2.row W2.wd W2.wm W2.wf W2.lock hf hU hoff hN b2 hi hI
      exact ⟨(l', σ'), h1, h2⟩)
  have hI := inv K.length (Nat.le_refl _)
  have hKt : K.take K.length = K := List.take_of_length_le (Nat.le_refl _)
  have hls := hI.ls
  have hlid := hI.lid
  rw [hKt] at hls hlid
  have R12 : RestF st s2 [] := (R1.trans b3).f
  have R02 : RestF st (c K.length).2 [] := R12.old hI.keep (fun i hi => by rw [List.mem_singleton.1 hi]; exact .inr (Nat.le_refl _)) hw
  refine ⟨(c K.length).1, (c K.length).2, ?_, ⟨PD.restF W2.disk (fun f h => (hf.good.dv f h).1) hI.keep (by simp [W2.wd.symm]) (by simp [W2.wm.symm]), hI.row, hI.keep.wf, hI.keep.lock.trans W2.lock⟩, hls, R02, fun id e => by have := hlid id e; have := R12.next; omega⟩
  refine ACalls.body (E := E0) hE Tryz.func14 f14body ?_
  refine AW.andThen (f14_0 ⟨rfl, rfl⟩) fun T1 q1 => ?_
  refine AW.andThen (f14_1_F hob q1) fun T2 q2 => ?_
  refine AW.andThen (f14_2 (build54 d) hbx q2) fun T3 q3 => ?_
  refine AW.andThen (f14_3 q3) fun T4 q4 => ?_
  refine AW.andThen (AW.andThen (f14_4 b1 (Ls.len sl55 b2) q4) fun T5 q5 => AW.turns (In := fun i T => f14L4 T (.ptr d 0) (.ptr st.next 0) (c i).1 v25 (i64 K.length) (i64 i)) (L := fun T => f14L6 T (.ptr st.next 0) (c K.length).1) (c := fun i => (c i).2) (n := K.length) (sf := (c K.length).2) (by rw [c0]) (by rw [c0]; exact q5) (fun i hi T hT => step i hi T hT)
    (fun T hT => AW.andThen (f14_5_F (lssF (by omega)) hT) fun T6 q6 => AW.seqExit (f14_6_F q6))) fun T7 q7 => ?_
  refine AW.atRet (f14_15 q7) fun T8 q8 => ?_
  refine ⟨[T8.get 2, T8.get 3, T8.get 4], rfl, ?_⟩
  simp only [oneOrTup]
  exact ⟨by rw [q8.2.1, q8.2.2.1, q8.2.2.2], trivial⟩
end
section
set_option maxRecDepth 4000
theorem nodup_nm {K : List Nat} (hK : K.Pairwise (· < ·)) (h9 : ∀ k ∈ K, 1 ≤ k ∧ k ≤ 9) : (K.map nm).Nodup := by
  unfold List.Nodup
  rw [List.pairwise_map]
  refine hK.imp_of_mem fun {a b} ha hb hab e => ?_
  have := nm_lt hab (h9 a ha).1 (h9 b hb).2
  rw [e] at this
  exact absurd this (List.lt_irrefl _)
theorem nm_inj {i j : Nat} (hi : 1 ≤ i ∧ i ≤ 9) (hj : 1 ≤ j ∧ j ≤ 9) (e : nm i = nm j) : i = j := by
  rcases Nat.lt_trichotomy i j with h | h | h
  · have := nm_lt h hi.1 hj.2; rw [e] at this; exact absurd this (List.lt_irrefl _)
  · exact h
  · have := nm_lt h hj.1 hi.2; rw [e] at this; exact absurd this (List.lt_irrefl _)
theorem Segs.nodup {s : PS} {K : List Nat} {B : Nat → List Int} (h : Segs s K B) : (s.L.map PF.name).Nodup := h.perm.nodup_iff.2 (nodup_nm h.inc h.r9)
theorem pRemove_eq {s : PS} {K : List Nat} {B : Nat → List Int} (h : Segs s K B) (hfu : s.fu = 0) (hoff : s.off = false) {k j : Nat} (hk : k ∈ K) (hj : find (nm k) s.L = some j) : pRemove s (nm k) = (0, { s with L := s.L.eraseIdx j }) := by
  unfold pRemove
  rw [if_neg (by rw [h.rd hoff hk]; simp), if_neg (by rw [hfu]; decide), hj]
  simp only [burnt, burnN, burnB, hfu, Option.getD_some]
  cases s; simp only at hfu hoff; subst hfu; subst hoff; rfl
theorem perm_eraseIdx {α : Type} : ∀ {L : List α} {j : Nat} {f : α}, L[j]? = some f → L.Perm (f :: L.eraseIdx j)
  | [], j, f, h => by simp at h
  | a :: r, 0, f, h => by
    simp only [List.getElem?_cons_zero, Option.some.injEq] at h
    subst h; exact .refl _
  | a :: r, j + 1, f, h => by
    rw [List.getElem?_cons_succ] at h
    rw [List.eraseIdx_cons_succ]
    exact ((perm_eraseIdx h).cons a).trans (.swap _ _ _)
theorem Segs.remove {s : PS} {K : List Nat} {B : Nat → List Int} (h : Segs s K B) {k j : Nat} (hk : k ∈ K) (hj : find (nm k) s.L = some j) : Segs { s with L := s.L.eraseIdx j } (K.erase k) B := by
  obtain ⟨f, hf, hn⟩ := find_some hj
  have hsub : (K.erase k).Sublist K := List.erase_sublist
  have hKn : K.Nodup := h.inc.imp fun {a b} hab => Nat.ne_of_lt hab
  have hp1 : (s.L.map PF.name).Perm (nm k :: (K.erase k).map nm) := h.perm.trans ((List.perm_cons_erase hk).map nm)
  have hp2 : (s.L.map PF.name).Perm (nm k :: (s.L.eraseIdx j).map PF.name) := by
    have h2 := (perm_eraseIdx hf).map PF.name
    rw [List.map_cons, hn] at h2
    exact h2
  refine ⟨(hp2.symm.trans hp1).cons_inv, h.inc.sublist hsub, fun i hi => h.r9 i (hsub.subset hi), Nat.le_trans hsub.length_le h.len, fun i hi => ?_⟩
  have hne : i ≠ k := fun e => by rw [e] at hi; exact (List.Nodup.not_mem_erase hKn) hi
  obtain ⟨j', f', g1, g2, g3⟩ := h.file i (hsub.subset hi)
  have hnm : f'.name = nm i := by obtain ⟨f2, a, b⟩ := find_some g1; rw [g2] at a; cases a; exact b
  have hjj : j' ≠ j := fun e => by
    rw [e, hf] at g2; cases g2
    rw [hn] at hnm
    exact hne (nm_inj (h.r9 _ (hsub.subset hi)) (h.r9 _ hk) hnm.symm)
  have hmem : f' ∈ s.L.eraseIdx j := List.mem_eraseIdx_iff_getElem?.2 ⟨j', hjj, g2⟩
  obtain ⟨q, hq⟩ := List.mem_iff_getElem?.1 hmem
  have hnd : ((s.L.eraseIdx j).map PF.name).Nodup := h.nodup.sublist ((List.eraseIdx_sublist _ _).map _)
  exact ⟨q, f', by rw [← hnm]; exact find_nodup hnd hq, hq, g3⟩
end
section
set_option maxRecDepth 4000
def kept (bf : Int) (op k : Nat) : Bool := decide (bf ≤ k) || decide (k = op)
theorem usedL_sub {A B : List PF} (h : A.Sublist B) : usedL A ≤ usedL B := by
  induction h with
  | slnil => exact Nat.le_refl _
  | cons a _ ih => rw [usedL_cons]; omega
  | cons_cons a _ ih => rw [usedL_cons, usedL_cons]; omega
section
variable {st : St} {w d m nx op ct : Nat} {s : PS}
theorem Fine.remove {s : PS} {U : Nat} (h : Fine s U) (j : Nat) : Fine { s with L := s.L.eraseIdx j } U := by
  refine ⟨⟨fun f hf => h.good.dv f ((List.eraseIdx_sublist _ _).subset hf), h.good.fu⟩, Nat.le_trans ?_ h.used, h.q⟩
  exact usedL_sub (List.eraseIdx_sublist s.L j)
theorem retire_ok {K : List Nat} {B : Nat → List Int} {U : Nat} {bf : Int} (h : WA st w d m s nx op ct) (hS : Segs s K B) (hfu : s.fu = 0) (hoff : s.off = false) (hf : Fine s U) :
    ∃ st' s', obC 20 [.ptr w 0, i64 bf] st (i64 0) st' ∧ WA st' w d m s' nx op ct ∧ Segs s' (K.filter (kept bf op)) B ∧ s'.fu = 0 ∧ s'.off = false ∧ Fine s' U ∧ Rest st st' [d, m] := by
  obtain ⟨v, s1, b1, b2, b3, _⟩ := segments_ok h hS.perm hS.inc hS.r9 hS.len
  have h1 := h.rest b3
  let Inv : Nat → St × PS → Prop := fun i p => WA p.1 w d m p.2 nx op ct ∧ Segs p.2 ((K.take i).filter (kept bf op) ++ K.drop i) B ∧ p.2.fu = 0 ∧ p.2.off = false ∧ Fine p.2 U ∧ Rest s1 p.1 [d, m]
  let Rel : Nat → St × PS → St × PS → Prop := fun i p p' => ∀ T, f20L1 T (.ptr w 0) (i64 bf) v (i64 K.length) (i64 i) → AW Tryz.prog (f20P 3) (fun ex T' z => ex = .normal ∧ f20L1 T' (.ptr w 0) (i64 bf) v (i64 K.length) (i64 (i + 1 : Nat)) ∧ z = p'.1) T p.1
  have turn : ∀ i p, i < K.length → Inv i p → ∃ p', Inv (i + 1) p' ∧ Rel i p p' := fun i ⟨σ, si⟩ hi ⟨i1, i2, i3, i4, i5, i6⟩ => by
    simp only at i1 i2 i3 i4 i5 i6
    have hi9 : i < 9 := Nat.lt_of_lt_of_le hi hS.len
    have hki : K[i]? = some K[i] := List.getElem?_eq_getElem hi
    have hmem := List.getElem_mem hi
    have hdr : K.drop i = K[i] :: K.drop (i + 1) := List.drop_eq_getElem_cons hi
    have htk : K.take (i + 1) = K.take i ++ [K[i]] := by rw [List.take_add_one, hki]; rfl
    have hk9 := hS.r9 _ hmem
    generalize K[i] = k at *
    rcases b2 with ⟨e, _⟩ | ⟨_, _, id, rfl, hg⟩
    · omega
    have hgσ := i6.keep id _ (by
      simp only [List.mem_cons, List.not_mem_nil, or_false]
      rintro (e | e)
      · rw [e, h1.disk.row] at hg; simp at hg
      · obtain ⟨_, _, hm⟩ := h1.disk.map
        rw [e, hm] at hg; cases hg) hg
    have hld : loadA E0 σ 3 (.ptr id (0 + i * 1)) = some (i64 k) := load_row hgσ (p3 (by rw [Nat.zero_add, Nat.mul_one, List.getElem?_map, hki]; rfl))
    by_cases hb : bf ≤ k
    · refine ⟨(σ, si), ⟨i1, ?_, i3, i4, i5, i6⟩, fun T hT => f20_3_TT (lssT (by omega)) (idxS sl55 hi) hld (geqT hb) (add64 (by omega)) hT⟩
      rw [htk, List.filter_append, List.filter_cons_of_pos (by simp [kept, hb]), List.filter_nil, List.append_assoc]
      rw [hdr] at i2; exact i2
    by_cases ho : k = op
    · refine ⟨(σ, si), ⟨i1, ?_, i3, i4, i5, i6⟩, fun T hT => f20_3_TFT (lssT (by omega)) (idxS sl55 hi) hld (geqF hb) i1.l2 (eqlT (by omega)) (add64 (by omega)) hT⟩
      rw [htk, List.filter_append, List.filter_cons_of_pos (by simp [kept, ho]), List.filter_nil, List.append_assoc]
      rw [hdr] at i2; exact i2
    rw [hdr] at i2
    have hin : k ∈ (K.take i).filter (kept bf op) ++ k :: K.drop (i + 1) := by simp
    obtain ⟨j, f, f1, _, _⟩ := i2.file k hin
    have hrm := pRemove_eq i2 i3 i4 hin f1
    obtain ⟨σ1, n1, N1⟩ := name_ok hk9 i1.wf
    have w1 := i1.rest N1
    obtain ⟨σ2, r2, p2, R2⟩ := remove_ok w1.disk w1.wf w1.lock i5.good (nm k)
    rw [hrm] at r2 p2
    have hnot : k ∉ (K.take i).filter (kept bf op) := fun hh => by
      have := List.pairwise_append.1 i2.inc
      exact absurd (this.2.2 k hh k (by simp)) (Nat.lt_irrefl _)
    refine ⟨(σ2, _), ⟨w1.disk' p2 R2, ?_, i3, i4, i5.remove j, i6.trans ((N1.weak (by simp)).trans R2)⟩, fun T hT => f20_3_TFFF (lssT (by omega)) (idxS sl55 hi) hld (geqF hb) i1.l2 (eqlF (by omega)) n1 w1.l0 r2 (neqF rfl) (add64 (by omega)) hT⟩
    have := i2.remove hin f1
    rw [List.erase_append_right _ hnot, List.erase_cons_head] at this
    rw [htk, List.filter_append, List.filter_cons_of_neg (by simp [kept, hb, ho]), List.filter_nil, List.append_nil]
    exact this
  obtain ⟨c, c0, inv, step⟩ := chain_seq Inv Rel K.length (s1, s) ⟨h1, by simpa using hS, hfu, hoff, hf, Rest.refl b3.wf _⟩ turn
  obtain ⟨e1, e2, e3, e4, e5, e6⟩ := inv K.length (Nat.le_refl _)
  rw [List.take_of_length_le (Nat.le_refl _), List.drop_of_length_le (Nat.le_refl _), List.append_nil] at e2
  refine ⟨(c K.length).1, (c K.length).2, ?_, e1, e2, e3, e4, e5, (b3.weak (by simp)).trans e6⟩
  refine ACalls.body (E := E0) hE Tryz.func20 f20body ?_
  refine AW.andThen (f20_0 ⟨rfl, rfl, rfl⟩) fun T1 q1 => ?_
  refine AW.andThen (f20_1 h.l0 q1) fun T2 q2 => ?_
  refine AW.andThen (AW.andThen (f20_2 b1 (Ls.len sl55 b2) q2) fun T3 q3 => AW.turns (In := fun i T => f20L1 T (.ptr w 0) (i64 bf) v (i64 K.length) (i64 i)) (L := fun T => f20L3 T) (c := fun i => (c i).1) (n := K.length) (sf := (c K.length).1) (by rw [c0]) q3 (fun i hi T hT => step i hi T hT) (fun T hT => f20_3_F (lssF (by omega)) hT)) fun T4 q4 => ?_
  refine AW.atRet (f20_4 q4) fun T5 q5 => ?_
  refine ⟨[T5.get 4], rfl, ?_⟩
  simp only [oneOrTup]
  exact ⟨q5.2, trivial⟩
end
end
section
set_option maxRecDepth 4000
def upd (B : Nat → List Int) (k : Nat) (b : List Int) : Nat → List Int := fun i => if i = k then b else B i
theorem Segs.set {s s' : PS} {K : List Nat} {B : Nat → List Int} (h : Segs s K B) {k j : Nat} {f f' : PF} (hk : k ∈ K) (hj : find (nm k) s.L = some j) (hf : s.L[j]? = some f) (hn : f'.name = nm k) (hL : s'.L = s.L.set j f') : Segs s' K (upd B k f'.bytes) := by
  have hfn : f.name = nm k := by obtain ⟨f2, a, b⟩ := find_some hj; rw [hf] at a; cases a; exact b
  have hnames : s'.L.map PF.name = s.L.map PF.name := by
    rw [hL, List.map_set, hn, ← hfn]
    refine List.ext_getElem? fun i => ?_
    rw [List.getElem?_set]
    split
    · rename_i e; subst e
      split
      · rw [List.getElem?_map, hf]; rfl
      · rename_i hlt
        rw [List.getElem?_eq_none (by omega)]
    · rfl
  have hjl : j < s.L.length := (List.getElem?_eq_some_iff.1 hf).1
  refine ⟨by rw [hnames]; exact h.perm, h.inc, h.r9, h.len, fun i hi => ?_⟩
  have hnd : (s'.L.map PF.name).Nodup := by rw [hnames]; exact h.nodup
  by_cases e : i = k
  · have hq : s'.L[j]? = some f' := by rw [hL, List.getElem?_set, if_pos rfl, if_pos hjl]
    refine ⟨j, f', by rw [e, ← hn]; exact find_nodup hnd hq, hq, by unfold upd; rw [if_pos e]⟩
  · obtain ⟨j', f2, g1, g2, g3⟩ := h.file i hi
    have hf2 : f2.name = nm i := by obtain ⟨f3, a, b⟩ := find_some g1; rw [g2] at a; cases a; exact b
    have hjj : j ≠ j' := fun e2 => by
      rw [← e2, hf] at g2; cases g2
      rw [hfn] at hf2
      exact e (nm_inj (h.r9 _ hi) (h.r9 _ hk) hf2.symm)
    have hq : s'.L[j']? = some f2 := by rw [hL, List.getElem?_set, if_neg hjj]; exact g2
    refine ⟨j', f2, by rw [← hf2]; exact find_nodup hnd hq, hq, by unfold upd; rw [if_neg e]; exact g3⟩
/-- a disk without a fuse, that is on -/
structure Calmed (s : PS) : Prop where
  fu : s.fu = 0
  off : s.off = false
theorem Calmed.burnt {s : PS} (h : Calmed s) : burnt s = s := by
  obtain ⟨h1, h2⟩ := h
  cases s; simp only at h1 h2; subst h1; subst h2; rfl
theorem Segs.same {s : PS} {K : List Nat} {B B' : Nat → List Int} (h : Segs s K B) (e : ∀ k ∈ K, B' k = B k) : Segs s K B' :=
  ⟨h.perm, h.inc, h.r9, h.len, fun k hk => by obtain ⟨j, f, a, b, c⟩ := h.file k hk; exact ⟨j, f, a, b, by rw [e k hk]; exact c⟩⟩
theorem Segs.sync {s : PS} {K : List Nat} {B : Nat → List Int} (h : Segs s K B) (hc : Calmed s) {k : Nat} (hk : k ∈ K) : (pSync s (nm k)).1 = 0 ∧ Segs (pSync s (nm k)).2 K B ∧ Calmed (pSync s (nm k)).2 ∧ (pSync s (nm k)).2.q = s.q ∧ usedL (pSync s (nm k)).2.L = usedL s.L := by
  obtain ⟨j, f, h1, h2, h3⟩ := h.file k hk
  have hn : f.name = nm k := by obtain ⟨f2, a, b⟩ := find_some h1; rw [h2] at a; cases a; exact b
  have e : pSync s (nm k) = (0, { s with L := s.L.set j { f with last := f.bytes.length } }) := by
    unfold pSync
    rw [if_neg (by rw [h.rd hc.off hk]; simp), if_neg (by rw [hc.fu]; decide), h1]
    simp only [h2, hc.burnt]
  rw [e]
  refine ⟨rfl, (Segs.set (f' := { f with last := f.bytes.length }) h hk h1 h2 hn rfl).same fun i _ => ?_, ⟨hc.fu, hc.off⟩, rfl, ?_⟩
  · unfold upd; split
    · rename_i e2; rw [e2]; exact h3.symm
    · rfl
  · have := usedL_put (f' := { f with last := f.bytes.length }) h2
    simp only at this ⊢
    omega
theorem Segs.app {s s' : PS} {K : List Nat} {B : Nat → List Int} (h : Segs s K B) (hc : Calmed s) {k : Nat} (hk : k ∈ K) {c : List Int} (hroom : (usedL s.L : Int) + c.length ≤ s.q) (ha : AppS s (nm k) c s') : appE s (nm k) c = 0 ∧ Segs s' K (upd B k (B k ++ c)) ∧ Calmed s' ∧ s'.q = s.q ∧ usedL s'.L = usedL s.L + c.length := by
  have hr := h.rd hc.off hk
  obtain ⟨j, f, h1, h2, h3⟩ := h.file k hk
  have hb : ¬ (burnB s.fu = true) := by rw [hc.fu]; decide
  unfold AppS at ha
  rw [if_neg (by rw [hr]; simp), if_neg (by omega), if_neg hb] at ha
  obtain ⟨j', f', dv, g1, g2, g3, _, rfl⟩ := ha
  obtain rfl : j = j' := by rw [h1] at g1; exact Option.some.inj g1
  obtain rfl : f = f' := by rw [h2] at g2; exact Option.some.inj g2
  refine ⟨?_, ?_, ?_⟩
  · unfold appE
    rw [if_neg (by rw [hr]; simp), if_neg (by omega), if_neg hb]
  · have := Segs.set (s' := { burnt s with L := s.L.set j ⟨nm k, dv, f.bytes ++ c, f.last⟩ }) (f' := ⟨nm k, dv, f.bytes ++ c, f.last⟩) h hk h1 h2 rfl rfl
    rw [h3] at this; rw [h3]; exact this
  · rw [hc.burnt]
    refine ⟨⟨hc.fu, hc.off⟩, rfl, ?_⟩
    have := usedL_put (f' := ⟨nm k, dv, f.bytes ++ c, f.last⟩) h2
    simp only [List.length_append] at this ⊢
    omega
theorem Segs.create {s : PS} {K : List Nat} {B : Nat → List Int} (h : Segs s K B) (hc : Calmed s) {x : Nat} (hx : ∀ k ∈ K, k < x) (h9 : 1 ≤ x ∧ x ≤ 9) (hl : K.length < 9) : (pCreate s (nm x)).1 = 0 ∧ Segs (pCreate s (nm x)).2 (K ++ [x]) (upd B x []) ∧ Calmed (pCreate s (nm x)).2 ∧ (pCreate s (nm x)).2.q = s.q ∧ usedL (pCreate s (nm x)).2.L = usedL s.L := by
  have hnf : find (nm x) s.L = none := by
    cases hq : find (nm x) s.L with
    | none => rfl
    | some j =>
      obtain ⟨f, a, b⟩ := find_some hq
      have : nm x ∈ K.map nm := h.perm.mem_iff.1 (by rw [← b]; exact List.mem_map_of_mem (List.mem_of_getElem? a))
      obtain ⟨k, hk, e⟩ := List.mem_map.1 this
      have := nm_inj (h.r9 k hk) h9 e
      have := hx k hk
      omega
  have hlen : s.L.length = K.length := by have := h.perm.length_eq; simpa using this
  have e : pCreate s (nm x) = (0, { s with L := s.L ++ [⟨nm x, .nils, [], 0⟩] }) := by
    unfold pCreate
    have hr : rdE s.L s.off false (nm x) = 0 := by
      unfold rdE
      rw [hc.off, if_neg (by simp), if_neg (fun h' => h' (nm_ok h9)), if_neg (by simp)]
    rw [if_neg (by rw [hr]; simp), if_neg (by omega), if_neg (by rw [hc.fu]; decide), hc.burnt]
    simp only [putL, hnf]
  rw [e]
  have hperm : ((s.L ++ [⟨nm x, .nils, [], 0⟩] : List PF).map PF.name).Perm ((K ++ [x]).map nm) := by
    simp only [List.map_append, List.map_cons, List.map_nil]
    exact h.perm.append_right _
  have hinc : (K ++ [x]).Pairwise (· < ·) := by
    rw [List.pairwise_append]
    exact ⟨h.inc, by simp, fun a ha b hb => by rw [List.mem_singleton.1 hb]; exact hx a ha⟩
  have hr9 : ∀ k ∈ K ++ [x], 1 ≤ k ∧ k ≤ 9 := fun k hk => by
    rcases List.mem_append.1 hk with hk | hk
    · exact h.r9 k hk
    · rw [List.mem_singleton.1 hk]; exact h9
  have hnd := hperm.nodup_iff.2 (nodup_nm hinc hr9)
  refine ⟨rfl, ⟨hperm, hinc, hr9, by simp; omega, fun k hk => ?_⟩, ⟨hc.fu, hc.off⟩, rfl, by rw [usedL_append]; simp [usedL]⟩
  rcases List.mem_append.1 hk with hk | hk
  · obtain ⟨j, f, a, b, c⟩ := h.file k hk
    have hn : f.name = nm k := by obtain ⟨f2, a2, b2⟩ := find_some a; rw [b] at a2; cases a2; exact b2
    have hq : (s.L ++ [⟨nm x, .nils, [], 0⟩] : List PF)[j]? = some f := by
      rw [List.getElem?_append_left (List.getElem?_eq_some_iff.1 b).1]; exact b
    exact ⟨j, f, by rw [← hn]; exact find_nodup hnd hq, hq, by unfold upd; rw [if_neg (by have := hx k hk; omega)]; exact c⟩
  · obtain rfl := List.mem_singleton.1 hk
    have hq : (s.L ++ [⟨nm k, .nils, [], 0⟩] : List PF)[s.L.length]? = some ⟨nm k, .nils, [], 0⟩ := by
      rw [List.getElem?_append_right (Nat.le_refl _), Nat.sub_self]; rfl
    exact ⟨_, _, find_nodup (f := ⟨nm k, .nils, [], 0⟩) hnd hq, hq, by unfold upd; rw [if_pos rfl]⟩
end
section
set_option maxRecDepth 4000
/-- a log that was opened on an empty disk, and its records -/
structure LogI (s : PS) (nx op ct : Nat) (G : Nat → List (List Int)) (N U : Nat) : Prop where
  segs : Segs s (List.range' 1 op) fun k => (G k).flatMap frameL
  calm : Calmed s
  hnx : nx = op + 1
  hct : op = 0 ∧ ct = 0 ∨ 0 < op ∧ ct = (G op).length ∧ 1 ≤ ct ∧ ct ≤ 8
  num : N + 8 = 8 * op + ct ∨ op = 0 ∧ N = 0
  full : ∀ k, 1 ≤ k → k < op → (G k).length = 8
  used : usedL s.L ≤ U
  q : s.q = 1048576
  good : Good s
  sz : ∀ k, ∀ r ∈ G k, 1 ≤ r.length ∧ r.length ≤ 500
def updG (G : Nat → List (List Int)) (k : Nat) (l : List (List Int)) : Nat → List (List Int) := fun i => if i = k then l else G i
/-- the records behind one more Append -/
def addG (G : Nat → List (List Int)) (op ct : Nat) (r : List Int) : Nat → List (List Int) := if op = 0 ∨ ct = 8 then updG G (op + 1) [r] else updG G op (G op ++ [r])
theorem LogI.fine {s : PS} {nx op ct N U : Nat} {G : Nat → List (List Int)} (h : LogI s nx op ct G N U) : Fine s U := ⟨h.good, h.used, by rw [h.q]; omega⟩
theorem log_append {st : St} {w d m : Nat} {s : PS} {nx op ct N U : Nat} {G : Nat → List (List Int)} {data : List Int} (h : WA st w d m s nx op ct) (hI : LogI s nx op ct G N U) (hN : N < 60) (hU : U + 508 ≤ 1048576) (h1 : 1 ≤ data.length) (h2 : data.length ≤ 500) :
    ∃ st' s' op', obC 16 [.ptr w 0, recW data] st (.tup [i64 (op' : Nat), i64 0]) st' ∧ WA st' w d m s' (op' + 1) op' (if op = 0 ∨ ct = 8 then 1 else ct + 1) ∧ op' = (if op = 0 ∨ ct = 8 then op + 1 else op) ∧ LogI s' (op' + 1) op' (if op = 0 ∨ ct = 8 then 1 else ct + 1) (addG G op ct data) (N + 1) (U + (8 + data.length)) ∧ RestF st st' [d, m, w] := by
  have hop : op ≤ 8 := by rcases hI.num with h | h <;> omega
  have hct8 : ct ≤ 8 := by rcases hI.hct with h | h <;> omega
  have hfull7 : ct = 8 → op ≤ 7 := fun e => by rcases hI.num with h | h <;> omega
  have hnx := hI.hnx
  obtain ⟨st', s', hA, hR⟩ := wappend_ok (data := data) h hI.fine (by omega) (by rw [hnx]; omega) (by omega) hct8 h1 (by omega)
  have hlen := frame_len data
  have hK : ∀ {n k : Nat}, k ∈ List.range' 1 n ↔ 1 ≤ k ∧ k ≤ n := fun {n k} => by rw [List.mem_range'_1]; omega
  by_cases hc : op = 0 ∨ ct = 8
  · -- a new segment
    have hpre : ∃ sC, wPre s nx op ct = (0, sC, nx + 1, nx, 0) ∧ Segs sC (List.range' 1 (op + 1)) (upd (fun k => (G k).flatMap frameL) (op + 1) []) ∧ Calmed sC ∧ sC.q = s.q ∧ usedL sC.L = usedL s.L ∧ Fine sC U := by
      have hrg : List.range' 1 op ++ [op + 1] = List.range' 1 (op + 1) := by rw [List.range'_1_concat]; congr 2; omega
      by_cases h0 : op = 0
      · obtain ⟨a1, a2, a3, a4, a5⟩ := hI.segs.create hI.calm (x := nx) (fun k hk => by have := hK.1 hk; omega) (by omega) (by rw [List.length_range']; omega)
        refine ⟨(pCreate s (nm nx)).2, ?_, ?_, a3, a4, a5, hI.fine.create _⟩
        · unfold wPre
          rw [if_neg (by omega), if_pos h0, if_neg (by rw [a1]; simp)]
        · rw [hnx, hrg] at a2; rw [hnx]; exact a2
      · have h8 : ct = 8 := by omega
        obtain ⟨b1, b2, b3, b4, b5⟩ := hI.segs.sync hI.calm (k := op) (hK.2 (by omega))
        obtain ⟨a1, a2, a3, a4, a5⟩ := b2.create b3 (x := nx) (fun k hk => by have := hK.1 hk; omega) (by have := hfull7 h8; omega) (by rw [List.length_range']; have := hfull7 h8; omega)
        refine ⟨(pCreate (pSync s (nm op)).2 (nm nx)).2, ?_, ?_, a3, a4.trans b4, a5.trans b5, (hI.fine.sync _).create _⟩
        · unfold wPre
          rw [if_pos ⟨by omega, h8⟩, if_neg (by rw [b1]; simp), if_neg (by rw [a1]; simp)]
        · rw [hnx, hrg] at a2; rw [hnx]; exact a2
    obtain ⟨sC, hp, c1, c2, c3, c4, c5⟩ := hpre
    unfold WApp at hA
    rw [hp] at hA
    rcases hA with ⟨hz, _⟩ | ⟨_, happ, hrest⟩
    · exact absurd rfl hz
    simp only at happ hrest
    rw [hnx] at happ hrest
    obtain ⟨d1, d2, d3, d4, d5⟩ := c1.app c2 (k := op + 1) (hK.2 (by omega)) (by rw [c3, hI.q, c4, hlen]; have := hI.used; omega) happ
    rcases hrest with ⟨hz, _⟩ | ⟨_, hob, hwa⟩
    · exact absurd d1 hz
    refine ⟨st', s', op + 1, hob, by rw [if_pos hc]; exact hwa, by rw [if_pos hc], ?_, hR⟩
    rw [if_pos hc]
    have hF : Fine s' (U + (frameL data).length) := c5.app happ
    have hG : addG G op ct data = updG G (op + 1) [data] := by unfold addG; rw [if_pos hc]
    rw [hG]
    refine ⟨d2.same fun k hk => ?_, d3, rfl, .inr ⟨by omega, by simp [updG], by omega, by omega⟩, ?_, fun k hk1 hk2 => ?_, by rw [← hlen]; exact hF.used, by rw [d4, c3, hI.q], hF.good, fun k r hr => ?_⟩
    · unfold upd updG
      split
      · rename_i e; rw [if_pos rfl]; simp
      · rename_i e; rfl
    · rcases hI.num with h | h <;> rcases hI.hct with h' | h' <;> omega
    · unfold updG
      rw [if_neg (by omega)]
      by_cases e : k = op
      · rcases hI.hct with h' | h'
        · omega
        · rw [e, ← h'.2.1]; omega
      · exact hI.full k hk1 (by omega)
    · unfold updG at hr
      split at hr
      · rw [List.mem_singleton.1 hr]; omega
      · exact hI.sz k r hr
  · have hc1 : op ≠ 0 := fun e => hc (.inl e)
    have hc2 : ct ≠ 8 := fun e => hc (.inr e)
    have hp : wPre s nx op ct = (0, s, nx, op, ct) := by
      unfold wPre; rw [if_neg (fun h' => hc2 h'.2), if_neg hc1]
    unfold WApp at hA
    rw [hp] at hA
    rcases hA with ⟨hz, _⟩ | ⟨_, happ, hrest⟩
    · exact absurd rfl hz
    simp only at happ hrest
    rw [hnx] at hrest
    obtain ⟨d1, d2, d3, d4, d5⟩ := hI.segs.app hI.calm (k := op) (hK.2 (by omega)) (by rw [hI.q, hlen]; have := hI.used; omega) happ
    rcases hrest with ⟨hz, _⟩ | ⟨_, hob, hwa⟩
    · exact absurd d1 hz
    refine ⟨st', s', op, hob, by rw [if_neg hc]; exact hwa, by rw [if_neg hc], ?_, hR⟩
    rw [if_neg hc]
    have hF : Fine s' (U + (frameL data).length) := hI.fine.app happ
    have hG : addG G op ct data = updG G op (G op ++ [data]) := by unfold addG; rw [if_neg hc]
    rw [hG]
    refine ⟨d2.same fun k hk => ?_, d3, rfl, .inr ⟨by omega, ?_, by omega, by omega⟩, ?_, fun k hk1 hk2 => ?_, by rw [← hlen]; exact hF.used, by rw [d4, hI.q], hF.good, fun k r hr => ?_⟩
    · unfold upd updG
      split
      · rename_i e; simp
      · rfl
    · unfold updG
      rw [if_pos rfl, List.length_append]
      rcases hI.hct with h' | h'
      · omega
      · simp only [List.length_cons, List.length_nil]; omega
    · rcases hI.num with h | h <;> rcases hI.hct with h' | h' <;> omega
    · unfold updG
      rw [if_neg (by omega)]
      exact hI.full k hk1 hk2
    · unfold updG at hr
      split at hr
      · rename_i e
        rcases List.mem_append.1 hr with hr | hr
        · exact hI.sz op r hr
        · rw [List.mem_singleton.1 hr]; omega
      · exact hI.sz k r hr
end
section
set_option maxRecDepth 4000
theorem emb_tab {st : St} (hgl : st.gl = (stTab tabsD).gl) : Emb (stTab tabsD) st (fun i => st.next + i) :=
  ⟨fun i _ => rfl, fun i h => by simp [stTab] at h, fun i j o o' h => by simp [stTab, St.get, Tr.get] at h, fun id o h => by simp [stTab, St.get, Tr.get] at h, fun id o h => by simp [stTab, St.get, Tr.get] at h, fun id o h => by simp [stTab, St.get, Tr.get] at h, fun p hp => ⟨by rw [hgl]; exact hp, fun a ha => by
    obtain ⟨t, _, rfl⟩ := List.mem_map.1 hp
    simp only [intsAV] at ha
    obtain ⟨z, _, rfl⟩ := List.mem_map.1 ha
    exact ⟨_, rfl⟩⟩⟩
theorem awake7 : ((evCall E0 ovF 1000000 12 [] (stTab tabsD)).map fun q => (q.1, q.2.lock)) = some (TT, []) := by kernel_rfl
/-- awake, at any store that holds the tables -/
theorem awake_det {st : St} (hgl : st.gl = (stTab tabsD).gl) (hw : st.wf) : ∃ st', obC 12 [] st TT st' ∧ Rest st st' [] := by
  obtain ⟨⟨a, s⟩, h1, h2⟩ := Option.map_eq_some_iff.1 awake7
  simp only [Prod.mk.injEq] at h2
  obtain ⟨rfl, hk⟩ := h2
  have hc := (ev_ok (envOf_ok (P := Tryz.prog) rfl) ovF_ok 1000000).call 12 [] (stTab tabsD) _ h1
  have hc2 : ACalls Tryz.prog 12 [] (fun a' s' => a' = TT ∧ s' = ⟨s.next, .nil, [], s.gl⟩) (stTab tabsD) := hc.forget fun a' s' e _ => by
    cases e
    exact ⟨⟨s.next, .nil, [], s.gl⟩, ⟨rfl, rfl⟩, fun i o hi => by simp [St.get, Tr.get] at hi, rfl, hk.symm, rfl⟩
  have hE := emb_tab hgl
  have hnone : ∀ k, (⟨s.next, .nil, [], s.gl⟩ : St).get k = none := fun k => by simp [St.get, Tr.get]
  refine ⟨mergeSt ⟨s.next, .nil, [], s.gl⟩ st (stTab tabsD) (fun i => st.next + i), (hc2.frame hE).mono fun a s0 hq => ?_, ⟨fun i o _ ho => ?_, Nat.le_add_right _ _, rfl, rfl, fun i o hi => ?_⟩⟩
  · obtain ⟨r0, st0', ⟨h1, h2⟩, h3, h4, _, _⟩ := hq
    subst h1; subst h2
    exact ⟨by rw [h3]; rfl, h4⟩
  · have hlt := hw _ _ ho
    rw [merge_out hE (k := i) fun j _ _ e => by have e : st.next + j = i := e; omega]
    exact ho
  · show i < st.next + (s.next - 0)
    rcases merge_cases hE hi with ⟨j, o0, _, _, h3, _⟩ | ⟨h1, _⟩
    · rw [hnone] at h3; cases h3
    · have := hw _ _ h1; omega
end
section
set_option maxRecDepth 100000
open Go.RowKit Go.Sort Go.Shelf
/-! ### strconv.Itoa, by the shelf's contract -/
def Tryz.itoa38_ren : Go.Shelf.Ren := ⟨fun | 171 => 38 | 243 => 73 | 246 => 93 | 283 => 104 | 284 => 105 | 285 => 106 | 286 => 107 | 129 => 114 | 317 => 113 | 318 => 115 | 319 => 116 | 320 => 117 | 337 => 128 | 338 => 129 | n => n, fun | 3 => 3 | 9 => 9 | 2 => 2 | 4 => 4 | 171 => 153 | 0 => 0 | 53 => 79 | 37 => 22 | 5 => 5 | 173 => 156 | 212 => 165 | 51 => 80 | 20 => 20 | 213 => 166 | 46 => 53 | 232 => 181 | 233 => 182 | n => n, fun | 17 => 0 | 18 => 2 | 19 => 3 | n => n⟩
theorem Tryz.itoa38 : Go.Proofs.LaysM.n171 Tryz.prog Tryz.itoa38_ren := {
  mixed := by kernel_rfl
  f129 := Tryz.func114.trans (congrArg some (by kernel_rfl))
  f171 := Tryz.func38.trans (congrArg some (by kernel_rfl))
  f243 := Tryz.func73.trans (congrArg some (by kernel_rfl))
  f246 := Tryz.func93.trans (congrArg some (by kernel_rfl))
  f283 := Tryz.func104.trans (congrArg some (by kernel_rfl))
  f284 := Tryz.func105.trans (congrArg some (by kernel_rfl))
  f285 := Tryz.func106.trans (congrArg some (by kernel_rfl))
  f286 := Tryz.func107.trans (congrArg some (by kernel_rfl))
  f317 := Tryz.func113.trans (congrArg some (by kernel_rfl))
  f318 := Tryz.func115.trans (congrArg some (by kernel_rfl))
  f319 := Tryz.func116.trans (congrArg some (by kernel_rfl))
  f320 := Tryz.func117.trans (congrArg some (by kernel_rfl))
  f337 := Tryz.func128.trans (congrArg some (by kernel_rfl))
  f338 := Tryz.func129.trans (congrArg some (by kernel_rfl))
  t0 := Tryz.underlying0
  a0 := Tryz.isAgg0
  z0 := Tryz.sizeOf0
  v0 := Tryz.zeroValue0
  t2 := Tryz.underlying2
  a2 := Tryz.isAgg2
  z2 := Tryz.sizeOf2
  v2 := Tryz.zeroValue2
  t3 := Tryz.underlying3
  a3 := Tryz.isAgg3
  z3 := Tryz.sizeOf3
  v3 := Tryz.zeroValue3
  t4 := Tryz.underlying4
  a4 := Tryz.isAgg4
  z4 := Tryz.sizeOf4
  v4 := Tryz.zeroValue4
  t5 := Tryz.underlying5
  a5 := Tryz.isAgg5
  z5 := Tryz.sizeOf5
  v5 := Tryz.zeroValue5
  t9 := Tryz.underlying9
  a9 := Tryz.isAgg9
  z9 := Tryz.sizeOf9
  v9 := Tryz.zeroValue9
  t20 := Tryz.underlying20
  a20 := Tryz.isAgg20
  z20 := Tryz.sizeOf20
  v20 := Tryz.zeroValue20
  t37 := Tryz.underlying22
  a37 := Tryz.isAgg22
  z37 := Tryz.sizeOf22
  v37 := Tryz.zeroValue22
  t46 := Tryz.underlying53
  a46 := Tryz.isAgg53
  z46 := Tryz.sizeOf53
  v46 := Tryz.zeroValue53
  t51 := Tryz.underlying80
  a51 := Tryz.isAgg80
  z51 := Tryz.sizeOf80
  v51 := Tryz.zeroValue80
  t53 := Tryz.underlying79
  a53 := Tryz.isAgg79
  z53 := Tryz.sizeOf79
  v53 := Tryz.zeroValue79
  t171 := Tryz.underlying153
  a171 := Tryz.isAgg153
  z171 := Tryz.sizeOf153
  v171 := Tryz.zeroValue153
  t173 := Tryz.underlying156
  a173 := Tryz.isAgg156
  z173 := Tryz.sizeOf156
  v173 := Tryz.zeroValue156
  t212 := Tryz.underlying165
  a212 := Tryz.isAgg165
  z212 := Tryz.sizeOf165
  v212 := Tryz.zeroValue165
  t213 := Tryz.underlying166
  a213 := Tryz.isAgg166
  z213 := Tryz.sizeOf166
  t232 := Tryz.underlying181
  a232 := Tryz.isAgg181
  z232 := Tryz.sizeOf181
  v232 := Tryz.zeroValue181
  t233 := Tryz.underlying182
  a233 := Tryz.isAgg182
  z233 := Tryz.sizeOf182
  v233 := Tryz.zeroValue182
  g17 := by kernel_rfl
  g18 := by kernel_rfl
  g19 := by kernel_rfl
  i0 := by kernel_rfl
  i2 := by kernel_rfl
  i3 := by kernel_rfl
  i4 := by kernel_rfl
  i5 := by kernel_rfl
  i9 := by kernel_rfl
  i20 := by kernel_rfl
  i37 := by kernel_rfl
  i46 := by kernel_rfl
  i51 := by kernel_rfl
  i53 := by kernel_rfl
  i171 := by kernel_rfl
  i173 := by kernel_rfl
  i212 := by kernel_rfl
  i232 := by kernel_rfl
  i233 := by kernel_rfl
  m17 := by kernel_rfl
  m18 := by kernel_rfl
  m19 := by kernel_rfl }
theorem itoaC (n : Int) (h0 : -9223372036854775808 ≤ n) (h1 : n ≤ 9223372036854775807) (w : World) (htab : Lib.TabIs Tryz.prog w "internal/strconv.uint64pow10" .u64 Lib.pow10Tab) :
    Calls Tryz.prog 38 #[.int .i64 n] w fun e w' => e = .returned (.string ⟨(Lib.itoa n).toArray⟩) ∧ ∃ k os, w' = grow (w.drewN k) os := Any.strconv_Itoa Tryz.itoa38 n h0 h1 w htab
theorem below_grow (w : World) (k : Nat) (os : Array Obj) : Below w.heap.size w (grow (w.drewN k) os) := by
  refine ⟨rfl, rfl, rfl, ?_, fun b hb => ?_⟩
  · show w.heap.size ≤ ((w.drewN k).heap ++ os).size
    rw [Array.size_append]; exact Nat.le_add_right _ _
  · show ((w.drewN k).heap ++ os)[b]? = w.heap[b]?
    rw [Array.getElem?_append_left (by exact hb)]
    rfl
/-- what a listed table holds, as the shelf says it -/
theorem tab_is {g : G} {st : St} {w : World} (hok : OK g st w) (hgl : st.gl = (stTab tabsD).gl) : Lib.TabIs Tryz.prog w "internal/strconv.uint64pow10" .u64 Lib.pow10Tab := by
  have hp : (0, intsAV .u64 zs10) ∈ st.gl := by rw [hgl]; simp [stTab, tabsD]
  obtain ⟨h1, h2, h3⟩ := hok.glob _ hp
  obtain ⟨cs, T, fr, h4, h5⟩ := hok.imm 0 h2
  have hcs : cs.toList = zs10.map fun z => Value.int .u64 z := by
    cases h1 with
    | iptr _ us A hu hx h1 hA =>
      obtain ⟨_, hpre⟩ := hA
      have hpre : us <+: (g.M 0).drop 0 := hpre
      rw [List.drop_zero] at hpre
      have hlen : us.length = (g.M 0).length := by rw [hu]; exact h3.symm
      have he : us = g.M 0 := hpre.eq_of_length hlen
      rw [← h5, ← he]
      apply List.ext_getElem?
      intro i
      by_cases hi : i < us.length
      · have hz : i < zs10.length := by have : us.length = zs10.length := by rw [hu]; rfl
                                        omega
        have := hx i (by rw [← hu]; exact hi)
        have e1 : (intsAV .u64 zs10).getD i .undef = .val (.int .u64 zs10[i]) := by
          simp [intsAV, List.getD_eq_getElem?_getD, List.getElem?_eq_getElem hz]
        rw [e1] at this
        have e2 := this.val_inv
        rw [List.getD_eq_getElem?_getD, List.getElem?_eq_getElem hi] at e2
        rw [List.getElem?_eq_getElem hi, List.getElem?_map, List.getElem?_eq_getElem hz]
        simp only [Option.getD_some] at e2
        rw [e2]; rfl
      · rw [List.getElem?_eq_none (by omega), List.getElem?_eq_none]
        rw [List.length_map]
        have : us.length = zs10.length := by rw [hu]; rfl
        omega
  have hg : Tryz.prog.globalNamed "internal/strconv.uint64pow10" = some 0 := by kernel_rfl
  unfold Lib.TabIs World.var?
  rw [hg]
  simp only [Option.bind_some, h4]
  congr 1
  have : cs = (zs10.map fun z => Value.int .u64 z).toArray := by
    apply Array.ext'
    rw [hcs]
  rw [this]
  rfl
theorem itoa_ok {st : St} (hgl : st.gl = (stTab tabsD).gl) {n : Int} (h0 : -9223372036854775808 ≤ n) (h1 : n ≤ 9223372036854775807) : obC 38 [i64 n] st (str ⟨(Lib.itoa n).toArray⟩) st := by
  intro g w us hok hv
  have hus : us.toArray = #[.int .i64 n] := by
    have hl := hv.1
    match us, hv, hl with
    | [u], hv, _ => rw [hv.head.val_inv]
  rw [hus]
  exact (itoaC n h0 h1 w (tab_is hok hgl)).mono fun e w' ⟨he, k, os, hw⟩ => by
    subst hw
    exact ⟨g, st, _, _, he, step_below hok (below_grow w k os), .val _ rfl, rfl, rfl⟩
end
section
set_option maxRecDepth 100000
theorem f5_T_e (st : St) (q : Int) : evCallS Tryz.prog E0 noOv (fun _ => [6038, 6039, 7006, 7009, 7014, 7015, 7017, 7019]) 100000 5 [(i64 q)] st [.av TT] = some ((.tup [(str ⟨#[]⟩), (i64 1)]), st, [], [binA E0 .lss 3 (i64 q) (i64 1) = some TT]) := by kernel_rfl
theorem f5_T {st : St} {q : Int} (h1 : binA E0 .lss 3 (i64 q) (i64 1) = some TT) : obC 5 [(i64 q)] st (.tup [(str ⟨#[]⟩), (i64 1)]) st := ACalls.run hE noOv_ok (f5_T_e st q) (Ob.ok_cons.2 ⟨h1, Ob.ok_nil⟩)
theorem f5_FT_e (st : St) (q : Int) : evCallS Tryz.prog E0 noOv (fun _ => [6038, 6039, 7006, 7009, 7014, 7015, 7017, 7019]) 100000 5 [(i64 q)] st [.av FF, .av TT] = some ((.tup [(str ⟨#[]⟩), (i64 1)]), st, [], [binA E0 .lss 3 (i64 q) (i64 1) = some FF, binA E0 .gtr 3 (i64 q) (i64 99999999) = some TT]) := by kernel_rfl
theorem f5_FT {st : St} {q : Int} (h1 : binA E0 .lss 3 (i64 q) (i64 1) = some FF) (h2 : binA E0 .gtr 3 (i64 q) (i64 99999999) = some TT) : obC 5 [(i64 q)] st (.tup [(str ⟨#[]⟩), (i64 1)]) st := ACalls.run hE noOv_ok (f5_FT_e st q) (Ob.ok_cons.2 ⟨h1, (Ob.ok_cons.2 ⟨h2, Ob.ok_nil⟩)⟩)
theorem f5_FF_e (st s1 s2 : St) (q n14 n15 : Int) (w12 w16 w17 w19 : ByteArray) : evCallS Tryz.prog E0 noOv (fun _ => [6038, 6039, 7006, 7009, 7014, 7015, 7017, 7019]) 100000 5 [(i64 q)] st [.av FF, .av FF, .eff (str w12) (fun _ => s1), .av (i64 n14), .av (i64 n15), .eff (str w16) (fun _ => s2), .av (str w17), .av (str w19)] = some ((.tup [(str w19), (i64 0)]), s2, [], [binA E0 .lss 3 (i64 q) (i64 1) = some FF, binA E0 .gtr 3 (i64 q) (i64 99999999) = some FF, obC 38 [(i64 q)] st (str w12) s1, lenA E0 9 (str w12) = some (i64 n14), binA E0 .sub 3 (i64 8) (i64 n14) = some (i64 n15), obC 39 [(str ⟨#[48]⟩), (i64 n15)] s1 (str w16) s2, binA E0 .add 9 (str ⟨#[119, 97, 108, 45]⟩) (str w16) = some (str w17), binA E0 .add 9 (str w17) (str w12) = some (str w19)]) := by kernel_rfl
theorem f5_FF {st s1 s2 : St} {q n14 n15 : Int} {w12 w16 w17 w19 : ByteArray} (h1 : binA E0 .lss 3 (i64 q) (i64 1) = some FF) (h2 : binA E0 .gtr 3 (i64 q) (i64 99999999) = some FF) (h3 : obC 38 [(i64 q)] st (str w12) s1) (h4 : lenA E0 9 (str w12) = some (i64 n14)) (h5 : binA E0 .sub 3 (i64 8) (i64 n14) = some (i64 n15)) (h6 : obC 39 [(str ⟨#[48]⟩), (i64 n15)] s1 (str w16) s2) (h7 : binA E0 .add 9 (str ⟨#[119, 97, 108, 45]⟩) (str w16) = some (str w17)) (h8 : binA E0 .add 9 (str w17) (str w12) = some (str w19)) : obC 5 [(i64 q)] st (.tup [(str w19), (i64 0)]) s2 := ACalls.run hE noOv_ok (f5_FF_e st s1 s2 q n14 n15 w12 w16 w17 w19) (Ob.ok_cons.2 ⟨h1, (Ob.ok_cons.2 ⟨h2, (Ob.ok_cons.2 ⟨h3, (Ob.ok_cons.2 ⟨h4, (Ob.ok_cons.2 ⟨h5, (Ob.ok_cons.2 ⟨h6, (Ob.ok_cons.2 ⟨h7, (Ob.ok_cons.2 ⟨h8, Ob.ok_nil⟩)⟩)⟩)⟩)⟩)⟩)⟩)⟩)
noncomputable def f6P (i : Nat) : Code := match Tryz.f6.body with
  | some (.seq x0 (.seq x1 (.seq x2 (.seq (.seq x3 (.block 0 (.loop x4))) x5)))) => [x0, x1, x2, x3, x4, x5].getD i .skip
  | _ => .skip
theorem f6body : Tryz.f6.body = some (.seq (f6P 0) (.seq (f6P 1) (.seq (f6P 2) (.seq (.seq (f6P 3) (.block 0 (.loop (f6P 4)))) (f6P 5))))) := by kernel_rfl
def f6L0 (T : Tm) (a0 : AV) : Prop := T.n = 29 ∧ T.get 0 = a0
theorem f6_0_e (n0 : Int) (st : St) : ((evS Tryz.prog E0 noOv noS 100000 [] (f6P 0) ⟨29, [(0, (i64 n0))], []⟩ st []).map fun q => (q.1, q.2.1.n, ([q.2.1.get 0] : List AV), q.2.2.1, q.2.2.2.2)) = some (.normal, 29, [(i64 n0)], st, []) := by kernel_rfl
theorem f6_0 {n0 : Int} {st : St}  {T : Tm} (hT : f6L0 T (i64 n0)) : AW Tryz.prog (f6P 0) (fun ex T' st' => ex = .normal ∧ f6L0 T' (i64 n0) ∧ st' = st) T st := by
  obtain ⟨hn, g0⟩ := hT
  exact (gen_run (G := fun T => ([T.get 0] : List AV)) hE (f6_0_e n0 st) Ob.ok_nil hn (one g0)).mono fun ex T' st' ⟨q1, q2, q3, q4⟩ => by simp only [List.cons.injEq, and_true] at q3; exact ⟨q1, ⟨q2, q3⟩, q4⟩
def f6L1 (T : Tm) (a2 a3 : AV) : Prop := T.n = 29 ∧ T.get 2 = a2 ∧ T.get 3 = a3
theorem f6_1_T_e (n0 : Int) (st : St) : ((evS Tryz.prog E0 noOv noS 100000 [7007, 7010] (f6P 1) ⟨29, [(0, (i64 n0))], []⟩ st [.av TT]).map fun q => (q.1, q.2.1.n, ([q.2.1.get 2, q.2.1.get 3] : List AV), q.2.2.1, q.2.2.2.2)) = some (.ret, 29, [(str ⟨#[]⟩), (i64 1)], st, [binA E0 .lss 3 (i64 n0) (i64 1) = some TT]) := by kernel_rfl
theorem f6_1_T {n0 : Int} {st : St} (h1 : binA E0 .lss 3 (i64 n0) (i64 1) = some TT) {T : Tm} (hT : f6L0 T (i64 n0)) : AW Tryz.prog (f6P 1) (fun ex T' st' => ex = .ret ∧ f6L1 T' (str ⟨#[]⟩) (i64 1) ∧ st' = st) T st := by
  obtain ⟨hn, g0⟩ := hT
  exact (gen_run (G := fun T => ([T.get 2, T.get 3] : List AV)) hE (f6_1_T_e n0 st) (Ob.ok_cons.2 ⟨h1, Ob.ok_nil⟩) hn (one g0)).mono fun ex T' st' ⟨q1, q2, q3, q4⟩ => by simp only [List.cons.injEq, and_true] at q3; exact ⟨q1, ⟨q2, q3⟩, q4⟩
theorem f6_1_FT_e (n0 : Int) (st : St) : ((evS Tryz.prog E0 noOv noS 100000 [7007, 7010] (f6P 1) ⟨29, [(0, (i64 n0))], []⟩ st [.av FF, .av TT]).map fun q => (q.1, q.2.1.n, ([q.2.1.get 2, q.2.1.get 3] : List AV), q.2.2.1, q.2.2.2.2)) = some (.ret, 29, [(str ⟨#[]⟩), (i64 1)], st, [binA E0 .lss 3 (i64 n0) (i64 1) = some FF, binA E0 .gtr 3 (i64 n0) (i64 99999999) = some TT]) := by kernel_rfl
theorem f6_1_FT {n0 : Int} {st : St} (h1 : binA E0 .lss 3 (i64 n0) (i64 1) = some FF) (h2 : binA E0 .gtr 3 (i64 n0) (i64 99999999) = some TT) {T : Tm} (hT : f6L0 T (i64 n0)) : AW Tryz.prog (f6P 1) (fun ex T' st' => ex = .ret ∧ f6L1 T' (str ⟨#[]⟩) (i64 1) ∧ st' = st) T st := by
  obtain ⟨hn, g0⟩ := hT
  exact (gen_run (G := fun T => ([T.get 2, T.get 3] : List AV)) hE (f6_1_FT_e n0 st) (Ob.ok_cons.2 ⟨h1, (Ob.ok_cons.2 ⟨h2, Ob.ok_nil⟩)⟩) hn (one g0)).mono fun ex T' st' ⟨q1, q2, q3, q4⟩ => by simp only [List.cons.injEq, and_true] at q3; exact ⟨q1, ⟨q2, q3⟩, q4⟩
theorem f6_1_FF_e (n0 : Int) (st : St) : ((evS Tryz.prog E0 noOv noS 100000 [7007, 7010] (f6P 1) ⟨29, [(0, (i64 n0))], []⟩ st [.av FF, .av FF]).map fun q => (q.1, q.2.1.n, ([q.2.1.get 0] : List AV), q.2.2.1, q.2.2.2.2)) = some (.normal, 29, [(i64 n0)], st, [binA E0 .lss 3 (i64 n0) (i64 1) = some FF, binA E0 .gtr 3 (i64 n0) (i64 99999999) = some FF]) := by kernel_rfl
theorem f6_1_FF {n0 : Int} {st : St} (h1 : binA E0 .lss 3 (i64 n0) (i64 1) = some FF) (h2 : binA E0 .gtr 3 (i64 n0) (i64 99999999) = some FF) {T : Tm} (hT : f6L0 T (i64 n0)) : AW Tryz.prog (f6P 1) (fun ex T' st' => ex = .normal ∧ f6L0 T' (i64 n0) ∧ st' = st) T st := by
  obtain ⟨hn, g0⟩ := hT
  exact (gen_run (G := fun T => ([T.get 0] : List AV)) hE (f6_1_FF_e n0 st) (Ob.ok_cons.2 ⟨h1, (Ob.ok_cons.2 ⟨h2, Ob.ok_nil⟩)⟩) hn (one g0)).mono fun ex T' st' ⟨q1, q2, q3, q4⟩ => by simp only [List.cons.injEq, and_true] at q3; exact ⟨q1, ⟨q2, q3⟩, q4⟩
def f6L2 (T : Tm) (a0 a4 : AV) : Prop := T.n = 29 ∧ T.get 0 = a0 ∧ T.get 4 = a4
theorem f6_2_e (n0 : Int) (st s1 : St) (v12 : AV) : ((evS Tryz.prog E0 noOv noS 100000 [2012] (f6P 2) ⟨29, [(0, (i64 n0))], []⟩ st [.eff v12 (fun _ => s1)]).map fun q => (q.1, q.2.1.n, ([q.2.1.get 0, q.2.1.get 4] : List AV), q.2.2.1, q.2.2.2.2)) = some (.normal, 29, [(i64 n0), v12], s1, [makeSliceA E0 st 22 (i64 8) (i64 8) = some (v12, s1)]) := by kernel_rfl
theorem f6_2 {n0 : Int} {st s1 : St} {v12 : AV} (h1 : makeSliceA E0 st 22 (i64 8) (i64 8) = some (v12, s1)) {T : Tm} (hT : f6L0 T (i64 n0)) : AW Tryz.prog (f6P 2) (fun ex T' st' => ex = .normal ∧ f6L2 T' (i64 n0) v12 ∧ st' = s1) T st := by
  obtain ⟨hn, g0⟩ := hT
  exact (gen_run (G := fun T => ([T.get 0, T.get 4] : List AV)) hE (f6_2_e n0 st s1 v12) (Ob.ok_cons.2 ⟨h1, Ob.ok_nil⟩) hn (one g0)).mono fun ex T' st' ⟨q1, q2, q3, q4⟩ => by simp only [List.cons.injEq, and_true] at q3; exact ⟨q1, ⟨q2, q3⟩, q4⟩
def f6L3 (T : Tm) (a0 a4 a5 : AV) : Prop := T.n = 29 ∧ T.get 0 = a0 ∧ T.get 4 = a4 ∧ T.get 5 = a5
theorem f6_3_e (n0 : Int) (v4 : AV) (st : St) : ((evS Tryz.prog E0 noOv noS 100000 [] (f6P 3) ⟨29, [(0, (i64 n0)), (4, v4)], []⟩ st []).map fun q => (q.1, q.2.1.n, ([q.2.1.get 0, q.2.1.get 4, q.2.1.get 5] : List AV), q.2.2.1, q.2.2.2.2)) = some (.normal, 29, [(i64 n0), v4, (i64 7)], st, []) := by kernel_rfl
theorem f6_3 {n0 : Int} {v4 : AV} {st : St}  {T : Tm} (hT : f6L2 T (i64 n0) v4) : AW Tryz.prog (f6P 3) (fun ex T' st' => ex = .normal ∧ f6L3 T' (i64 n0) v4 (i64 7) ∧ st' = st) T st := by
  obtain ⟨hn, g0, g4⟩ := hT
  exact (gen_run (G := fun T => ([T.get 0, T.get 4, T.get 5] : List AV)) hE (f6_3_e n0 v4 st) Ob.ok_nil hn (conz g0 (one g4))).mono fun ex T' st' ⟨q1, q2, q3, q4⟩ => by simp only [List.cons.injEq, and_true] at q3; exact ⟨q1, ⟨q2, q3⟩, q4⟩
theorem f6_4_T_e (n0 n5 n20 n21 n22 n25 n16 : Int) (v4 q23 : AV) (st s1 : St) : ((evS Tryz.prog E0 noOv noS 100000 [2022, 5000, 7014, 7016, 7020, 7021, 7023, 7025] (f6P 4) ⟨29, [(0, (i64 n0)), (4, v4), (5, (i64 n5))], []⟩ st [.av TT, .av (i64 n20), .av (i64 n21), .eff (u8 n22) id, .av q23, .eff .undef (fun _ => s1), .av (i64 n25), .av (i64 n16)]).map fun q => (q.1, q.2.1.n, ([q.2.1.get 0, q.2.1.get 4, q.2.1.get 5] : List AV), q.2.2.1, q.2.2.2.2)) = some (.normal, 29, [(i64 n25), v4, (i64 n16)], s1, [binA E0 .geq 3 (i64 n5) (i64 0) = some TT, binA E0 .rem 3 (i64 n0) (i64 10) = some (i64 n20), binA E0 .add 3 (i64 48) (i64 n20) = some (i64 n21), convO E0 st 3 5 (i64 n21) = some ((u8 n22), st), indexAddrA E0 22 v4 (i64 n5) = some q23, storeA E0 st 5 q23 (u8 n22) = some s1, binA E0 .quo 3 (i64 n0) (i64 10) = some (i64 n25), binA E0 .sub 3 (i64 n5) (i64 1) = some (i64 n16)]) := by kernel_rfl
theorem f6_4_T {n0 n5 n20 n21 n22 n25 n16 : Int} {v4 q23 : AV} {st s1 : St} (h1 : binA E0 .geq 3 (i64 n5) (i64 0) = some TT) (h2 : binA E0 .rem 3 (i64 n0) (i64 10) = some (i64 n20)) (h3 : binA E0 .add 3 (i64 48) (i64 n20) = some (i64 n21)) (h4 : convO E0 st 3 5 (i64 n21) = some ((u8 n22), st)) (h5 : indexAddrA E0 22 v4 (i64 n5) = some q23) (h6 : storeA E0 st 5 q23 (u8 n22) = some s1) (h7 : binA E0 .quo 3 (i64 n0) (i64 10) = some (i64 n25)) (h8 : binA E0 .sub 3 (i64 n5) (i64 1) = some (i64 n16)) {T : Tm} (hT : f6L3 T (i64 n0) v4 (i64 n5)) : AW Tryz.prog (f6P 4) (fun ex T' st' => ex = .normal ∧ f6L3 T' (i64 n25) v4 (i64 n16) ∧ st' = s1) T st := by
  obtain ⟨hn, g0, g4, g5⟩ := hT
  exact (gen_run (G := fun T => ([T.get 0, T.get 4, T.get 5] : List AV)) hE (f6_4_T_e n0 n5 n20 n21 n22 n25 n16 v4 q23 st s1) (Ob.ok_cons.2 ⟨h1, (Ob.ok_cons.2 ⟨h2, (Ob.ok_cons.2 ⟨h3, (Ob.ok_cons.2 ⟨h4, (Ob.ok_cons.2 ⟨h5, (Ob.ok_cons.2 ⟨h6, (Ob.ok_cons.2 ⟨h7, (Ob.ok_cons.2 ⟨h8, Ob.ok_nil⟩)⟩)⟩)⟩)⟩)⟩)⟩)⟩) hn (conz g0 (conz g4 (one g5)))).mono fun ex T' st' ⟨q1, q2, q3, q4⟩ => by simp only [List.cons.injEq, and_true] at q3; exact ⟨q1, ⟨q2, q3⟩, q4⟩
def f6L4 (T : Tm) (a4 : AV) : Prop := T.n = 29 ∧ T.get 4 = a4
theorem f6_4_F_e (n0 n5 : Int) (v4 : AV) (st : St) : ((evS Tryz.prog E0 noOv noS 100000 [2022, 5000, 7014, 7016, 7020, 7021, 7023, 7025] (f6P 4) ⟨29, [(0, (i64 n0)), (4, v4), (5, (i64 n5))], []⟩ st [.av FF]).map fun q => (q.1, q.2.1.n, ([q.2.1.get 4] : List AV), q.2.2.1, q.2.2.2.2)) = some ((.exit 0), 29, [v4], st, [binA E0 .geq 3 (i64 n5) (i64 0) = some FF]) := by kernel_rfl
theorem f6_4_F {n0 n5 : Int} {v4 : AV} {st : St} (h1 : binA E0 .geq 3 (i64 n5) (i64 0) = some FF) {T : Tm} (hT : f6L3 T (i64 n0) v4 (i64 n5)) : AW Tryz.prog (f6P 4) (fun ex T' st' => ex = (.exit 0) ∧ f6L4 T' v4 ∧ st' = st) T st := by
  obtain ⟨hn, g0, g4, g5⟩ := hT
  exact (gen_run (G := fun T => ([T.get 4] : List AV)) hE (f6_4_F_e n0 n5 v4 st) (Ob.ok_cons.2 ⟨h1, Ob.ok_nil⟩) hn (conz g0 (conz g4 (one g5)))).mono fun ex T' st' ⟨q1, q2, q3, q4⟩ => by simp only [List.cons.injEq, and_true] at q3; exact ⟨q1, ⟨q2, q3⟩, q4⟩
theorem f6_5_e (v4 : AV) (st : St) (w27 w28 : ByteArray) : ((evS Tryz.prog E0 noOv noS 100000 [2027, 7028] (f6P 5) ⟨29, [(4, v4)], []⟩ st [.eff (str w27) id, .av (str w28)]).map fun q => (q.1, q.2.1.n, ([q.2.1.get 2, q.2.1.get 3] : List AV), q.2.2.1, q.2.2.2.2)) = some (.ret, 29, [(str w28), (i64 0)], st, [convO E0 st 22 9 v4 = some ((str w27), st), binA E0 .add 9 (str ⟨#[119, 97, 108, 45]⟩) (str w27) = some (str w28)]) := by kernel_rfl
theorem f6_5 {v4 : AV} {st : St} {w27 w28 : ByteArray} (h1 : convO E0 st 22 9 v4 = some ((str w27), st)) (h2 : binA E0 .add 9 (str ⟨#[119, 97, 108, 45]⟩) (str w27) = some (str w28)) {T : Tm} (hT : f6L4 T v4) : AW Tryz.prog (f6P 5) (fun ex T' st' => ex = .ret ∧ f6L1 T' (str w28) (i64 0) ∧ st' = st) T st := by
  obtain ⟨hn, g4⟩ := hT
  exact (gen_run (G := fun T => ([T.get 2, T.get 3] : List AV)) hE (f6_5_e v4 st w27 w28) (Ob.ok_cons.2 ⟨h1, (Ob.ok_cons.2 ⟨h2, Ob.ok_nil⟩)⟩) hn (one g4)).mono fun ex T' st' ⟨q1, q2, q3, q4⟩ => by simp only [List.cons.injEq, and_true] at q3; exact ⟨q1, ⟨q2, q3⟩, q4⟩
theorem f8_T_e (st : St) (x : AV) (n9 : Int) : evCallS Tryz.prog E0 noOv (fun _ => [2017, 2024, 2030, 2033, 6042, 6043, 7009, 7010, 7012, 7013, 7016]) 100000 8 [x] st [.av (i64 n9), .av TT] = some ((.tup [.nils, (i64 1)]), st, [], [lenA E0 22 x = some (i64 n9), binA E0 .eql 3 (i64 n9) (i64 0) = some TT]) := by kernel_rfl
theorem f8_T {st : St} {x : AV} {n9 : Int} (h1 : lenA E0 22 x = some (i64 n9)) (h2 : binA E0 .eql 3 (i64 n9) (i64 0) = some TT) : obC 8 [x] st (.tup [.nils, (i64 1)]) st := ACalls.run hE noOv_ok (f8_T_e st x n9) (Ob.ok_cons.2 ⟨h1, (Ob.ok_cons.2 ⟨h2, Ob.ok_nil⟩)⟩)
theorem f8_FT_e (st : St) (x : AV) (n9 n12 : Int) : evCallS Tryz.prog E0 noOv (fun _ => [2017, 2024, 2030, 2033, 6042, 6043, 7009, 7010, 7012, 7013, 7016]) 100000 8 [x] st [.av (i64 n9), .av FF, .av (i64 n12), .av TT] = some ((.tup [.nils, (i64 3)]), st, [], [lenA E0 22 x = some (i64 n9), binA E0 .eql 3 (i64 n9) (i64 0) = some FF, lenA E0 22 x = some (i64 n12), binA E0 .gtr 3 (i64 n12) (i64 4096) = some TT]) := by kernel_rfl
theorem f8_FT {st : St} {x : AV} {n9 n12 : Int} (h1 : lenA E0 22 x = some (i64 n9)) (h2 : binA E0 .eql 3 (i64 n9) (i64 0) = some FF) (h3 : lenA E0 22 x = some (i64 n12)) (h4 : binA E0 .gtr 3 (i64 n12) (i64 4096) = some TT) : obC 8 [x] st (.tup [.nils, (i64 3)]) st := ACalls.run hE noOv_ok (f8_FT_e st x n9 n12) (Ob.ok_cons.2 ⟨h1, (Ob.ok_cons.2 ⟨h2, (Ob.ok_cons.2 ⟨h3, (Ob.ok_cons.2 ⟨h4, Ob.ok_nil⟩)⟩)⟩)⟩)
theorem f8_FF_e (st s1 s2 s3 s4 s5 : St) (x v18a v25a v30 v33 : AV) (n9 n12 n16 n17 n18b n23 n24 n25b : Int) : evCallS Tryz.prog E0 noOv (fun _ => [2017, 2024, 2030, 2033, 6042, 6043, 7009, 7010, 7012, 7013, 7016]) 100000 8 [x] st [.av (i64 n9), .av FF, .av (i64 n12), .av FF, .av (i64 n16), .eff (u64 n17) id, .eff (.tup [v18a, (i64 n18b)]) (fun _ => s1), .eff (u32 n23) (fun _ => s2), .eff (u64 n24) id, .eff (.tup [v25a, (i64 n25b)]) (fun _ => s3), .eff v30 (fun _ => s4), .eff v33 (fun _ => s5)] = some ((.tup [v33, (i64 0)]), s5, [], [lenA E0 22 x = some (i64 n9), binA E0 .eql 3 (i64 n9) (i64 0) = some FF, lenA E0 22 x = some (i64 n12), binA E0 .gtr 3 (i64 n12) (i64 4096) = some FF, lenA E0 22 x = some (i64 n16), convO E0 st 3 79 (i64 n16) = some ((u64 n17), st), obC 42 [.nils, (u64 n17), (i64 4)] st (.tup [v18a, (i64 n18b)]) s1, obC 43 [x] s1 (u32 n23) s2, convO E0 s2 80 79 (u32 n23) = some ((u64 n24), s2), obC 42 [.nils, (u64 n24), (i64 4)] s2 (.tup [v25a, (i64 n25b)]) s3, appendA E0 s3 22 22 v18a v25a = some (v30, s4), appendA E0 s4 22 22 v30 x = some (v33, s5)]) := by kernel_rfl
theorem f8_FF {st s1 s2 s3 s4 s5 : St} {x v18a v25a v30 v33 : AV} {n9 n12 n16 n17 n18b n23 n24 n25b : Int} (h1 : lenA E0 22 x = some (i64 n9)) (h2 : binA E0 .eql 3 (i64 n9) (i64 0) = some FF) (h3 : lenA E0 22 x = some (i64 n12)) (h4 : binA E0 .gtr 3 (i64 n12) (i64 4096) = some FF) (h5 : lenA E0 22 x = some (i64 n16)) (h6 : convO E0 st 3 79 (i64 n16) = some ((u64 n17), st)) (h7 : obC 42 [.nils, (u64 n17), (i64 4)] st (.tup [v18a, (i64 n18b)]) s1) (h8 : obC 43 [x] s1 (u32 n23) s2) (h9 : convO E0 s2 80 79 (u32 n23) = some ((u64 n24), s2)) (h10 : obC 42 [.nils, (u64 n24), (i64 4)] s2 (.tup [v25a, (i64 n25b)]) s3) (h11 : appendA E0 s3 22 22 v18a v25a = some (v30, s4)) (h12 : appendA E0 s4 22 22 v30 x = some (v33, s5)) : obC 8 [x] st (.tup [v33, (i64 0)]) s5 := ACalls.run hE noOv_ok (f8_FF_e st s1 s2 s3 s4 s5 x v18a v25a v30 v33 n9 n12 n16 n17 n18b n23 n24 n25b) (Ob.ok_cons.2 ⟨h1, (Ob.ok_cons.2 ⟨h2, (Ob.ok_cons.2 ⟨h3, (Ob.ok_cons.2 ⟨h4, (Ob.ok_cons.2 ⟨h5, (Ob.ok_cons.2 ⟨h6, (Ob.ok_cons.2 ⟨h7, (Ob.ok_cons.2 ⟨h8, (Ob.ok_cons.2 ⟨h9, (Ob.ok_cons.2 ⟨h10, (Ob.ok_cons.2 ⟨h11, (Ob.ok_cons.2 ⟨h12, Ob.ok_nil⟩)⟩)⟩)⟩)⟩)⟩)⟩)⟩)⟩)⟩)⟩)⟩)
theorem f85_e (st s1 : St) (x v6 : AV) : evCallS Tryz.prog E0 noOv (fun _ => [2006]) 100000 85 [x] st [.eff v6 (fun _ => s1)] = some (v6, s1, [], [appendA E0 st 22 22 .nils x = some (v6, s1)]) := by kernel_rfl
theorem f85 {st s1 : St} {x v6 : AV} (h1 : appendA E0 st 22 22 .nils x = some (v6, s1)) : obC 85 [x] st v6 s1 := ACalls.run hE noOv_ok (f85_e st s1 x v6) (Ob.ok_cons.2 ⟨h1, Ob.ok_nil⟩)
noncomputable def f42P (i : Nat) : Code := match Tryz.f42.body with
  | some (.seq x0 (.seq x1 (.seq x2 (.seq (.seq x3 (.block 0 (.loop x4))) x5)))) => [x0, x1, x2, x3, x4, x5].getD i .skip
  | _ => .skip
theorem f42body : Tryz.f42.body = some (.seq (f42P 0) (.seq (f42P 1) (.seq (f42P 2) (.seq (.seq (f42P 3) (.block 0 (.loop (f42P 4)))) (f42P 5))))) := by kernel_rfl
def f42L0 (T : Tm) (a0 a1 a2 : AV) : Prop := T.n = 35 ∧ T.get 0 = a0 ∧ T.get 1 = a1 ∧ T.get 2 = a2
theorem f42_0_e (v0 : AV) (n1 n2 : Int) (st : St) : ((evS Tryz.prog E0 noOv noS 100000 [] (f42P 0) ⟨35, [(0, v0), (1, (u64 n1)), (2, (i64 n2))], []⟩ st []).map fun q => (q.1, q.2.1.n, ([q.2.1.get 0, q.2.1.get 1, q.2.1.get 2] : List AV), q.2.2.1, q.2.2.2.2)) = some (.normal, 35, [v0, (u64 n1), (i64 n2)], st, []) := by kernel_rfl
theorem f42_0 {v0 : AV} {n1 n2 : Int} {st : St}  {T : Tm} (hT : f42L0 T v0 (u64 n1) (i64 n2)) : AW Tryz.prog (f42P 0) (fun ex T' st' => ex = .normal ∧ f42L0 T' v0 (u64 n1) (i64 n2) ∧ st' = st) T st := by
  obtain ⟨hn, g0, g1, g2⟩ := hT
  exact (gen_run (G := fun T => ([T.get 0, T.get 1, T.get 2] : List AV)) hE (f42_0_e v0 n1 n2 st) Ob.ok_nil hn (conz g0 (conz g1 (one g2)))).mono fun ex T' st' ⟨q1, q2, q3, q4⟩ => by simp only [List.cons.injEq, and_true] at q3; exact ⟨q1, ⟨q2, q3⟩, q4⟩
theorem f42_1_T_e (v0 : AV) (n1 n2 : Int) (st s1 : St) : ((evS Tryz.prog E0 noOv noS 100000 [6084] (f42P 1) ⟨35, [(0, v0), (1, (u64 n1)), (2, (i64 n2))], []⟩ st [.eff TT (fun _ => s1)]).map fun q => (q.1, q.2.1.n, ([q.2.1.get 0, q.2.1.get 1, q.2.1.get 2] : List AV), q.2.2.1, q.2.2.2.2)) = some (.normal, 35, [v0, (u64 n1), (i64 n2)], s1, [obC 84 [(i64 n2)] st TT s1]) := by kernel_rfl
theorem f42_1_T {v0 : AV} {n1 n2 : Int} {st s1 : St} (h1 : obC 84 [(i64 n2)] st TT s1) {T : Tm} (hT : f42L0 T v0 (u64 n1) (i64 n2)) : AW Tryz.prog (f42P 1) (fun ex T' st' => ex = .normal ∧ f42L0 T' v0 (u64 n1) (i64 n2) ∧ st' = s1) T st := by
  obtain ⟨hn, g0, g1, g2⟩ := hT
  exact (gen_run (G := fun T => ([T.get 0, T.get 1, T.get 2] : List AV)) hE (f42_1_T_e v0 n1 n2 st s1) (Ob.ok_cons.2 ⟨h1, Ob.ok_nil⟩) hn (conz g0 (conz g1 (one g2)))).mono fun ex T' st' ⟨q1, q2, q3, q4⟩ => by simp only [List.cons.injEq, and_true] at q3; exact ⟨q1, ⟨q2, q3⟩, q4⟩
def f42L1 (T : Tm) (a6 a7 : AV) : Prop := T.n = 35 ∧ T.get 6 = a6 ∧ T.get 7 = a7
theorem f42_1_F_e (v0 : AV) (n1 n2 : Int) (st s1 : St) : ((evS Tryz.prog E0 noOv noS 100000 [6084] (f42P 1) ⟨35, [(0, v0), (1, (u64 n1)), (2, (i64 n2))], []⟩ st [.eff FF (fun _ => s1)]).map fun q => (q.1, q.2.1.n, ([q.2.1.get 6, q.2.1.get 7] : List AV), q.2.2.1, q.2.2.2.2)) = some (.ret, 35, [.nils, (i64 1)], s1, [obC 84 [(i64 n2)] st FF s1]) := by kernel_rfl
theorem f42_1_F {v0 : AV} {n1 n2 : Int} {st s1 : St} (h1 : obC 84 [(i64 n2)] st FF s1) {T : Tm} (hT : f42L0 T v0 (u64 n1) (i64 n2)) : AW Tryz.prog (f42P 1) (fun ex T' st' => ex = .ret ∧ f42L1 T' .nils (i64 1) ∧ st' = s1) T st := by
  obtain ⟨hn, g0, g1, g2⟩ := hT
  exact (gen_run (G := fun T => ([T.get 6, T.get 7] : List AV)) hE (f42_1_F_e v0 n1 n2 st s1) (Ob.ok_cons.2 ⟨h1, Ob.ok_nil⟩) hn (conz g0 (conz g1 (one g2)))).mono fun ex T' st' ⟨q1, q2, q3, q4⟩ => by simp only [List.cons.injEq, and_true] at q3; exact ⟨q1, ⟨q2, q3⟩, q4⟩
def f42L2 (T : Tm) (a0 a1 a2 a8 : AV) : Prop := T.n = 35 ∧ T.get 0 = a0 ∧ T.get 1 = a1 ∧ T.get 2 = a2 ∧ T.get 8 = a8
theorem f42_2_e (v0 v14 : AV) (n1 n2 : Int) (st s1 : St) : ((evS Tryz.prog E0 noOv noS 100000 [2014] (f42P 2) ⟨35, [(0, v0), (1, (u64 n1)), (2, (i64 n2))], []⟩ st [.eff v14 (fun _ => s1)]).map fun q => (q.1, q.2.1.n, ([q.2.1.get 0, q.2.1.get 1, q.2.1.get 2, q.2.1.get 8] : List AV), q.2.2.1, q.2.2.2.2)) = some (.normal, 35, [v0, (u64 n1), (i64 n2), v14], s1, [makeSliceA E0 st 22 (i64 n2) (i64 n2) = some (v14, s1)]) := by kernel_rfl
theorem f42_2 {v0 v14 : AV} {n1 n2 : Int} {st s1 : St} (h1 : makeSliceA E0 st 22 (i64 n2) (i64 n2) = some (v14, s1)) {T : Tm} (hT : f42L0 T v0 (u64 n1) (i64 n2)) : AW Tryz.prog (f42P 2) (fun ex T' st' => ex = .normal ∧ f42L2 T' v0 (u64 n1) (i64 n2) v14 ∧ st' = s1) T st := by
  obtain ⟨hn, g0, g1, g2⟩ := hT
  exact (gen_run (G := fun T => ([T.get 0, T.get 1, T.get 2, T.get 8] : List AV)) hE (f42_2_e v0 v14 n1 n2 st s1) (Ob.ok_cons.2 ⟨h1, Ob.ok_nil⟩) hn (conz g0 (conz g1 (one g2)))).mono fun ex T' st' ⟨q1, q2, q3, q4⟩ => by simp only [List.cons.injEq, and_true] at q3; exact ⟨q1, ⟨q2, q3⟩, q4⟩
def f42L3 (T : Tm) (a0 a1 a8 a9 : AV) : Prop := T.n = 35 ∧ T.get 0 = a0 ∧ T.get 1 = a1 ∧ T.get 8 = a8 ∧ T.get 9 = a9
theorem f42_3_e (v0 v8 : AV) (n1 n2 n16 : Int) (st : St) : ((evS Tryz.prog E0 noOv noS 100000 [7016] (f42P 3) ⟨35, [(0, v0), (1, (u64 n1)), (2, (i64 n2)), (8, v8)], []⟩ st [.av (i64 n16)]).map fun q => (q.1, q.2.1.n, ([q.2.1.get 0, q.2.1.get 1, q.2.1.get 8, q.2.1.get 9] : List AV), q.2.2.1, q.2.2.2.2)) = some (.normal, 35, [v0, (u64 n1), v8, (i64 n16)], st, [binA E0 .sub 3 (i64 n2) (i64 1) = some (i64 n16)]) := by kernel_rfl
theorem f42_3 {v0 v8 : AV} {n1 n2 n16 : Int} {st : St} (h1 : binA E0 .sub 3 (i64 n2) (i64 1) = some (i64 n16)) {T : Tm} (hT : f42L2 T v0 (u64 n1) (i64 n2) v8) : AW Tryz.prog (f42P 3) (fun ex T' st' => ex = .normal ∧ f42L3 T' v0 (u64 n1) v8 (i64 n16) ∧ st' = st) T st := by
  obtain ⟨hn, g0, g1, g2, g8⟩ := hT
  exact (gen_run (G := fun T => ([T.get 0, T.get 1, T.get 8, T.get 9] : List AV)) hE (f42_3_e v0 v8 n1 n2 n16 st) (Ob.ok_cons.2 ⟨h1, Ob.ok_nil⟩) hn (conz g0 (conz g1 (conz g2 (one g8))))).mono fun ex T' st' ⟨q1, q2, q3, q4⟩ => by simp only [List.cons.injEq, and_true] at q3; exact ⟨q1, ⟨q2, q3⟩, q4⟩
theorem f42_4_T_e (v0 v8 q26 : AV) (n1 n9 n24 n25 n28 n20 : Int) (st s1 : St) : ((evS Tryz.prog E0 noOv noS 100000 [2025, 5000, 7018, 7020, 7024, 7026, 7028] (f42P 4) ⟨35, [(0, v0), (1, (u64 n1)), (8, v8), (9, (i64 n9))], []⟩ st [.av TT, .av (u64 n24), .eff (u8 n25) id, .av q26, .eff .undef (fun _ => s1), .av (u64 n28), .av (i64 n20)]).map fun q => (q.1, q.2.1.n, ([q.2.1.get 0, q.2.1.get 1, q.2.1.get 8, q.2.1.get 9] : List AV), q.2.2.1, q.2.2.2.2)) = some (.normal, 35, [v0, (u64 n28), v8, (i64 n20)], s1, [binA E0 .geq 3 (i64 n9) (i64 0) = some TT, binA E0 .rem 79 (u64 n1) (u64 256) = some (u64 n24), convO E0 st 79 5 (u64 n24) = some ((u8 n25), st), indexAddrA E0 22 v8 (i64 n9) = some q26, storeA E0 st 5 q26 (u8 n25) = some s1, binA E0 .quo 79 (u64 n1) (u64 256) = some (u64 n28), binA E0 .sub 3 (i64 n9) (i64 1) = some (i64 n20)]) := by kernel_rfl
theorem f42_4_T {v0 v8 q26 : AV} {n1 n9 n24 n25 n28 n20 : Int} {st s1 : St} (h1 : binA E0 .geq 3 (i64 n9) (i64 0) = some TT) (h2 : binA E0 .rem 79 (u64 n1) (u64 256) = some (u64 n24)) (h3 : convO E0 st 79 5 (u64 n24) = some ((u8 n25), st)) (h4 : indexAddrA E0 22 v8 (i64 n9) = some q26) (h5 : storeA E0 st 5 q26 (u8 n25) = some s1) (h6 : binA E0 .quo 79 (u64 n1) (u64 256) = some (u64 n28)) (h7 : binA E0 .sub 3 (i64 n9) (i64 1) = some (i64 n20)) {T : Tm} (hT : f42L3 T v0 (u64 n1) v8 (i64 n9)) : AW Tryz.prog (f42P 4) (fun ex T' st' => ex = .normal ∧ f42L3 T' v0 (u64 n28) v8 (i64 n20) ∧ st' = s1) T st := by
  obtain ⟨hn, g0, g1, g8, g9⟩ := hT
  exact (gen_run (G := fun T => ([T.get 0, T.get 1, T.get 8, T.get 9] : List AV)) hE (f42_4_T_e v0 v8 q26 n1 n9 n24 n25 n28 n20 st s1) (Ob.ok_cons.2 ⟨h1, (Ob.ok_cons.2 ⟨h2, (Ob.ok_cons.2 ⟨h3, (Ob.ok_cons.2 ⟨h4, (Ob.ok_cons.2 ⟨h5, (Ob.ok_cons.2 ⟨h6, (Ob.ok_cons.2 ⟨h7, Ob.ok_nil⟩)⟩)⟩)⟩)⟩)⟩)⟩) hn (conz g0 (conz g1 (conz g8 (one g9))))).mono fun ex T' st' ⟨q1, q2, q3, q4⟩ => by simp only [List.cons.injEq, and_true] at q3; exact ⟨q1, ⟨q2, q3⟩, q4⟩
def f42L4 (T : Tm) (a0 a1 a8 : AV) : Prop := T.n = 35 ∧ T.get 0 = a0 ∧ T.get 1 = a1 ∧ T.get 8 = a8
theorem f42_4_F_e (v0 v8 : AV) (n1 n9 : Int) (st : St) : ((evS Tryz.prog E0 noOv noS 100000 [2025, 5000, 7018, 7020, 7024, 7026, 7028] (f42P 4) ⟨35, [(0, v0), (1, (u64 n1)), (8, v8), (9, (i64 n9))], []⟩ st [.av FF]).map fun q => (q.1, q.2.1.n, ([q.2.1.get 0, q.2.1.get 1, q.2.1.get 8] : List AV), q.2.2.1, q.2.2.2.2)) = some ((.exit 0), 35, [v0, (u64 n1), v8], st, [binA E0 .geq 3 (i64 n9) (i64 0) = some FF]) := by kernel_rfl
theorem f42_4_F {v0 v8 : AV} {n1 n9 : Int} {st : St} (h1 : binA E0 .geq 3 (i64 n9) (i64 0) = some FF) {T : Tm} (hT : f42L3 T v0 (u64 n1) v8 (i64 n9)) : AW Tryz.prog (f42P 4) (fun ex T' st' => ex = (.exit 0) ∧ f42L4 T' v0 (u64 n1) v8 ∧ st' = st) T st := by
  obtain ⟨hn, g0, g1, g8, g9⟩ := hT
  exact (gen_run (G := fun T => ([T.get 0, T.get 1, T.get 8] : List AV)) hE (f42_4_F_e v0 v8 n1 n9 st) (Ob.ok_cons.2 ⟨h1, Ob.ok_nil⟩) hn (conz g0 (conz g1 (conz g8 (one g9))))).mono fun ex T' st' ⟨q1, q2, q3, q4⟩ => by simp only [List.cons.injEq, and_true] at q3; exact ⟨q1, ⟨q2, q3⟩, q4⟩
theorem f42_5_T_e (v0 v8 : AV) (n1 : Int) (st : St) : ((evS Tryz.prog E0 noOv noS 100000 [2034, 6085, 7030] (f42P 5) ⟨35, [(0, v0), (1, (u64 n1)), (8, v8)], []⟩ st [.av TT]).map fun q => (q.1, q.2.1.n, ([q.2.1.get 6, q.2.1.get 7] : List AV), q.2.2.1, q.2.2.2.2)) = some (.ret, 35, [.nils, (i64 3)], st, [binA E0 .gtr 79 (u64 n1) (u64 0) = some TT]) := by kernel_rfl
theorem f42_5_T {v0 v8 : AV} {n1 : Int} {st : St} (h1 : binA E0 .gtr 79 (u64 n1) (u64 0) = some TT) {T : Tm} (hT : f42L4 T v0 (u64 n1) v8) : AW Tryz.prog (f42P 5) (fun ex T' st' => ex = .ret ∧ f42L1 T' .nils (i64 3) ∧ st' = st) T st := by
  obtain ⟨hn, g0, g1, g8⟩ := hT
  exact (gen_run (G := fun T => ([T.get 6, T.get 7] : List AV)) hE (f42_5_T_e v0 v8 n1 st) (Ob.ok_cons.2 ⟨h1, Ob.ok_nil⟩) hn (conz g0 (conz g1 (one g8)))).mono fun ex T' st' ⟨q1, q2, q3, q4⟩ => by simp only [List.cons.injEq, and_true] at q3; exact ⟨q1, ⟨q2, q3⟩, q4⟩
theorem f42_5_F_e (v0 v8 v32 v34 : AV) (n1 : Int) (st s1 s2 : St) : ((evS Tryz.prog E0 noOv noS 100000 [2034, 6085, 7030] (f42P 5) ⟨35, [(0, v0), (1, (u64 n1)), (8, v8)], []⟩ st [.av FF, .eff v32 (fun _ => s1), .eff v34 (fun _ => s2)]).map fun q => (q.1, q.2.1.n, ([q.2.1.get 6, q.2.1.get 7] : List AV), q.2.2.1, q.2.2.2.2)) = some (.ret, 35, [v34, (i64 0)], s2, [binA E0 .gtr 79 (u64 n1) (u64 0) = some FF, obC 85 [v0] st v32 s1, appendA E0 s1 22 22 v32 v8 = some (v34, s2)]) := by kernel_rfl
theorem f42_5_F {v0 v8 v32 v34 : AV} {n1 : Int} {st s1 s2 : St} (h1 : binA E0 .gtr 79 (u64 n1) (u64 0) = some FF) (h2 : obC 85 [v0] st v32 s1) (h3 : appendA E0 s1 22 22 v32 v8 = some (v34, s2)) {T : Tm} (hT : f42L4 T v0 (u64 n1) v8) : AW Tryz.prog (f42P 5) (fun ex T' st' => ex = .ret ∧ f42L1 T' v34 (i64 0) ∧ st' = s2) T st := by
  obtain ⟨hn, g0, g1, g8⟩ := hT
  exact (gen_run (G := fun T => ([T.get 6, T.get 7] : List AV)) hE (f42_5_F_e v0 v8 v32 v34 n1 st s1 s2) (Ob.ok_cons.2 ⟨h1, (Ob.ok_cons.2 ⟨h2, (Ob.ok_cons.2 ⟨h3, Ob.ok_nil⟩)⟩)⟩) hn (conz g0 (conz g1 (one g8)))).mono fun ex T' st' ⟨q1, q2, q3, q4⟩ => by simp only [List.cons.injEq, and_true] at q3; exact ⟨q1, ⟨q2, q3⟩, q4⟩
noncomputable def f43P (i : Nat) : Code := match Tryz.f43.body with
  | some (.seq x0 (.seq x1 (.seq (.seq x2 (.block 0 (.loop x3))) (.seq x4 (.seq (.seq x5 (.block 2 (.loop x6))) x7))))) => [x0, x1, x2, x3, x4, x5, x6, x7].getD i .skip
  | _ => .skip
theorem f43body : Tryz.f43.body = some (.seq (f43P 0) (.seq (f43P 1) (.seq (.seq (f43P 2) (.block 0 (.loop (f43P 3)))) (.seq (f43P 4) (.seq (.seq (f43P 5) (.block 2 (.loop (f43P 6)))) (f43P 7)))))) := by kernel_rfl
def f43L0 (T : Tm) (a0 : AV) : Prop := T.n = 62 ∧ T.get 0 = a0
theorem f43_0_e (v0 : AV) (st : St) : ((evS Tryz.prog E0 noOv noS 100000 [] (f43P 0) ⟨62, [(0, v0)], []⟩ st []).map fun q => (q.1, q.2.1.n, ([q.2.1.get 0] : List AV), q.2.2.1, q.2.2.2.2)) = some (.normal, 62, [v0], st, []) := by kernel_rfl
theorem f43_0 {v0 : AV} {st : St}  {T : Tm} (hT : f43L0 T v0) : AW Tryz.prog (f43P 0) (fun ex T' st' => ex = .normal ∧ f43L0 T' v0 ∧ st' = st) T st := by
  obtain ⟨hn, g0⟩ := hT
  exact (gen_run (G := fun T => ([T.get 0] : List AV)) hE (f43_0_e v0 st) Ob.ok_nil hn (one g0)).mono fun ex T' st' ⟨q1, q2, q3, q4⟩ => by simp only [List.cons.injEq, and_true] at q3; exact ⟨q1, ⟨q2, q3⟩, q4⟩
def f43L1 (T : Tm) (a0 a3 : AV) : Prop := T.n = 62 ∧ T.get 0 = a0 ∧ T.get 3 = a3
theorem f43_1_e (v0 : AV) (st : St) : ((evS Tryz.prog E0 noOv noS 100000 [] (f43P 1) ⟨62, [(0, v0)], []⟩ st []).map fun q => (q.1, q.2.1.n, ([q.2.1.get 0, q.2.1.get 3] : List AV), q.2.2.1, q.2.2.2.2)) = some (.normal, 62, [v0, (u64 0)], st, []) := by kernel_rfl
theorem f43_1 {v0 : AV} {st : St}  {T : Tm} (hT : f43L0 T v0) : AW Tryz.prog (f43P 1) (fun ex T' st' => ex = .normal ∧ f43L1 T' v0 (u64 0) ∧ st' = st) T st := by
  obtain ⟨hn, g0⟩ := hT
  exact (gen_run (G := fun T => ([T.get 0, T.get 3] : List AV)) hE (f43_1_e v0 st) Ob.ok_nil hn (one g0)).mono fun ex T' st' ⟨q1, q2, q3, q4⟩ => by simp only [List.cons.injEq, and_true] at q3; exact ⟨q1, ⟨q2, q3⟩, q4⟩
def f43L2 (T : Tm) (a0 a3 a4 : AV) : Prop := T.n = 62 ∧ T.get 0 = a0 ∧ T.get 3 = a3 ∧ T.get 4 = a4
theorem f43_2_e (v0 : AV) (n3 : Int) (st : St) : ((evS Tryz.prog E0 noOv noS 100000 [] (f43P 2) ⟨62, [(0, v0), (3, (u64 n3))], []⟩ st []).map fun q => (q.1, q.2.1.n, ([q.2.1.get 0, q.2.1.get 3, q.2.1.get 4] : List AV), q.2.2.1, q.2.2.2.2)) = some (.normal, 62, [v0, (u64 n3), (i64 0)], st, []) := by kernel_rfl
theorem f43_2 {v0 : AV} {n3 : Int} {st : St}  {T : Tm} (hT : f43L1 T v0 (u64 n3)) : AW Tryz.prog (f43P 2) (fun ex T' st' => ex = .normal ∧ f43L2 T' v0 (u64 n3) (i64 0) ∧ st' = st) T st := by
  obtain ⟨hn, g0, g3⟩ := hT
  exact (gen_run (G := fun T => ([T.get 0, T.get 3, T.get 4] : List AV)) hE (f43_2_e v0 n3 st) Ob.ok_nil hn (conz g0 (one g3))).mono fun ex T' st' ⟨q1, q2, q3, q4⟩ => by simp only [List.cons.injEq, and_true] at q3; exact ⟨q1, ⟨q2, q3⟩, q4⟩
theorem f43_3_TTTT_e (v0 q24 : AV) (n3 n4 n10 n11 n12 n18 n19 n23 n25 n26 n28 n29 n30 n31 n35 n37 n39 n41 n44 n15 : Int) (st : St) : ((evS Tryz.prog E0 noOv noS 100000 [2025, 2026, 2029, 7010, 7011, 7012, 7013, 7015, 7018, 7019, 7020, 7023, 7024, 7028, 7030, 7031, 7033, 7035, 7037, 7039, 7041, 7042, 7044] (f43P 3) ⟨62, [(0, v0), (3, (u64 n3)), (4, (i64 n4))], []⟩ st [.av (i64 n10), .av (i64 n11), .av (i64 n12), .av TT, .av (i64 n18), .av (i64 n19), .av TT, .av (i64 n23), .av q24, .eff (u8 n25) id, .eff (u64 n26) id, .av (i64 n28), .eff (u64 n29) id, .av (u64 n30), .av (u64 n31), .av TT, .av (u64 n35), .av (u64 n37), .av (u64 n39), .av (u64 n41), .av TT, .av (u64 n44), .av (i64 n15)]).map fun q => (q.1, q.2.1.n, ([q.2.1.get 0, q.2.1.get 3, q.2.1.get 4] : List AV), q.2.2.1, q.2.2.2.2)) = some (.normal, 62, [v0, (u64 n44), (i64 n15)], st, [lenA E0 22 v0 = some (i64 n10), binA E0 .mul 3 (i64 8) (i64 n10) = some (i64 n11), binA E0 .add 3 (i64 n11) (i64 32) = some (i64 n12), binA E0 .lss 3 (i64 n4) (i64 n12) = some TT, lenA E0 22 v0 = some (i64 n18), binA E0 .mul 3 (i64 8) (i64 n18) = some (i64 n19), binA E0 .lss 3 (i64 n4) (i64 n19) = some TT, binA E0 .quo 3 (i64 n4) (i64 8) = some (i64 n23), indexAddrA E0 22 v0 (i64 n23) = some q24, loadA E0 st 5 q24 = some (u8 n25) ∧ st = st, convO E0 st 5 79 (u8 n25) = some ((u64 n26), st), binA E0 .rem 3 (i64 n4) (i64 8) = some (i64 n28), convO E0 st 3 53 (i64 n28) = some ((u64 n29), st), binA E0 .shr 79 (u64 n26) (u64 n29) = some (u64 n30), binA E0 .and 79 (u64 n30) (u64 1) = some (u64 n31), binA E0 .lss 3 (i64 n4) (i64 32) = some TT, binA E0 .xor 79 (u64 n31) (u64 1) = some (u64 n35), binA E0 .mul 79 (u64 2) (u64 n3) = some (u64 n37), binA E0 .add 79 (u64 n37) (u64 n35) = some (u64 n39), binA E0 .shr 79 (u64 n39) (u64 32) = some (u64 n41), binA E0 .eql 79 (u64 n41) (u64 1) = some TT, binA E0 .xor 79 (u64 n39) (u64 4374732215) = some (u64 n44), binA E0 .add 3 (i64 n4) (i64 1) = some (i64 n15)]) := by kernel_rfl
theorem f43_3_TTTT {v0 q24 : AV} {n3 n4 n10 n11 n12 n18 n19 n23 n25 n26 n28 n29 n30 n31 n35 n37 n39 n41 n44 n15 : Int} {st : St} (h1 : lenA E0 22 v0 = some (i64 n10)) (h2 : binA E0 .mul 3 (i64 8) (i64 n10) = some (i64 n11)) (h3 : binA E0 .add 3 (i64 n11) (i64 32) = some (i64 n12)) (h4 : binA E0 .lss 3 (i64 n4) (i64 n12) = some TT) (h5 : lenA E0 22 v0 = some (i64 n18)) (h6 : binA E0 .mul 3 (i64 8) (i64 n18) = some (i64 n19)) (h7 : binA E0 .lss 3 (i64 n4) (i64 n19) = some TT) (h8 : binA E0 .quo 3 (i64 n4) (i64 8) = some (i64 n23)) (h9 : indexAddrA E0 22 v0 (i64 n23) = some q24) (h10 : loadA E0 st 5 q24 = some (u8 n25)) (h11 : convO E0 st 5 79 (u8 n25) = some ((u64 n26), st)) (h12 : binA E0 .rem 3 (i64 n4) (i64 8) = some (i64 n28)) (h13 : convO E0 st 3 53 (i64 n28) = some ((u64 n29), st)) (h14 : binA E0 .shr 79 (u64 n26) (u64 n29) = some (u64 n30)) (h15 : binA E0 .and 79 (u64 n30) (u64 1) = some (u64 n31)) (h16 : binA E0 .lss 3 (i64 n4) (i64 32) = some TT) (h17 : binA E0 .xor 79 (u64 n31) (u64 1) = some (u64 n35)) (h18 : binA E0 .mul 79 (u64 2) (u64 n3) = some (u64 n37)) (h19 : binA E0 .add 79 (u64 n37) (u64 n35) = some (u64 n39)) (h20 : binA E0 .shr 79 (u64 n39) (u64 32) = some (u64 n41)) (h21 : binA E0 .eql 79 (u64 n41) (u64 1) = some TT) (h22 : binA E0 .xor 79 (u64 n39) (u64 4374732215) = some (u64 n44)) (h23 : binA E0 .add 3 (i64 n4) (i64 1) = some (i64 n15)) {T : Tm} (hT : f43L2 T v0 (u64 n3) (i64 n4)) : AW Tryz.prog (f43P 3) (fun ex T' st' => ex = .normal ∧ f43L2 T' v0 (u64 n44) (i64 n15) ∧ st' = st) T st := by
  obtain ⟨hn, g0, g3, g4⟩ := hT
  exact (gen_run (G := fun T => ([T.get 0, T.get 3, T.get 4] : List AV)) hE (f43_3_TTTT_e v0 q24 n3 n4 n10 n11 n12 n18 n19 n23 n25 n26 n28 n29 n30 n31 n35 n37 n39 n41 n44 n15 st) (Ob.ok_cons.2 ⟨h1, (Ob.ok_cons.2 ⟨h2, (Ob.ok_cons.2 ⟨h3, (Ob.ok_cons.2 ⟨h4, (Ob.ok_cons.2 ⟨h5, (Ob.ok_cons.2 ⟨h6, (Ob.ok_cons.2 ⟨h7, (Ob.ok_cons.2 ⟨h8, (Ob.ok_cons.2 ⟨h9, (Ob.ok_cons.2 ⟨⟨h10, rfl⟩, (Ob.ok_cons.2 ⟨h11, (Ob.ok_cons.2 ⟨h12, (Ob.ok_cons.2 ⟨h13, (Ob.ok_cons.2 ⟨h14, (Ob.ok_cons.2 ⟨h15, (Ob.ok_cons.2 ⟨h16, (Ob.ok_cons.2 ⟨h17, (Ob.ok_cons.2 ⟨h18, (Ob.ok_cons.2 ⟨h19, (Ob.ok_cons.2 ⟨h20, (Ob.ok_cons.2 ⟨h21, (Ob.ok_cons.2 ⟨h22, (Ob.ok_cons.2 ⟨h23, Ob.ok_nil⟩)⟩)⟩)⟩)⟩)⟩)⟩)⟩)⟩)⟩)⟩)⟩)⟩)⟩)⟩)⟩)⟩)⟩)⟩)⟩)⟩)⟩)⟩) hn (conz g0 (conz g3 (one g4)))).mono fun ex T' st' ⟨q1, q2, q3, q4⟩ => by simp only [List.cons.injEq, and_true] at q3; exact ⟨q1, ⟨q2, q3⟩, q4⟩
theorem f43_3_TTTF_e (v0 q24 : AV) (n3 n4 n10 n11 n12 n18 n19 n23 n25 n26 n28 n29 n30 n31 n35 n37 n39 n41 n15 : Int) (st : St) : ((evS Tryz.prog E0 noOv noS 100000 [2025, 2026, 2029, 7010, 7011, 7012, 7013, 7015, 7018, 7019, 7020, 7023, 7024, 7028, 7030, 7031, 7033, 7035, 7037, 7039, 7041, 7042, 7044] (f43P 3) ⟨62, [(0, v0), (3, (u64 n3)), (4, (i64 n4))], []⟩ st [.av (i64 n10), .av (i64 n11), .av (i64 n12), .av TT, .av (i64 n18), .av (i64 n19), .av TT, .av (i64 n23), .av q24, .eff (u8 n25) id, .eff (u64 n26) id, .av (i64 n28), .eff (u64 n29) id, .av (u64 n30), .av (u64 n31), .av TT, .av (u64 n35), .av (u64 n37), .av (u64 n39), .av (u64 n41), .av FF, .av (i64 n15)]).map fun q => (q.1, q.2.1.n, ([q.2.1.get 0, q.2.1.get 3, q.2.1.get 4] : List AV), q.2.2.1, q.2.2.2.2)) = some (.normal, 62, [v0, (u64 n39), (i64 n15)], st, [lenA E0 22 v0 = some (i64 n10), binA E0 .mul 3 (i64 8) (i64 n10) = some (i64 n11), binA E0 .add 3 (i64 n11) (i64 32) = some (i64 n12), binA E0 .lss 3 (i64 n4) (i64 n12) = some TT, lenA E0 22 v0 = some (i64 n18), binA E0 .mul 3 (i64 8) (i64 n18) = some (i64 n19), binA E0 .lss 3 (i64 n4) (i64 n19) = some TT, binA E0 .quo 3 (i64 n4) (i64 8) = some (i64 n23), indexAddrA E0 22 v0 (i64 n23) = some q24, loadA E0 st 5 q24 = some (u8 n25) ∧ st = st, convO E0 st 5 79 (u8 n25) = some ((u64 n26), st), binA E0 .rem 3 (i64 n4) (i64 8) = some (i64 n28), convO E0 st 3 53 (i64 n28) = some ((u64 n29), st), binA E0 .shr 79 (u64 n26) (u64 n29) = some (u64 n30), binA E0 .and 79 (u64 n30) (u64 1) = some (u64 n31), binA E0 .lss 3 (i64 n4) (i64 32) = some TT, binA E0 .xor 79 (u64 n31) (u64 1) = some (u64 n35), binA E0 .mul 79 (u64 2) (u64 n3) = some (u64 n37), binA E0 .add 79 (u64 n37) (u64 n35) = some (u64 n39), binA E0 .shr 79 (u64 n39) (u64 32) = some (u64 n41), binA E0 .eql 79 (u64 n41) (u64 1) = some FF, binA E0 .add 3 (i64 n4) (i64 1) = some (i64 n15)]) := by kernel_rfl
theorem f43_3_TTTF {v0 q24 : AV} {n3 n4 n10 n11 n12 n18 n19 n23 n25 n26 n28 n29 n30 n31 n35 n37 n39 n41 n15 : Int} {st : St} (h1 : lenA E0 22 v0 = some (i64 n10)) (h2 : binA E0 .mul 3 (i64 8) (i64 n10) = some (i64 n11)) (h3 : binA E0 .add 3 (i64 n11) (i64 32) = some (i64 n12)) (h4 : binA E0 .lss 3 (i64 n4) (i64 n12) = some TT) (h5 : lenA E0 22 v0 = some (i64 n18)) (h6 : binA E0 .mul 3 (i64 8) (i64 n18) = some (i64 n19)) (h7 : binA E0 .lss 3 (i64 n4) (i64 n19) = some TT) (h8 : binA E0 .quo 3 (i64 n4) (i64 8) = some (i64 n23)) (h9 : indexAddrA E0 22 v0 (i64 n23) = some q24) (h10 : loadA E0 st 5 q24 = some (u8 n25)) (h11 : convO E0 st 5 79 (u8 n25) = some ((u64 n26), st)) (h12 : binA E0 .rem 3 (i64 n4) (i64 8) = some (i64 n28)) (h13 : convO E0 st 3 53 (i64 n28) = some ((u64 n29), st)) (h14 : binA E0 .shr 79 (u64 n26) (u64 n29) = some (u64 n30)) (h15 : binA E0 .and 79 (u64 n30) (u64 1) = some (u64 n31)) (h16 : binA E0 .lss 3 (i64 n4) (i64 32) = some TT) (h17 : binA E0 .xor 79 (u64 n31) (u64 1) = some (u64 n35)) (h18 : binA E0 .mul 79 (u64 2) (u64 n3) = some (u64 n37)) (h19 : binA E0 .add 79 (u64 n37) (u64 n35) = some (u64 n39)) (h20 : binA E0 .shr 79 (u64 n39) (u64 32) = some (u64 n41)) (h21 : binA E0 .eql 79 (u64 n41) (u64 1) = some FF) (h22 : binA E0 .add 3 (i64 n4) (i64 1) = some (i64 n15)) {T : Tm} (hT : f43L2 T v0 (u64 n3) (i64 n4)) : AW Tryz.prog (f43P 3) (fun ex T' st' => ex = .normal ∧ f43L2 T' v0 (u64 n39) (i64 n15) ∧ st' = st) T st := by
  obtain ⟨hn, g0, g3, g4⟩ := hT
  exact (gen_run (G := fun T => ([T.get 0, T.get 3, T.get 4] : List AV)) hE (f43_3_TTTF_e v0 q24 n3 n4 n10 n11 n12 n18 n19 n23 n25 n26 n28 n29 n30 n31 n35 n37 n39 n41 n15 st) (Ob.ok_cons.2 ⟨h1, (Ob.ok_cons.2 ⟨h2, (Ob.ok_cons.2 ⟨h3, (Ob.ok_cons.2 ⟨h4, (Ob.ok_cons.2 ⟨h5, (Ob.ok_cons.2 ⟨h6, (Ob.ok_cons.2 ⟨h7, (Ob.ok_cons.2 ⟨h8, (Ob.ok_cons.2 ⟨h9, (Ob.ok_cons.2 ⟨⟨h10, rfl⟩, (Ob.ok_cons.2 ⟨h11, (Ob.ok_cons.2 ⟨h12, (Ob.ok_cons.2 ⟨h13, (Ob.ok_cons.2 ⟨h14, (Ob.ok_cons.2 ⟨h15, (Ob.ok_cons.2 ⟨h16, (Ob.ok_cons.2 ⟨h17, (Ob.ok_cons.2 ⟨h18, (Ob.ok_cons.2 ⟨h19, (Ob.ok_cons.2 ⟨h20, (Ob.ok_cons.2 ⟨h21, (Ob.ok_cons.2 ⟨h22, Ob.ok_nil⟩)⟩)⟩)⟩)⟩)⟩)⟩)⟩)⟩)⟩)⟩)⟩)⟩)⟩)⟩)⟩)⟩)⟩)⟩)⟩)⟩)⟩) hn (conz g0 (conz g3 (one g4)))).mono fun ex T' st' ⟨q1, q2, q3, q4⟩ => by simp only [List.cons.injEq, and_true] at q3; exact ⟨q1, ⟨q2, q3⟩, q4⟩
theorem f43_3_TTFT_e (v0 q24 : AV) (n3 n4 n10 n11 n12 n18 n19 n23 n25 n26 n28 n29 n30 n31 n37 n39 n41 n44 n15 : Int) (st : St) : ((evS Tryz.prog E0 noOv noS 100000 [2025, 2026, 2029, 7010, 7011, 7012, 7013, 7015, 7018, 7019, 7020, 7023, 7024, 7028, 7030, 7031, 7033, 7035, 7037, 7039, 7041, 7042, 7044] (f43P 3) ⟨62, [(0, v0), (3, (u64 n3)), (4, (i64 n4))], []⟩ st [.av (i64 n10), .av (i64 n11), .av (i64 n12), .av TT, .av (i64 n18), .av (i64 n19), .av TT, .av (i64 n23), .av q24, .eff (u8 n25) id, .eff (u64 n26) id, .av (i64 n28), .eff (u64 n29) id, .av (u64 n30), .av (u64 n31), .av FF, .av (u64 n37), .av (u64 n39), .av (u64 n41), .av TT, .av (u64 n44), .av (i64 n15)]).map fun q => (q.1, q.2.1.n, ([q.2.1.get 0, q.2.1.get 3, q.2.1.get 4] : List AV), q.2.2.1, q.2.2.2.2)) = some (.normal, 62, [v0, (u64 n44), (i64 n15)], st, [lenA E0 22 v0 = some (i64 n10), binA E0 .mul 3 (i64 8) (i64 n10) = some (i64 n11), binA E0 .add 3 (i64 n11) (i64 32) = some (i64 n12), binA E0 .lss 3 (i64 n4) (i64 n12) = some TT, lenA E0 22 v0 = some (i64 n18), binA E0 .mul 3 (i64 8) (i64 n18) = some (i64 n19), binA E0 .lss 3 (i64 n4) (i64 n19) = some TT, binA E0 .quo 3 (i64 n4) (i64 8) = some (i64 n23), indexAddrA E0 22 v0 (i64 n23) = some q24, loadA E0 st 5 q24 = some (u8 n25) ∧ st = st, convO E0 st 5 79 (u8 n25) = some ((u64 n26), st), binA E0 .rem 3 (i64 n4) (i64 8) = some (i64 n28), convO E0 st 3 53 (i64 n28) = some ((u64 n29), st), binA E0 .shr 79 (u64 n26) (u64 n29) = some (u64 n30), binA E0 .and 79 (u64 n30) (u64 1) = some (u64 n31), binA E0 .lss 3 (i64 n4) (i64 32) = some FF, binA E0 .mul 79 (u64 2) (u64 n3) = some (u64 n37), binA E0 .add 79 (u64 n37) (u64 n31) = some (u64 n39), binA E0 .shr 79 (u64 n39) (u64 32) = some (u64 n41), binA E0 .eql 79 (u64 n41) (u64 1) = some TT, binA E0 .xor 79 (u64 n39) (u64 4374732215) = some (u64 n44), binA E0 .add 3 (i64 n4) (i64 1) = some (i64 n15)]) := by kernel_rfl
theorem f43_3_TTFT {v0 q24 : AV} {n3 n4 n10 n11 n12 n18 n19 n23 n25 n26 n28 n29 n30 n31 n37 n39 n41 n44 n15 : Int} {st : St} (h1 : lenA E0 22 v0 = some (i64 n10)) (h2 : binA E0 .mul 3 (i64 8) (i64 n10) = some (i64 n11)) (h3 : binA E0 .add 3 (i64 n11) (i64 32) = some (i64 n12)) (h4 : binA E0 .lss 3 (i64 n4) (i64 n12) = some TT) (h5 : lenA E0 22 v0 = some (i64 n18)) (h6 : binA E0 .mul 3 (i64 8) (i64 n18) = some (i64 n19)) (h7 : binA E0 .lss 3 (i64 n4) (i64 n19) = some TT) (h8 : binA E0 .quo 3 (i64 n4) (i64 8) = some (i64 n23)) (h9 : indexAddrA E0 22 v0 (i64 n23) = some q24) (h10 : loadA E0 st 5 q24 = some (u8 n25)) (h11 : convO E0 st 5 79 (u8 n25) = some ((u64 n26), st)) (h12 : binA E0 .rem 3 (i64 n4) (i64 8) = some (i64 n28)) (h13 : convO E0 st 3 53 (i64 n28) = some ((u64 n29), st)) (h14 : binA E0 .shr 79 (u64 n26) (u64 n29) = some (u64 n30)) (h15 : binA E0 .and 79 (u64 n30) (u64 1) = some (u64 n31)) (h16 : binA E0 .lss 3 (i64 n4) (i64 32) = some FF) (h17 : binA E0 .mul 79 (u64 2) (u64 n3) = some (u64 n37)) (h18 : binA E0 .add 79 (u64 n37) (u64 n31) = some (u64 n39)) (h19 : binA E0 .shr 79 (u64 n39) (u64 32) = some (u64 n41)) (h20 : binA E0 .eql 79 (u64 n41) (u64 1) = some TT) (h21 : binA E0 .xor 79 (u64 n39) (u64 4374732215) = some (u64 n44)) (h22 : binA E0 .add 3 (i64 n4) (i64 1) = some (i64 n15)) {T : Tm} (hT : f43L2 T v0 (u64 n3) (i64 n4)) : AW Tryz.prog (f43P 3) (fun ex T' st' => ex = .normal ∧ f43L2 T' v0 (u64 n44) (i64 n15) ∧ st' = st) T st := by
  obtain ⟨hn, g0, g3, g4⟩ := hT
  exact (gen_run (G := fun T => ([T.get 0, T.get 3, T.get 4] : List AV)) hE (f43_3_TTFT_e v0 q24 n3 n4 n10 n11 n12 n18 n19 n23 n25 n26 n28 n29 n30 n31 n37 n39 n41 n44 n15 st) (Ob.ok_cons.2 ⟨h1, (Ob.ok_cons.2 ⟨h2, (Ob.ok_cons.2 ⟨h3, (Ob.ok_cons.2 ⟨h4, (Ob.ok_cons.2 ⟨h5, (Ob.ok_cons.2 ⟨h6, (Ob.ok_cons.2 ⟨h7, (Ob.ok_cons.2 ⟨h8, (Ob.ok_cons.2 ⟨h9, (Ob.ok_cons.2 ⟨⟨h10, rfl⟩, (Ob.ok_cons.2 ⟨h11, (Ob.ok_cons.2 ⟨h12, (Ob.ok_cons.2 ⟨h13, (Ob.ok_cons.2 ⟨h14, (Ob.ok_cons.2 ⟨h15, (Ob.ok_cons.2 ⟨h16, (Ob.ok_cons.2 ⟨h17, (Ob.ok_cons.2 ⟨h18, (Ob.ok_cons.2 ⟨h19, (Ob.ok_cons.2 ⟨h20, (Ob.ok_cons.2 ⟨h21, (Ob.ok_cons.2 ⟨h22, Ob.ok_nil⟩)⟩)⟩)⟩)⟩)⟩)⟩)⟩)⟩)⟩)⟩)⟩)⟩)⟩)⟩)⟩)⟩)⟩)⟩)⟩)⟩)⟩) hn (conz g0 (conz g3 (one g4)))).mono fun ex T' st' ⟨q1, q2, q3, q4⟩ => by simp only [List.cons.injEq, and_true] at q3; exact ⟨q1, ⟨q2, q3⟩, q4⟩
theorem f43_3_TTFF_e (v0 q24 : AV) (n3 n4 n10 n11 n12 n18 n19 n23 n25 n26 n28 n29 n30 n31 n37 n39 n41 n15 : Int) (st : St) : ((evS Tryz.prog E0 noOv noS 100000 [2025, 2026, 2029, 7010, 7011, 7012, 7013, 7015, 7018, 7019, 7020, 7023, 7024, 7028, 7030, 7031, 7033, 7035, 7037, 7039, 7041, 7042, 7044] (f43P 3) ⟨62, [(0, v0), (3, (u64 n3)), (4, (i64 n4))], []⟩ st [.av (i64 n10), .av (i64 n11), .av (i64 n12), .av TT, .av (i64 n18), .av (i64 n19), .av TT, .av (i64 n23), .av q24, .eff (u8 n25) id, .eff (u64 n26) id, .av (i64 n28), .eff (u64 n29) id, .av (u64 n30), .av (u64 n31), .av FF, .av (u64 n37), .av (u64 n39), .av (u64 n41), .av FF, .av (i64 n15)]).map fun q => (q.1, q.2.1.n, ([q.2.1.get 0, q.2.1.get 3, q.2.1.get 4] : List AV), q.2.2.1, q.2.2.2.2)) = some (.normal, 62, [v0, (u64 n39), (i64 n15)], st, [lenA E0 22 v0 = some (i64 n10), binA E0 .mul 3 (i64 8) (i64 n10) = some (i64 n11), binA E0 .add 3 (i64 n11) (i64 32) = some (i64 n12), binA E0 .lss 3 (i64 n4) (i64 n12) = some TT, lenA E0 22 v0 = some (i64 n18), binA E0 .mul 3 (i64 8) (i64 n18) = some (i64 n19), binA E0 .lss 3 (i64 n4) (i64 n19) = some TT, binA E0 .quo 3 (i64 n4) (i64 8) = some (i64 n23), indexAddrA E0 22 v0 (i64 n23) = some q24, loadA E0 st 5 q24 = some (u8 n25) ∧ st = st, convO E0 st 5 79 (u8 n25) = some ((u64 n26), st), binA E0 .rem 3 (i64 n4) (i64 8) = some (i64 n28), convO E0 st 3 53 (i64 n28) = some ((u64 n29), st), binA E0 .shr 79 (u64 n26) (u64 n29) = some (u64 n30), binA E0 .and 79 (u64 n30) (u64 1) = some (u64 n31), binA E0 .lss 3 (i64 n4) (i64 32) = some FF, binA E0 .mul 79 (u64 2) (u64 n3) = some (u64 n37), binA E0 .add 79 (u64 n37) (u64 n31) = some (u64 n39), binA E0 .shr 79 (u64 n39) (u64 32) = some (u64 n41), binA E0 .eql 79 (u64 n41) (u64 1) = some FF, binA E0 .add 3 (i64 n4) (i64 1) = some (i64 n15)]) := by kernel_rfl
theorem f43_3_TTFF {v0 q24 : AV} {n3 n4 n10 n11 n12 n18 n19 n23 n25 n26 n28 n29 n30 n31 n37 n39 n41 n15 : Int} {st : St} (h1 : lenA E0 22 v0 = some (i64 n10)) (h2 : binA E0 .mul 3 (i64 8) (i64 n10) = some (i64 n11)) (h3 : binA E0 .add 3 (i64 n11) (i64 32) = some (i64 n12)) (h4 : binA E0 .lss 3 (i64 n4) (i64 n12) = some TT) (h5 : lenA E0 22 v0 = some (i64 n18)) (h6 : binA E0 .mul 3 (i64 8) (i64 n18) = some (i64 n19)) (h7 : binA E0 .lss 3 (i64 n4) (i64 n19) = some TT) (h8 : binA E0 .quo 3 (i64 n4) (i64 8) = some (i64 n23)) (h9 : indexAddrA E0 22 v0 (i64 n23) = some q24) (h10 : loadA E0 st 5 q24 = some (u8 n25)) (h11 : convO E0 st 5 79 (u8 n25) = some ((u64 n26), st)) (h12 : binA E0 .rem 3 (i64 n4) (i64 8) = some (i64 n28)) (h13 : convO E0 st 3 53 (i64 n28) = some ((u64 n29), st)) (h14 : binA E0 .shr 79 (u64 n26) (u64 n29) = some (u64 n30)) (h15 : binA E0 .and 79 (u64 n30) (u64 1) = some (u64 n31)) (h16 : binA E0 .lss 3 (i64 n4) (i64 32) = some FF) (h17 : binA E0 .mul 79 (u64 2) (u64 n3) = some (u64 n37)) (h18 : binA E0 .add 79 (u64 n37) (u64 n31) = some (u64 n39)) (h19 : binA E0 .shr 79 (u64 n39) (u64 32) = some (u64 n41)) (h20 : binA E0 .eql 79 (u64 n41) (u64 1) = some FF) (h21 : binA E0 .add 3 (i64 n4) (i64 1) = some (i64 n15)) {T : Tm} (hT : f43L2 T v0 (u64 n3) (i64 n4)) : AW Tryz.prog (f43P 3) (fun ex T' st' => ex = .normal ∧ f43L2 T' v0 (u64 n39) (i64 n15) ∧ st' = st) T st := by
  obtain ⟨hn, g0, g3, g4⟩ := hT
  exact (gen_run (G := fun T => ([T.get 0, T.get 3, T.get 4] : List AV)) hE (f43_3_TTFF_e v0 q24 n3 n4 n10 n11 n12 n18 n19 n23 n25 n26 n28 n29 n30 n31 n37 n39 n41 n15 st) (Ob.ok_cons.2 ⟨h1, (Ob.ok_cons.2 ⟨h2, (Ob.ok_cons.2 ⟨h3, (Ob.ok_cons.2 ⟨h4, (Ob.ok_cons.2 ⟨h5, (Ob.ok_cons.2 ⟨h6, (Ob.ok_cons.2 ⟨h7, (Ob.ok_cons.2 ⟨h8, (Ob.ok_cons.2 ⟨h9, (Ob.ok_cons.2 ⟨⟨h10, rfl⟩, (Ob.ok_cons.2 ⟨h11, (Ob.ok_cons.2 ⟨h12, (Ob.ok_cons.2 ⟨h13, (Ob.ok_cons.2 ⟨h14, (Ob.ok_cons.2 ⟨h15, (Ob.ok_cons.2 ⟨h16, (Ob.ok_cons.2 ⟨h17, (Ob.ok_cons.2 ⟨h18, (Ob.ok_cons.2 ⟨h19, (Ob.ok_cons.2 ⟨h20, (Ob.ok_cons.2 ⟨h21, Ob.ok_nil⟩)⟩)⟩)⟩)⟩)⟩)⟩)⟩)⟩)⟩)⟩)⟩)⟩)⟩)⟩)⟩)⟩)⟩)⟩)⟩)⟩) hn (conz g0 (conz g3 (one g4)))).mono fun ex T' st' ⟨q1, q2, q3, q4⟩ => by simp only [List.cons.injEq, and_true] at q3; exact ⟨q1, ⟨q2, q3⟩, q4⟩
theorem f43_3_TFTT_e (v0 : AV) (n3 n4 n10 n11 n12 n18 n19 n35 n37 n39 n41 n44 n15 : Int) (st : St) : ((evS Tryz.prog E0 noOv noS 100000 [2025, 2026, 2029, 7010, 7011, 7012, 7013, 7015, 7018, 7019, 7020, 7023, 7024, 7028, 7030, 7031, 7033, 7035, 7037, 7039, 7041, 7042, 7044] (f43P 3) ⟨62, [(0, v0), (3, (u64 n3)), (4, (i64 n4))], []⟩ st [.av (i64 n10), .av (i64 n11), .av (i64 n12), .av TT, .av (i64 n18), .av (i64 n19), .av FF, .av TT, .av (u64 n35), .av (u64 n37), .av (u64 n39), .av (u64 n41), .av TT, .av (u64 n44), .av (i64 n15)]).map fun q => (q.1, q.2.1.n, ([q.2.1.get 0, q.2.1.get 3, q.2.1.get 4] : List AV), q.2.2.1, q.2.2.2.2)) = some (.normal, 62, [v0, (u64 n44), (i64 n15)], st, [lenA E0 22 v0 = some (i64 n10), binA E0 .mul 3 (i64 8) (i64 n10) = some (i64 n11), binA E0 .add 3 (i64 n11) (i64 32) = some (i64 n12), binA E0 .lss 3 (i64 n4) (i64 n12) = some TT, lenA E0 22 v0 = some (i64 n18), binA E0 .mul 3 (i64 8) (i64 n18) = some (i64 n19), binA E0 .lss 3 (i64 n4) (i64 n19) = some FF, binA E0 .lss 3 (i64 n4) (i64 32) = some TT, binA E0 .xor 79 (u64 0) (u64 1) = some (u64 n35), binA E0 .mul 79 (u64 2) (u64 n3) = some (u64 n37), binA E0 .add 79 (u64 n37) (u64 n35) = some (u64 n39), binA E0 .shr 79 (u64 n39) (u64 32) = some (u64 n41), binA E0 .eql 79 (u64 n41) (u64 1) = some TT, binA E0 .xor 79 (u64 n39) (u64 4374732215) = some (u64 n44), binA E0 .add 3 (i64 n4) (i64 1) = some (i64 n15)]) := by kernel_rfl
theorem f43_3_TFTT {v0 : AV} {n3 n4 n10 n11 n12 n18 n19 n35 n37 n39 n41 n44 n15 : Int} {st : St} (h1 : lenA E0 22 v0 = some (i64 n10)) (h2 : binA E0 .mul 3 (i64 8) (i64 n10) = some (i64 n11)) (h3 : binA E0 .add 3 (i64 n11) (i64 32) = some (i64 n12)) (h4 : binA E0 .lss 3 (i64 n4) (i64 n12) = some TT) (h5 : lenA E0 22 v0 = some (i64 n18)) (h6 : binA E0 .mul 3 (i64 8) (i64 n18) = some (i64 n19)) (h7 : binA E0 .lss 3 (i64 n4) (i64 n19) = some FF) (h8 : binA E0 .lss 3 (i64 n4) (i64 32) = some TT) (h9 : binA E0 .xor 79 (u64 0) (u64 1) = some (u64 n35)) (h10 : binA E0 .mul 79 (u64 2) (u64 n3) = some (u64 n37)) (h11 : binA E0 .add 79 (u64 n37) (u64 n35) = some (u64 n39)) (h12 : binA E0 .shr 79 (u64 n39) (u64 32) = some (u64 n41)) (h13 : binA E0 .eql 79 (u64 n41) (u64 1) = some TT) (h14 : binA E0 .xor 79 (u64 n39) (u64 4374732215) = some (u64 n44)) (h15 : binA E0 .add 3 (i64 n4) (i64 1) = some (i64 n15)) {T : Tm} (hT : f43L2 T v0 (u64 n3) (i64 n4)) : AW Tryz.prog (f43P 3) (fun ex T' st' => ex = .normal ∧ f43L2 T' v0 (u64 n44) (i64 n15) ∧ st' = st) T st := by
  obtain ⟨hn, g0, g3, g4⟩ := hT
  exact (gen_run (G := fun T => ([T.get 0, T.get 3, T.get 4] : List AV)) hE (f43_3_TFTT_e v0 n3 n4 n10 n11 n12 n18 n19 n35 n37 n39 n41 n44 n15 st) (Ob.ok_cons.2 ⟨h1, (Ob.ok_cons.2 ⟨h2, (Ob.ok_cons.2 ⟨h3, (Ob.ok_cons.2 ⟨h4, (Ob.ok_cons.2 ⟨h5, (Ob.ok_cons.2 ⟨h6, (Ob.ok_cons.2 ⟨h7, (Ob.ok_cons.2 ⟨h8, (Ob.ok_cons.2 ⟨h9, (Ob.ok_cons.2 ⟨h10, (Ob.ok_cons.2 ⟨h11, (Ob.ok_cons.2 ⟨h12, (Ob.ok_cons.2 ⟨h13, (Ob.ok_cons.2 ⟨h14, (Ob.ok_cons.2 ⟨h15, Ob.ok_nil⟩)⟩)⟩)⟩)⟩)⟩)⟩)⟩)⟩)⟩)⟩)⟩)⟩)⟩)⟩) hn (conz g0 (conz g3 (one g4)))).mono fun ex T' st' ⟨q1, q2, q3, q4⟩ => by simp only [List.cons.injEq, and_true] at q3; exact ⟨q1, ⟨q2, q3⟩, q4⟩
theorem f43_3_TFTF_e (v0 : AV) (n3 n4 n10 n11 n12 n18 n19 n35 n37 n39 n41 n15 : Int) (st : St) : ((evS Tryz.prog E0 noOv noS 100000 [2025, 2026, 2029, 7010, 7011, 7012, 7013, 7015, 7018, 7019, 7020, 7023, 7024, 7028, 7030, 7031, 7033, 7035, 7037, 7039, 7041, 7042, 7044] (f43P 3) ⟨62, [(0, v0), (3, (u64 n3)), (4, (i64 n4))], []⟩ st [.av (i64 n10), .av (i64 n11), .av (i64 n12), .av TT, .av (i64 n18), .av (i64 n19), .av FF, .av TT, .av (u64 n35), .av (u64 n37), .av (u64 n39), .av (u64 n41), .av FF, .av (i64 n15)]).map fun q => (q.1, q.2.1.n, ([q.2.1.get 0, q.2.1.get 3, q.2.1.get 4] : List AV), q.2.2.1, q.2.2.2.2)) = some (.normal, 62, [v0, (u64 n39), (i64 n15)], st, [lenA E0 22 v0 = some (i64 n10), binA E0 .mul 3 (i64 8) (i64 n10) = some (i64 n11), binA E0 .add 3 (i64 n11) (i64 32) = some (i64 n12), binA E0 .lss 3 (i64 n4) (i64 n12) = some TT, lenA E0 22 v0 = some (i64 n18), binA E0 .mul 3 (i64 8) (i64 n18) = some (i64 n19), binA E0 .lss 3 (i64 n4) (i64 n19) = some FF, binA E0 .lss 3 (i64 n4) (i64 32) = some TT, binA E0 .xor 79 (u64 0) (u64 1) = some (u64 n35), binA E0 .mul 79 (u64 2) (u64 n3) = some (u64 n37), binA E0 .add 79 (u64 n37) (u64 n35) = some (u64 n39), binA E0 .shr 79 (u64 n39) (u64 32) = some (u64 n41), binA E0 .eql 79 (u64 n41) (u64 1) = some FF, binA E0 .add 3 (i64 n4) (i64 1) = some (i64 n15)]) := by kernel_rfl
theorem f43_3_TFTF {v0 : AV} {n3 n4 n10 n11 n12 n18 n19 n35 n37 n39 n41 n15 : Int} {st : St} (h1 : lenA E0 22 v0 = some (i64 n10)) (h2 : binA E0 .mul 3 (i64 8) (i64 n10) = some (i64 n11)) (h3 : binA E0 .add 3 (i64 n11) (i64 32) = some (i64 n12)) (h4 : binA E0 .lss 3 (i64 n4) (i64 n12) = some TT) (h5 : lenA E0 22 v0 = some (i64 n18)) (h6 : binA E0 .mul 3 (i64 8) (i64 n18) = some (i64 n19)) (h7 : binA E0 .lss 3 (i64 n4) (i64 n19) = some FF) (h8 : binA E0 .lss 3 (i64 n4) (i64 32) = some TT) (h9 : binA E0 .xor 79 (u64 0) (u64 1) = some (u64 n35)) (h10 : binA E0 .mul 79 (u64 2) (u64 n3) = some (u64 n37)) (h11 : binA E0 .add 79 (u64 n37) (u64 n35) = some (u64 n39)) (h12 : binA E0 .shr 79 (u64 n39) (u64 32) = some (u64 n41)) (h13 : binA E0 .eql 79 (u64 n41) (u64 1) = some FF) (h14 : binA E0 .add 3 (i64 n4) (i64 1) = some (i64 n15)) {T : Tm} (hT : f43L2 T v0 (u64 n3) (i64 n4)) : AW Tryz.prog (f43P 3) (fun ex T' st' => ex = .normal ∧ f43L2 T' v0 (u64 n39) (i64 n15) ∧ st' = st) T st := by
  obtain ⟨hn, g0, g3, g4⟩ := hT
  exact (gen_run (G := fun T => ([T.get 0, T.get 3, T.get 4] : List AV)) hE (f43_3_TFTF_e v0 n3 n4 n10 n11 n12 n18 n19 n35 n37 n39 n41 n15 st) (Ob.ok_cons.2 ⟨h1, (Ob.ok_cons.2 ⟨h2, (Ob.ok_cons.2 ⟨h3, (Ob.ok_cons.2 ⟨h4, (Ob.ok_cons.2 ⟨h5, (Ob.ok_cons.2 ⟨h6, (Ob.ok_cons.2 ⟨h7, (Ob.ok_cons.2 ⟨h8, (Ob.ok_cons.2 ⟨h9, (Ob.ok_cons.2 ⟨h10, (Ob.ok_cons.2 ⟨h11, (Ob.ok_cons.2 ⟨h12, (Ob.ok_cons.2 ⟨h13, (Ob.ok_cons.2 ⟨h14, Ob.ok_nil⟩)⟩)⟩)⟩)⟩)⟩)⟩)⟩)⟩)⟩)⟩)⟩)⟩)⟩) hn (conz g0 (conz g3 (one g4)))).mono fun ex T' st' ⟨q1, q2, q3, q4⟩ => by simp only [List.cons.injEq, and_true] at q3; exact ⟨q1, ⟨q2, q3⟩, q4⟩
theorem f43_3_TFFT_e (v0 : AV) (n3 n4 n10 n11 n12 n18 n19 n37 n39 n41 n44 n15 : Int) (st : St) : ((evS Tryz.prog E0 noOv noS 100000 [2025, 2026, 2029, 7010, 7011, 7012, 7013, 7015, 7018, 7019, 7020, 7023, 7024, 7028, 7030, 7031, 7033, 7035, 7037, 7039, 7041, 7042, 7044] (f43P 3) ⟨62, [(0, v0), (3, (u64 n3)), (4, (i64 n4))], []⟩ st [.av (i64 n10), .av (i64 n11), .av (i64 n12), .av TT, .av (i64 n18), .av (i64 n19), .av FF, .av FF, .av (u64 n37), .av (u64 n39), .av (u64 n41), .av TT, .av (u64 n44), .av (i64 n15)]).map fun q => (q.1, q.2.1.n, ([q.2.1.get 0, q.2.1.get 3, q.2.1.get 4] : List AV), q.2.2.1, q.2.2.2.2)) = some (.normal, 62, [v0, (u64 n44), (i64 n15)], st, [lenA E0 22 v0 = some (i64 n10), binA E0 .mul 3 (i64 8) (i64 n10) = some (i64 n11), binA E0 .add 3 (i64 n11) (i64 32) = some (i64 n12), binA E0 .lss 3 (i64 n4) (i64 n12) = some TT, lenA E0 22 v0 = some (i64 n18), binA E0 .mul 3 (i64 8) (i64 n18) = some (i64 n19), binA E0 .lss 3 (i64 n4) (i64 n19) = some FF, binA E0 .lss 3 (i64 n4) (i64 32) = some FF, binA E0 .mul 79 (u64 2) (u64 n3) = some (u64 n37), binA E0 .add 79 (u64 n37) (u64 0) = some (u64 n39), binA E0 .shr 79 (u64 n39) (u64 32) = some (u64 n41), binA E0 .eql 79 (u64 n41) (u64 1) = some TT, binA E0 .xor 79 (u64 n39) (u64 4374732215) = some (u64 n44), binA E0 .add 3 (i64 n4) (i64 1) = some (i64 n15)]) := by kernel_rfl
theorem f43_3_TFFT {v0 : AV} {n3 n4 n10 n11 n12 n18 n19 n37 n39 n41 n44 n15 : Int} {st : St} (h1 : lenA E0 22 v0 = some (i64 n10)) (h2 : binA E0 .mul 3 (i64 8) (i64 n10) = some (i64 n11)) (h3 : binA E0 .add 3 (i64 n11) (i64 32) = some (i64 n12)) (h4 : binA E0 .lss 3 (i64 n4) (i64 n12) = some TT) (h5 : lenA E0 22 v0 = some (i64 n18)) (h6 : binA E0 .mul 3 (i64 8) (i64 n18) = some (i64 n19)) (h7 : binA E0 .lss 3 (i64 n4) (i64 n19) = some FF) (h8 : binA E0 .lss 3 (i64 n4) (i64 32) = some FF) (h9 : binA E0 .mul 79 (u64 2) (u64 n3) = some (u64 n37)) (h10 : binA E0 .add 79 (u64 n37) (u64 0) = some (u64 n39)) (h11 : binA E0 .shr 79 (u64 n39) (u64 32) = some (u64 n41)) (h12 : binA E0 .eql 79 (u64 n41) (u64 1) = some TT) (h13 : binA E0 .xor 79 (u64 n39) (u64 4374732215) = some (u64 n44)) (h14 : binA E0 .add 3 (i64 n4) (i64 1) = some (i64 n15)) {T : Tm} (hT : f43L2 T v0 (u64 n3) (i64 n4)) : AW Tryz.prog (f43P 3) (fun ex T' st' => ex = .normal ∧ f43L2 T' v0 (u64 n44) (i64 n15) ∧ st' = st) T st := by
  obtain ⟨hn, g0, g3, g4⟩ := hT
  exact (gen_run (G := fun T => ([T.get 0, T.get 3, T.get 4] : List AV)) hE (f43_3_TFFT_e v0 n3 n4 n10 n11 n12 n18 n19 n37 n39 n41 n44 n15 st) (Ob.ok_cons.2 ⟨h1, (Ob.ok_cons.2 ⟨h2, (Ob.ok_cons.2 ⟨h3, (Ob.ok_cons.2 ⟨h4, (Ob.ok_cons.2 ⟨h5, (Ob.ok_cons.2 ⟨h6, (Ob.ok_cons.2 ⟨h7, (Ob.ok_cons.2 ⟨h8, (Ob.ok_cons.2 ⟨h9, (Ob.ok_cons.2 ⟨h10, (Ob.ok_cons.2 ⟨h11, (Ob.ok_cons.2 ⟨h12, (Ob.ok_cons.2 ⟨h13, (Ob.ok_cons.2 ⟨h14, Ob.ok_nil⟩)⟩)⟩)⟩)⟩)⟩)⟩)⟩)⟩)⟩)⟩)⟩)⟩)⟩) hn (conz g0 (conz g3 (one g4)))).mono fun ex T' st' ⟨q1, q2, q3, q4⟩ => by simp only [List.cons.injEq, and_true] at q3; exact ⟨q1, ⟨q2, q3⟩, q4⟩
theorem f43_3_TFFF_e (v0 : AV) (n3 n4 n10 n11 n12 n18 n19 n37 n39 n41 n15 : Int) (st : St) : ((evS Tryz.prog E0 noOv noS 100000 [2025, 2026, 2029, 7010, 7011, 7012, 7013, 7015, 7018, 7019, 7020, 7023, 7024, 7028, 7030, 7031, 7033, 7035, 7037, 7039, 7041, 7042, 7044] (f43P 3) ⟨62, [(0, v0), (3, (u64 n3)), (4, (i64 n4))], []⟩ st [.av (i64 n10), .av (i64 n11), .av (i64 n12), .av TT, .av (i64 n18), .av (i64 n19), .av FF, .av FF, .av (u64 n37), .av (u64 n39), .av (u64 n41), .av FF, .av (i64 n15)]).map fun q => (q.1, q.2.1.n, ([q.2.1.get 0, q.2.1.get 3, q.2.1.get 4] : List AV), q.2.2.1, q.2.2.2.2)) = some (.normal, 62, [v0, (u64 n39), (i64 n15)], st, [lenA E0 22 v0 = some (i64 n10), binA E0 .mul 3 (i64 8) (i64 n10) = some (i64 n11), binA E0 .add 3 (i64 n11) (i64 32) = some (i64 n12), binA E0 .lss 3 (i64 n4) (i64 n12) = some TT, lenA E0 22 v0 = some (i64 n18), binA E0 .mul 3 (i64 8) (i64 n18) = some (i64 n19), binA E0 .lss 3 (i64 n4) (i64 n19) = some FF, binA E0 .lss 3 (i64 n4) (i64 32) = some FF, binA E0 .mul 79 (u64 2) (u64 n3) = some (u64 n37), binA E0 .add 79 (u64 n37) (u64 0) = some (u64 n39), binA E0 .shr 79 (u64 n39) (u64 32) = some (u64 n41), binA E0 .eql 79 (u64 n41) (u64 1) = some FF, binA E0 .add 3 (i64 n4) (i64 1) = some (i64 n15)]) := by kernel_rfl
theorem f43_3_TFFF {v0 : AV} {n3 n4 n10 n11 n12 n18 n19 n37 n39 n41 n15 : Int} {st : St} (h1 : lenA E0 22 v0 = some (i64 n10)) (h2 : binA E0 .mul 3 (i64 8) (i64 n10) = some (i64 n11)) (h3 : binA E0 .add 3 (i64 n11) (i64 32) = some (i64 n12)) (h4 : binA E0 .lss 3 (i64 n4) (i64 n12) = some TT) (h5 : lenA E0 22 v0 = some (i64 n18)) (h6 : binA E0 .mul 3 (i64 8) (i64 n18) = some (i64 n19)) (h7 : binA E0 .lss 3 (i64 n4) (i64 n19) = some FF) (h8 : binA E0 .lss 3 (i64 n4) (i64 32) = some FF) (h9 : binA E0 .mul 79 (u64 2) (u64 n3) = some (u64 n37)) (h10 : binA E0 .add 79 (u64 n37) (u64 0) = some (u64 n39)) (h11 : binA E0 .shr 79 (u64 n39) (u64 32) = some (u64 n41)) (h12 : binA E0 .eql 79 (u64 n41) (u64 1) = some FF) (h13 : binA E0 .add 3 (i64 n4) (i64 1) = some (i64 n15)) {T : Tm} (hT : f43L2 T v0 (u64 n3) (i64 n4)) : AW Tryz.prog (f43P 3) (fun ex T' st' => ex = .normal ∧ f43L2 T' v0 (u64 n39) (i64 n15) ∧ st' = st) T st := by
  obtain ⟨hn, g0, g3, g4⟩ := hT
  exact (gen_run (G := fun T => ([T.get 0, T.get 3, T.get 4] : List AV)) hE (f43_3_TFFF_e v0 n3 n4 n10 n11 n12 n18 n19 n37 n39 n41 n15 st) (Ob.ok_cons.2 ⟨h1, (Ob.ok_cons.2 ⟨h2, (Ob.ok_cons.2 ⟨h3, (Ob.ok_cons.2 ⟨h4, (Ob.ok_cons.2 ⟨h5, (Ob.ok_cons.2 ⟨h6, (Ob.ok_cons.2 ⟨h7, (Ob.ok_cons.2 ⟨h8, (Ob.ok_cons.2 ⟨h9, (Ob.ok_cons.2 ⟨h10, (Ob.ok_cons.2 ⟨h11, (Ob.ok_cons.2 ⟨h12, (Ob.ok_cons.2 ⟨h13, Ob.ok_nil⟩)⟩)⟩)⟩)⟩)⟩)⟩)⟩)⟩)⟩)⟩)⟩)⟩) hn (conz g0 (conz g3 (one g4)))).mono fun ex T' st' ⟨q1, q2, q3, q4⟩ => by simp only [List.cons.injEq, and_true] at q3; exact ⟨q1, ⟨q2, q3⟩, q4⟩
def f43L3 (T : Tm) (a3 : AV) : Prop := T.n = 62 ∧ T.get 3 = a3
theorem f43_3_F_e (v0 : AV) (n3 n4 n10 n11 n12 : Int) (st : St) : ((evS Tryz.prog E0 noOv noS 100000 [2025, 2026, 2029, 7010, 7011, 7012, 7013, 7015, 7018, 7019, 7020, 7023, 7024, 7028, 7030, 7031, 7033, 7035, 7037, 7039, 7041, 7042, 7044] (f43P 3) ⟨62, [(0, v0), (3, (u64 n3)), (4, (i64 n4))], []⟩ st [.av (i64 n10), .av (i64 n11), .av (i64 n12), .av FF]).map fun q => (q.1, q.2.1.n, ([q.2.1.get 3] : List AV), q.2.2.1, q.2.2.2.2)) = some ((.exit 0), 62, [(u64 n3)], st, [lenA E0 22 v0 = some (i64 n10), binA E0 .mul 3 (i64 8) (i64 n10) = some (i64 n11), binA E0 .add 3 (i64 n11) (i64 32) = some (i64 n12), binA E0 .lss 3 (i64 n4) (i64 n12) = some FF]) := by kernel_rfl
theorem f43_3_F {v0 : AV} {n3 n4 n10 n11 n12 : Int} {st : St} (h1 : lenA E0 22 v0 = some (i64 n10)) (h2 : binA E0 .mul 3 (i64 8) (i64 n10) = some (i64 n11)) (h3 : binA E0 .add 3 (i64 n11) (i64 32) = some (i64 n12)) (h4 : binA E0 .lss 3 (i64 n4) (i64 n12) = some FF) {T : Tm} (hT : f43L2 T v0 (u64 n3) (i64 n4)) : AW Tryz.prog (f43P 3) (fun ex T' st' => ex = (.exit 0) ∧ f43L3 T' (u64 n3) ∧ st' = st) T st := by
  obtain ⟨hn, g0, g3, g4⟩ := hT
  exact (gen_run (G := fun T => ([T.get 3] : List AV)) hE (f43_3_F_e v0 n3 n4 n10 n11 n12 st) (Ob.ok_cons.2 ⟨h1, (Ob.ok_cons.2 ⟨h2, (Ob.ok_cons.2 ⟨h3, (Ob.ok_cons.2 ⟨h4, Ob.ok_nil⟩)⟩)⟩)⟩) hn (conz g0 (conz g3 (one g4)))).mono fun ex T' st' ⟨q1, q2, q3, q4⟩ => by simp only [List.cons.injEq, and_true] at q3; exact ⟨q1, ⟨q2, q3⟩, q4⟩
def f43L4 (T : Tm) (a3 a6 : AV) : Prop := T.n = 62 ∧ T.get 3 = a3 ∧ T.get 6 = a6
theorem f43_4_e (n3 : Int) (st : St) : ((evS Tryz.prog E0 noOv noS 100000 [] (f43P 4) ⟨62, [(3, (u64 n3))], []⟩ st []).map fun q => (q.1, q.2.1.n, ([q.2.1.get 3, q.2.1.get 6] : List AV), q.2.2.1, q.2.2.2.2)) = some (.normal, 62, [(u64 n3), (u32 0)], st, []) := by kernel_rfl
theorem f43_4 {n3 : Int} {st : St}  {T : Tm} (hT : f43L3 T (u64 n3)) : AW Tryz.prog (f43P 4) (fun ex T' st' => ex = .normal ∧ f43L4 T' (u64 n3) (u32 0) ∧ st' = st) T st := by
  obtain ⟨hn, g3⟩ := hT
  exact (gen_run (G := fun T => ([T.get 3, T.get 6] : List AV)) hE (f43_4_e n3 st) Ob.ok_nil hn (one g3)).mono fun ex T' st' ⟨q1, q2, q3, q4⟩ => by simp only [List.cons.injEq, and_true] at q3; exact ⟨q1, ⟨q2, q3⟩, q4⟩
def f43L5 (T : Tm) (a3 a6 a7 : AV) : Prop := T.n = 62 ∧ T.get 3 = a3 ∧ T.get 6 = a6 ∧ T.get 7 = a7
theorem f43_5_e (n3 n6 : Int) (st : St) : ((evS Tryz.prog E0 noOv noS 100000 [] (f43P 5) ⟨62, [(3, (u64 n3)), (6, (u32 n6))], []⟩ st []).map fun q => (q.1, q.2.1.n, ([q.2.1.get 3, q.2.1.get 6, q.2.1.get 7] : List AV), q.2.2.1, q.2.2.2.2)) = some (.normal, 62, [(u64 n3), (u32 n6), (i64 0)], st, []) := by kernel_rfl
theorem f43_5 {n3 n6 : Int} {st : St}  {T : Tm} (hT : f43L4 T (u64 n3) (u32 n6)) : AW Tryz.prog (f43P 5) (fun ex T' st' => ex = .normal ∧ f43L5 T' (u64 n3) (u32 n6) (i64 0) ∧ st' = st) T st := by
  obtain ⟨hn, g3, g6⟩ := hT
  exact (gen_run (G := fun T => ([T.get 3, T.get 6, T.get 7] : List AV)) hE (f43_5_e n3 n6 st) Ob.ok_nil hn (conz g3 (one g6))).mono fun ex T' st' ⟨q1, q2, q3, q4⟩ => by simp only [List.cons.injEq, and_true] at q3; exact ⟨q1, ⟨q2, q3⟩, q4⟩
theorem f43_6_TT_e (n3 n6 n7 n51 n52 n53 n57 n58 n59 n60 n48 : Int) (st : St) : ((evS Tryz.prog E0 noOv noS 100000 [2051, 2058, 7046, 7048, 7052, 7053, 7054, 7057, 7059, 7060] (f43P 6) ⟨62, [(3, (u64 n3)), (6, (u32 n6)), (7, (i64 n7))], []⟩ st [.av TT, .eff (u64 n51) id, .av (u64 n52), .av (u64 n53), .av TT, .av (i64 n57), .eff (u64 n58) id, .av (u32 n59), .av (u32 n60), .av (i64 n48)]).map fun q => (q.1, q.2.1.n, ([q.2.1.get 3, q.2.1.get 6, q.2.1.get 7] : List AV), q.2.2.1, q.2.2.2.2)) = some (.normal, 62, [(u64 n3), (u32 n60), (i64 n48)], st, [binA E0 .lss 3 (i64 n7) (i64 32) = some TT, convO E0 st 3 53 (i64 n7) = some ((u64 n51), st), binA E0 .shr 79 (u64 n3) (u64 n51) = some (u64 n52), binA E0 .and 79 (u64 n52) (u64 1) = some (u64 n53), binA E0 .eql 79 (u64 n53) (u64 0) = some TT, binA E0 .sub 3 (i64 31) (i64 n7) = some (i64 n57), convO E0 st 3 53 (i64 n57) = some ((u64 n58), st), binA E0 .shl 80 (u32 1) (u64 n58) = some (u32 n59), binA E0 .add 80 (u32 n6) (u32 n59) = some (u32 n60), binA E0 .add 3 (i64 n7) (i64 1) = some (i64 n48)]) := by kernel_rfl
theorem f43_6_TT {n3 n6 n7 n51 n52 n53 n57 n58 n59 n60 n48 : Int} {st : St} (h1 : binA E0 .lss 3 (i64 n7) (i64 32) = some TT) (h2 : convO E0 st 3 53 (i64 n7) = some ((u64 n51), st)) (h3 : binA E0 .shr 79 (u64 n3) (u64 n51) = some (u64 n52)) (h4 : binA E0 .and 79 (u64 n52) (u64 1) = some (u64 n53)) (h5 : binA E0 .eql 79 (u64 n53) (u64 0) = some TT) (h6 : binA E0 .sub 3 (i64 31) (i64 n7) = some (i64 n57)) (h7 : convO E0 st 3 53 (i64 n57) = some ((u64 n58), st)) (h8 : binA E0 .shl 80 (u32 1) (u64 n58) = some (u32 n59)) (h9 : binA E0 .add 80 (u32 n6) (u32 n59) = some (u32 n60)) (h10 : binA E0 .add 3 (i64 n7) (i64 1) = some (i64 n48)) {T : Tm} (hT : f43L5 T (u64 n3) (u32 n6) (i64 n7)) : AW Tryz.prog (f43P 6) (fun ex T' st' => ex = .normal ∧ f43L5 T' (u64 n3) (u32 n60) (i64 n48) ∧ st' = st) T st := by
  obtain ⟨hn, g3, g6, g7⟩ := hT
  exact (gen_run (G := fun T => ([T.get 3, T.get 6, T.get 7] : List AV)) hE (f43_6_TT_e n3 n6 n7 n51 n52 n53 n57 n58 n59 n60 n48 st) (Ob.ok_cons.2 ⟨h1, (Ob.ok_cons.2 ⟨h2, (Ob.ok_cons.2 ⟨h3, (Ob.ok_cons.2 ⟨h4, (Ob.ok_cons.2 ⟨h5, (Ob.ok_cons.2 ⟨h6, (Ob.ok_cons.2 ⟨h7, (Ob.ok_cons.2 ⟨h8, (Ob.ok_cons.2 ⟨h9, (Ob.ok_cons.2 ⟨h10, Ob.ok_nil⟩)⟩)⟩)⟩)⟩)⟩)⟩)⟩)⟩)⟩) hn (conz g3 (conz g6 (one g7)))).mono fun ex T' st' ⟨q1, q2, q3, q4⟩ => by simp only [List.cons.injEq, and_true] at q3; exact ⟨q1, ⟨q2, q3⟩, q4⟩
theorem f43_6_TF_e (n3 n6 n7 n51 n52 n53 n48 : Int) (st : St) : ((evS Tryz.prog E0 noOv noS 100000 [2051, 2058, 7046, 7048, 7052, 7053, 7054, 7057, 7059, 7060] (f43P 6) ⟨62, [(3, (u64 n3)), (6, (u32 n6)), (7, (i64 n7))], []⟩ st [.av TT, .eff (u64 n51) id, .av (u64 n52), .av (u64 n53), .av FF, .av (i64 n48)]).map fun q => (q.1, q.2.1.n, ([q.2.1.get 3, q.2.1.get 6, q.2.1.get 7] : List AV), q.2.2.1, q.2.2.2.2)) = some (.normal, 62, [(u64 n3), (u32 n6), (i64 n48)], st, [binA E0 .lss 3 (i64 n7) (i64 32) = some TT, convO E0 st 3 53 (i64 n7) = some ((u64 n51), st), binA E0 .shr 79 (u64 n3) (u64 n51) = some (u64 n52), binA E0 .and 79 (u64 n52) (u64 1) = some (u64 n53), binA E0 .eql 79 (u64 n53) (u64 0) = some FF, binA E0 .add 3 (i64 n7) (i64 1) = some (i64 n48)]) := by kernel_rfl
theorem f43_6_TF {n3 n6 n7 n51 n52 n53 n48 : Int} {st : St} (h1 : binA E0 .lss 3 (i64 n7) (i64 32) = some TT) (h2 : convO E0 st 3 53 (i64 n7) = some ((u64 n51), st)) (h3 : binA E0 .shr 79 (u64 n3) (u64 n51) = some (u64 n52)) (h4 : binA E0 .and 79 (u64 n52) (u64 1) = some (u64 n53)) (h5 : binA E0 .eql 79 (u64 n53) (u64 0) = some FF) (h6 : binA E0 .add 3 (i64 n7) (i64 1) = some (i64 n48)) {T : Tm} (hT : f43L5 T (u64 n3) (u32 n6) (i64 n7)) : AW Tryz.prog (f43P 6) (fun ex T' st' => ex = .normal ∧ f43L5 T' (u64 n3) (u32 n6) (i64 n48) ∧ st' = st) T st := by
  obtain ⟨hn, g3, g6, g7⟩ := hT
  exact (gen_run (G := fun T => ([T.get 3, T.get 6, T.get 7] : List AV)) hE (f43_6_TF_e n3 n6 n7 n51 n52 n53 n48 st) (Ob.ok_cons.2 ⟨h1, (Ob.ok_cons.2 ⟨h2, (Ob.ok_cons.2 ⟨h3, (Ob.ok_cons.2 ⟨h4, (Ob.ok_cons.2 ⟨h5, (Ob.ok_cons.2 ⟨h6, Ob.ok_nil⟩)⟩)⟩)⟩)⟩)⟩) hn (conz g3 (conz g6 (one g7)))).mono fun ex T' st' ⟨q1, q2, q3, q4⟩ => by simp only [List.cons.injEq, and_true] at q3; exact ⟨q1, ⟨q2, q3⟩, q4⟩
def f43L6 (T : Tm) (a6 : AV) : Prop := T.n = 62 ∧ T.get 6 = a6
theorem f43_6_F_e (n3 n6 n7 : Int) (st : St) : ((evS Tryz.prog E0 noOv noS 100000 [2051, 2058, 7046, 7048, 7052, 7053, 7054, 7057, 7059, 7060] (f43P 6) ⟨62, [(3, (u64 n3)), (6, (u32 n6)), (7, (i64 n7))], []⟩ st [.av FF]).map fun q => (q.1, q.2.1.n, ([q.2.1.get 6] : List AV), q.2.2.1, q.2.2.2.2)) = some ((.exit 2), 62, [(u32 n6)], st, [binA E0 .lss 3 (i64 n7) (i64 32) = some FF]) := by kernel_rfl
theorem f43_6_F {n3 n6 n7 : Int} {st : St} (h1 : binA E0 .lss 3 (i64 n7) (i64 32) = some FF) {T : Tm} (hT : f43L5 T (u64 n3) (u32 n6) (i64 n7)) : AW Tryz.prog (f43P 6) (fun ex T' st' => ex = (.exit 2) ∧ f43L6 T' (u32 n6) ∧ st' = st) T st := by
  obtain ⟨hn, g3, g6, g7⟩ := hT
  exact (gen_run (G := fun T => ([T.get 6] : List AV)) hE (f43_6_F_e n3 n6 n7 st) (Ob.ok_cons.2 ⟨h1, Ob.ok_nil⟩) hn (conz g3 (conz g6 (one g7)))).mono fun ex T' st' ⟨q1, q2, q3, q4⟩ => by simp only [List.cons.injEq, and_true] at q3; exact ⟨q1, ⟨q2, q3⟩, q4⟩
def f43L7 (T : Tm) (a2 : AV) : Prop := T.n = 62 ∧ T.get 2 = a2
theorem f43_7_e (n6 : Int) (st : St) : ((evS Tryz.prog E0 noOv noS 100000 [] (f43P 7) ⟨62, [(6, (u32 n6))], []⟩ st []).map fun q => (q.1, q.2.1.n, ([q.2.1.get 2] : List AV), q.2.2.1, q.2.2.2.2)) = some (.ret, 62, [(u32 n6)], st, []) := by kernel_rfl
theorem f43_7 {n6 : Int} {st : St}  {T : Tm} (hT : f43L6 T (u32 n6)) : AW Tryz.prog (f43P 7) (fun ex T' st' => ex = .ret ∧ f43L7 T' (u32 n6) ∧ st' = st) T st := by
  obtain ⟨hn, g6⟩ := hT
  exact (gen_run (G := fun T => ([T.get 2] : List AV)) hE (f43_7_e n6 st) Ob.ok_nil hn (one g6)).mono fun ex T' st' ⟨q1, q2, q3, q4⟩ => by simp only [List.cons.injEq, and_true] at q3; exact ⟨q1, ⟨q2, q3⟩, q4⟩
noncomputable def f10P (i : Nat) : Code := match Tryz.f10.body with
  | some (.seq x0 (.seq x1 (.seq x2 (.seq (.block 0 (.loop (.seq x3 (.block 1 (.seq x4 (.seq (.seq x5 (.block 2 (.loop x6))) x7)))))) x8)))) => [x0, x1, x2, x3, x4, x5, x6, x7, x8].getD i .skip
  | _ => .skip
theorem f10body : Tryz.f10.body = some (.seq (f10P 0) (.seq (f10P 1) (.seq (f10P 2) (.seq (.block 0 (.loop (.seq (f10P 3) (.block 1 (.seq (f10P 4) (.seq (.seq (f10P 5) (.block 2 (.loop (f10P 6)))) (f10P 7))))))) (f10P 8))))) := by kernel_rfl
def f10L0 (T : Tm) (a0 : AV) : Prop := T.n = 81 ∧ T.get 0 = a0
theorem f10_0_e (v0 : AV) (st : St) : ((evS Tryz.prog E0 noOv noS 100000 [] (f10P 0) ⟨81, [(0, v0)], []⟩ st []).map fun q => (q.1, q.2.1.n, ([q.2.1.get 0] : List AV), q.2.2.1, q.2.2.2.2)) = some (.normal, 81, [v0], st, []) := by kernel_rfl
theorem f10_0 {v0 : AV} {st : St}  {T : Tm} (hT : f10L0 T v0) : AW Tryz.prog (f10P 0) (fun ex T' st' => ex = .normal ∧ f10L0 T' v0 ∧ st' = st) T st := by
  obtain ⟨hn, g0⟩ := hT
  exact (gen_run (G := fun T => ([T.get 0] : List AV)) hE (f10_0_e v0 st) Ob.ok_nil hn (one g0)).mono fun ex T' st' ⟨q1, q2, q3, q4⟩ => by simp only [List.cons.injEq, and_true] at q3; exact ⟨q1, ⟨q2, q3⟩, q4⟩
def f10L1 (T : Tm) (a0 a3 : AV) : Prop := T.n = 81 ∧ T.get 0 = a0 ∧ T.get 3 = a3
theorem f10_1_e (v0 : AV) (st : St) : ((evS Tryz.prog E0 noOv noS 100000 [] (f10P 1) ⟨81, [(0, v0)], []⟩ st []).map fun q => (q.1, q.2.1.n, ([q.2.1.get 0, q.2.1.get 3] : List AV), q.2.2.1, q.2.2.2.2)) = some (.normal, 81, [v0, .nils], st, []) := by kernel_rfl
theorem f10_1 {v0 : AV} {st : St}  {T : Tm} (hT : f10L0 T v0) : AW Tryz.prog (f10P 1) (fun ex T' st' => ex = .normal ∧ f10L1 T' v0 .nils ∧ st' = st) T st := by
  obtain ⟨hn, g0⟩ := hT
  exact (gen_run (G := fun T => ([T.get 0, T.get 3] : List AV)) hE (f10_1_e v0 st) Ob.ok_nil hn (one g0)).mono fun ex T' st' ⟨q1, q2, q3, q4⟩ => by simp only [List.cons.injEq, and_true] at q3; exact ⟨q1, ⟨q2, q3⟩, q4⟩
def f10L2 (T : Tm) (a0 a3 a4 : AV) : Prop := T.n = 81 ∧ T.get 0 = a0 ∧ T.get 3 = a3 ∧ T.get 4 = a4
theorem f10_2_e (v0 v3 : AV) (st : St) : ((evS Tryz.prog E0 noOv noS 100000 [] (f10P 2) ⟨81, [(0, v0), (3, v3)], []⟩ st []).map fun q => (q.1, q.2.1.n, ([q.2.1.get 0, q.2.1.get 3, q.2.1.get 4] : List AV), q.2.2.1, q.2.2.2.2)) = some (.normal, 81, [v0, v3, (i64 0)], st, []) := by kernel_rfl
theorem f10_2 {v0 v3 : AV} {st : St}  {T : Tm} (hT : f10L1 T v0 v3) : AW Tryz.prog (f10P 2) (fun ex T' st' => ex = .normal ∧ f10L2 T' v0 v3 (i64 0) ∧ st' = st) T st := by
  obtain ⟨hn, g0, g3⟩ := hT
  exact (gen_run (G := fun T => ([T.get 0, T.get 3, T.get 4] : List AV)) hE (f10_2_e v0 v3 st) Ob.ok_nil hn (conz g0 (one g3))).mono fun ex T' st' ⟨q1, q2, q3, q4⟩ => by simp only [List.cons.injEq, and_true] at q3; exact ⟨q1, ⟨q2, q3⟩, q4⟩
theorem f10_3_T_e (v0 v3 : AV) (n4 n11 n13 : Int) (st : St) : ((evS Tryz.prog E0 noOv noS 100000 [7011, 7013, 7014] (f10P 3) ⟨81, [(0, v0), (3, v3), (4, (i64 n4))], []⟩ st [.av (i64 n11), .av (i64 n13), .av TT]).map fun q => (q.1, q.2.1.n, ([q.2.1.get 0, q.2.1.get 3, q.2.1.get 4] : List AV), q.2.2.1, q.2.2.2.2)) = some (.normal, 81, [v0, v3, (i64 n4)], st, [lenA E0 22 v0 = some (i64 n11), binA E0 .sub 3 (i64 n11) (i64 n4) = some (i64 n13), binA E0 .geq 3 (i64 n13) (i64 8) = some TT]) := by kernel_rfl
theorem f10_3_T {v0 v3 : AV} {n4 n11 n13 : Int} {st : St} (h1 : lenA E0 22 v0 = some (i64 n11)) (h2 : binA E0 .sub 3 (i64 n11) (i64 n4) = some (i64 n13)) (h3 : binA E0 .geq 3 (i64 n13) (i64 8) = some TT) {T : Tm} (hT : f10L2 T v0 v3 (i64 n4)) : AW Tryz.prog (f10P 3) (fun ex T' st' => ex = .normal ∧ f10L2 T' v0 v3 (i64 n4) ∧ st' = st) T st := by
  obtain ⟨hn, g0, g3, g4⟩ := hT
  exact (gen_run (G := fun T => ([T.get 0, T.get 3, T.get 4] : List AV)) hE (f10_3_T_e v0 v3 n4 n11 n13 st) (Ob.ok_cons.2 ⟨h1, (Ob.ok_cons.2 ⟨h2, (Ob.ok_cons.2 ⟨h3, Ob.ok_nil⟩)⟩)⟩) hn (conz g0 (conz g3 (one g4)))).mono fun ex T' st' ⟨q1, q2, q3, q4⟩ => by simp only [List.cons.injEq, and_true] at q3; exact ⟨q1, ⟨q2, q3⟩, q4⟩
def f10L3 (T : Tm) (a3 : AV) : Prop := T.n = 81 ∧ T.get 3 = a3
theorem f10_3_F_e (v0 v3 : AV) (n4 n11 n13 : Int) (st : St) : ((evS Tryz.prog E0 noOv noS 100000 [7011, 7013, 7014] (f10P 3) ⟨81, [(0, v0), (3, v3), (4, (i64 n4))], []⟩ st [.av (i64 n11), .av (i64 n13), .av FF]).map fun q => (q.1, q.2.1.n, ([q.2.1.get 3] : List AV), q.2.2.1, q.2.2.2.2)) = some ((.exit 0), 81, [v3], st, [lenA E0 22 v0 = some (i64 n11), binA E0 .sub 3 (i64 n11) (i64 n4) = some (i64 n13), binA E0 .geq 3 (i64 n13) (i64 8) = some FF]) := by kernel_rfl
theorem f10_3_F {v0 v3 : AV} {n4 n11 n13 : Int} {st : St} (h1 : lenA E0 22 v0 = some (i64 n11)) (h2 : binA E0 .sub 3 (i64 n11) (i64 n4) = some (i64 n13)) (h3 : binA E0 .geq 3 (i64 n13) (i64 8) = some FF) {T : Tm} (hT : f10L2 T v0 v3 (i64 n4)) : AW Tryz.prog (f10P 3) (fun ex T' st' => ex = (.exit 0) ∧ f10L3 T' v3 ∧ st' = st) T st := by
  obtain ⟨hn, g0, g3, g4⟩ := hT
  exact (gen_run (G := fun T => ([T.get 3] : List AV)) hE (f10_3_F_e v0 v3 n4 n11 n13 st) (Ob.ok_cons.2 ⟨h1, (Ob.ok_cons.2 ⟨h2, (Ob.ok_cons.2 ⟨h3, Ob.ok_nil⟩)⟩)⟩) hn (conz g0 (conz g3 (one g4)))).mono fun ex T' st' ⟨q1, q2, q3, q4⟩ => by simp only [List.cons.injEq, and_true] at q3; exact ⟨q1, ⟨q2, q3⟩, q4⟩
def f10L4 (T : Tm) (a0 a3 a4 a5 : AV) : Prop := T.n = 81 ∧ T.get 0 = a0 ∧ T.get 3 = a3 ∧ T.get 4 = a4 ∧ T.get 5 = a5
theorem f10_4_e (v0 v3 : AV) (n4 : Int) (st : St) : ((evS Tryz.prog E0 noOv noS 100000 [] (f10P 4) ⟨81, [(0, v0), (3, v3), (4, (i64 n4))], []⟩ st []).map fun q => (q.1, q.2.1.n, ([q.2.1.get 0, q.2.1.get 3, q.2.1.get 4, q.2.1.get 5] : List AV), q.2.2.1, q.2.2.2.2)) = some (.normal, 81, [v0, v3, (i64 n4), (i64 0)], st, []) := by kernel_rfl
theorem f10_4 {v0 v3 : AV} {n4 : Int} {st : St}  {T : Tm} (hT : f10L2 T v0 v3 (i64 n4)) : AW Tryz.prog (f10P 4) (fun ex T' st' => ex = .normal ∧ f10L4 T' v0 v3 (i64 n4) (i64 0) ∧ st' = st) T st := by
  obtain ⟨hn, g0, g3, g4⟩ := hT
  exact (gen_run (G := fun T => ([T.get 0, T.get 3, T.get 4, T.get 5] : List AV)) hE (f10_4_e v0 v3 n4 st) Ob.ok_nil hn (conz g0 (conz g3 (one g4)))).mono fun ex T' st' ⟨q1, q2, q3, q4⟩ => by simp only [List.cons.injEq, and_true] at q3; exact ⟨q1, ⟨q2, q3⟩, q4⟩
def f10L5 (T : Tm) (a0 a3 a4 a5 a6 : AV) : Prop := T.n = 81 ∧ T.get 0 = a0 ∧ T.get 3 = a3 ∧ T.get 4 = a4 ∧ T.get 5 = a5 ∧ T.get 6 = a6
theorem f10_5_e (v0 v3 : AV) (n4 n5 : Int) (st : St) : ((evS Tryz.prog E0 noOv noS 100000 [] (f10P 5) ⟨81, [(0, v0), (3, v3), (4, (i64 n4)), (5, (i64 n5))], []⟩ st []).map fun q => (q.1, q.2.1.n, ([q.2.1.get 0, q.2.1.get 3, q.2.1.get 4, q.2.1.get 5, q.2.1.get 6] : List AV), q.2.2.1, q.2.2.2.2)) = some (.normal, 81, [v0, v3, (i64 n4), (i64 n5), (i64 0)], st, []) := by kernel_rfl
theorem f10_5 {v0 v3 : AV} {n4 n5 : Int} {st : St}  {T : Tm} (hT : f10L4 T v0 v3 (i64 n4) (i64 n5)) : AW Tryz.prog (f10P 5) (fun ex T' st' => ex = .normal ∧ f10L5 T' v0 v3 (i64 n4) (i64 n5) (i64 0) ∧ st' = st) T st := by
  obtain ⟨hn, g0, g3, g4, g5⟩ := hT
  exact (gen_run (G := fun T => ([T.get 0, T.get 3, T.get 4, T.get 5, T.get 6] : List AV)) hE (f10_5_e v0 v3 n4 n5 st) Ob.ok_nil hn (conz g0 (conz g3 (conz g4 (one g5))))).mono fun ex T' st' ⟨q1, q2, q3, q4⟩ => by simp only [List.cons.injEq, and_true] at q3; exact ⟨q1, ⟨q2, q3⟩, q4⟩
theorem f10_6_T_e (v0 v3 q25 : AV) (n4 n5 n6 n20 n24 n26 n27 n28 n18 : Int) (st : St) : ((evS Tryz.prog E0 noOv noS 100000 [2026, 2027, 7016, 7018, 7020, 7024, 7025, 7028] (f10P 6) ⟨81, [(0, v0), (3, v3), (4, (i64 n4)), (5, (i64 n5)), (6, (i64 n6))], []⟩ st [.av TT, .av (i64 n20), .av (i64 n24), .av q25, .eff (u8 n26) id, .eff (i64 n27) id, .av (i64 n28), .av (i64 n18)]).map fun q => (q.1, q.2.1.n, ([q.2.1.get 0, q.2.1.get 3, q.2.1.get 4, q.2.1.get 5, q.2.1.get 6] : List AV), q.2.2.1, q.2.2.2.2)) = some (.normal, 81, [v0, v3, (i64 n4), (i64 n28), (i64 n18)], st, [binA E0 .lss 3 (i64 n6) (i64 4) = some TT, binA E0 .mul 3 (i64 256) (i64 n5) = some (i64 n20), binA E0 .add 3 (i64 n4) (i64 n6) = some (i64 n24), indexAddrA E0 22 v0 (i64 n24) = some q25, loadA E0 st 5 q25 = some (u8 n26) ∧ st = st, convO E0 st 5 3 (u8 n26) = some ((i64 n27), st), binA E0 .add 3 (i64 n20) (i64 n27) = some (i64 n28), binA E0 .add 3 (i64 n6) (i64 1) = some (i64 n18)]) := by kernel_rfl
theorem f10_6_T {v0 v3 q25 : AV} {n4 n5 n6 n20 n24 n26 n27 n28 n18 : Int} {st : St} (h1 : binA E0 .lss 3 (i64 n6) (i64 4) = some TT) (h2 : binA E0 .mul 3 (i64 256) (i64 n5) = some (i64 n20)) (h3 : binA E0 .add 3 (i64 n4) (i64 n6) = some (i64 n24)) (h4 : indexAddrA E0 22 v0 (i64 n24) = some q25) (h5 : loadA E0 st 5 q25 = some (u8 n26)) (h6 : convO E0 st 5 3 (u8 n26) = some ((i64 n27), st)) (h7 : binA E0 .add 3 (i64 n20) (i64 n27) = some (i64 n28)) (h8 : binA E0 .add 3 (i64 n6) (i64 1) = some (i64 n18)) {T : Tm} (hT : f10L5 T v0 v3 (i64 n4) (i64 n5) (i64 n6)) : AW Tryz.prog (f10P 6) (fun ex T' st' => ex = .normal ∧ f10L5 T' v0 v3 (i64 n4) (i64 n28) (i64 n18) ∧ st' = st) T st := by
  obtain ⟨hn, g0, g3, g4, g5, g6⟩ := hT
  exact (gen_run (G := fun T => ([T.get 0, T.get 3, T.get 4, T.get 5, T.get 6] : List AV)) hE (f10_6_T_e v0 v3 q25 n4 n5 n6 n20 n24 n26 n27 n28 n18 st) (Ob.ok_cons.2 ⟨h1, (Ob.ok_cons.2 ⟨h2, (Ob.ok_cons.2 ⟨h3, (Ob.ok_cons.2 ⟨h4, (Ob.ok_cons.2 ⟨⟨h5, rfl⟩, (Ob.ok_cons.2 ⟨h6, (Ob.ok_cons.2 ⟨h7, (Ob.ok_cons.2 ⟨h8, Ob.ok_nil⟩)⟩)⟩)⟩)⟩)⟩)⟩)⟩) hn (conz g0 (conz g3 (conz g4 (conz g5 (one g6)))))).mono fun ex T' st' ⟨q1, q2, q3, q4⟩ => by simp only [List.cons.injEq, and_true] at q3; exact ⟨q1, ⟨q2, q3⟩, q4⟩
theorem f10_6_F_e (v0 v3 : AV) (n4 n5 n6 : Int) (st : St) : ((evS Tryz.prog E0 noOv noS 100000 [2026, 2027, 7016, 7018, 7020, 7024, 7025, 7028] (f10P 6) ⟨81, [(0, v0), (3, v3), (4, (i64 n4)), (5, (i64 n5)), (6, (i64 n6))], []⟩ st [.av FF]).map fun q => (q.1, q.2.1.n, ([q.2.1.get 0, q.2.1.get 3, q.2.1.get 4, q.2.1.get 5] : List AV), q.2.2.1, q.2.2.2.2)) = some ((.exit 2), 81, [v0, v3, (i64 n4), (i64 n5)], st, [binA E0 .lss 3 (i64 n6) (i64 4) = some FF]) := by kernel_rfl
theorem f10_6_F {v0 v3 : AV} {n4 n5 n6 : Int} {st : St} (h1 : binA E0 .lss 3 (i64 n6) (i64 4) = some FF) {T : Tm} (hT : f10L5 T v0 v3 (i64 n4) (i64 n5) (i64 n6)) : AW Tryz.prog (f10P 6) (fun ex T' st' => ex = (.exit 2) ∧ f10L4 T' v0 v3 (i64 n4) (i64 n5) ∧ st' = st) T st := by
  obtain ⟨hn, g0, g3, g4, g5, g6⟩ := hT
  exact (gen_run (G := fun T => ([T.get 0, T.get 3, T.get 4, T.get 5] : List AV)) hE (f10_6_F_e v0 v3 n4 n5 n6 st) (Ob.ok_cons.2 ⟨h1, Ob.ok_nil⟩) hn (conz g0 (conz g3 (conz g4 (conz g5 (one g6)))))).mono fun ex T' st' ⟨q1, q2, q3, q4⟩ => by simp only [List.cons.injEq, and_true] at q3; exact ⟨q1, ⟨q2, q3⟩, q4⟩
def f10L6 (T : Tm) (a2 : AV) : Prop := T.n = 81 ∧ T.get 2 = a2
theorem f10_7_T_e (v0 v3 : AV) (n4 n5 : Int) (st : St) : ((evS Tryz.prog E0 noOv noS 100000 [2054, 2061, 2069, 2074, 2075, 6008, 7030, 7033, 7038, 7040, 7041, 7042, 7048, 7050, 7052, 7053, 7065, 7067, 7068, 7070, 7078, 7079, 8514] (f10P 7) ⟨81, [(0, v0), (3, v3), (4, (i64 n4)), (5, (i64 n5))], []⟩ st [.av TT]).map fun q => (q.1, q.2.1.n, ([q.2.1.get 2] : List AV), q.2.2.1, q.2.2.2.2)) = some (.ret, 81, [v3], st, [binA E0 .lss 3 (i64 n5) (i64 1) = some TT]) := by kernel_rfl
theorem f10_7_T {v0 v3 : AV} {n4 n5 : Int} {st : St} (h1 : binA E0 .lss 3 (i64 n5) (i64 1) = some TT) {T : Tm} (hT : f10L4 T v0 v3 (i64 n4) (i64 n5)) : AW Tryz.prog (f10P 7) (fun ex T' st' => ex = .ret ∧ f10L6 T' v3 ∧ st' = st) T st := by
  obtain ⟨hn, g0, g3, g4, g5⟩ := hT
  exact (gen_run (G := fun T => ([T.get 2] : List AV)) hE (f10_7_T_e v0 v3 n4 n5 st) (Ob.ok_cons.2 ⟨h1, Ob.ok_nil⟩) hn (conz g0 (conz g3 (conz g4 (one g5))))).mono fun ex T' st' ⟨q1, q2, q3, q4⟩ => by simp only [List.cons.injEq, and_true] at q3; exact ⟨q1, ⟨q2, q3⟩, q4⟩
theorem f10_7_FT_e (v0 v3 : AV) (n4 n5 : Int) (st : St) : ((evS Tryz.prog E0 noOv noS 100000 [2054, 2061, 2069, 2074, 2075, 6008, 7030, 7033, 7038, 7040, 7041, 7042, 7048, 7050, 7052, 7053, 7065, 7067, 7068, 7070, 7078, 7079, 8514] (f10P 7) ⟨81, [(0, v0), (3, v3), (4, (i64 n4)), (5, (i64 n5))], []⟩ st [.av FF, .av TT]).map fun q => (q.1, q.2.1.n, ([q.2.1.get 2] : List AV), q.2.2.1, q.2.2.2.2)) = some (.ret, 81, [v3], st, [binA E0 .lss 3 (i64 n5) (i64 1) = some FF, binA E0 .gtr 3 (i64 n5) (i64 4096) = some TT]) := by kernel_rfl
theorem f10_7_FT {v0 v3 : AV} {n4 n5 : Int} {st : St} (h1 : binA E0 .lss 3 (i64 n5) (i64 1) = some FF) (h2 : binA E0 .gtr 3 (i64 n5) (i64 4096) = some TT) {T : Tm} (hT : f10L4 T v0 v3 (i64 n4) (i64 n5)) : AW Tryz.prog (f10P 7) (fun ex T' st' => ex = .ret ∧ f10L6 T' v3 ∧ st' = st) T st := by
  obtain ⟨hn, g0, g3, g4, g5⟩ := hT
  exact (gen_run (G := fun T => ([T.get 2] : List AV)) hE (f10_7_FT_e v0 v3 n4 n5 st) (Ob.ok_cons.2 ⟨h1, (Ob.ok_cons.2 ⟨h2, Ob.ok_nil⟩)⟩) hn (conz g0 (conz g3 (conz g4 (one g5))))).mono fun ex T' st' ⟨q1, q2, q3, q4⟩ => by simp only [List.cons.injEq, and_true] at q3; exact ⟨q1, ⟨q2, q3⟩, q4⟩
theorem f10_7_FFT_e (v0 v3 : AV) (n4 n5 n38 n40 n41 : Int) (st : St) : ((evS Tryz.prog E0 noOv noS 100000 [2054, 2061, 2069, 2074, 2075, 6008, 7030, 7033, 7038, 7040, 7041, 7042, 7048, 7050, 7052, 7053, 7065, 7067, 7068, 7070, 7078, 7079, 8514] (f10P 7) ⟨81, [(0, v0), (3, v3), (4, (i64 n4)), (5, (i64 n5))], []⟩ st [.av FF, .av FF, .av (i64 n38), .av (i64 n40), .av (i64 n41), .av TT]).map fun q => (q.1, q.2.1.n, ([q.2.1.get 2] : List AV), q.2.2.1, q.2.2.2.2)) = some (.ret, 81, [v3], st, [binA E0 .lss 3 (i64 n5) (i64 1) = some FF, binA E0 .gtr 3 (i64 n5) (i64 4096) = some FF, lenA E0 22 v0 = some (i64 n38), binA E0 .sub 3 (i64 n38) (i64 n4) = some (i64 n40), binA E0 .sub 3 (i64 n40) (i64 8) = some (i64 n41), binA E0 .gtr 3 (i64 n5) (i64 n41) = some TT]) := by kernel_rfl
theorem f10_7_FFT {v0 v3 : AV} {n4 n5 n38 n40 n41 : Int} {st : St} (h1 : binA E0 .lss 3 (i64 n5) (i64 1) = some FF) (h2 : binA E0 .gtr 3 (i64 n5) (i64 4096) = some FF) (h3 : lenA E0 22 v0 = some (i64 n38)) (h4 : binA E0 .sub 3 (i64 n38) (i64 n4) = some (i64 n40)) (h5 : binA E0 .sub 3 (i64 n40) (i64 8) = some (i64 n41)) (h6 : binA E0 .gtr 3 (i64 n5) (i64 n41) = some TT) {T : Tm} (hT : f10L4 T v0 v3 (i64 n4) (i64 n5)) : AW Tryz.prog (f10P 7) (fun ex T' st' => ex = .ret ∧ f10L6 T' v3 ∧ st' = st) T st := by
  obtain ⟨hn, g0, g3, g4, g5⟩ := hT
  exact (gen_run (G := fun T => ([T.get 2] : List AV)) hE (f10_7_FFT_e v0 v3 n4 n5 n38 n40 n41 st) (Ob.ok_cons.2 ⟨h1, (Ob.ok_cons.2 ⟨h2, (Ob.ok_cons.2 ⟨h3, (Ob.ok_cons.2 ⟨h4, (Ob.ok_cons.2 ⟨h5, (Ob.ok_cons.2 ⟨h6, Ob.ok_nil⟩)⟩)⟩)⟩)⟩)⟩) hn (conz g0 (conz g3 (conz g4 (one g5))))).mono fun ex T' st' ⟨q1, q2, q3, q4⟩ => by simp only [List.cons.injEq, and_true] at q3; exact ⟨q1, ⟨q2, q3⟩, q4⟩
theorem f10_7_FFFT_e (v0 v3 v53 v54 v57a v68 : AV) (n4 n5 n38 n40 n41 n48 n50 n52 n57b n65 n67 : Int) (st s1 s2 : St) (w61 w69 : ByteArray) : ((evS Tryz.prog E0 noOv noS 100000 [2054, 2061, 2069, 2074, 2075, 6008, 7030, 7033, 7038, 7040, 7041, 7042, 7048, 7050, 7052, 7053, 7065, 7067, 7068, 7070, 7078, 7079, 8514] (f10P 7) ⟨81, [(0, v0), (3, v3), (4, (i64 n4)), (5, (i64 n5))], []⟩ st [.av FF, .av FF, .av (i64 n38), .av (i64 n40), .av (i64 n41), .av FF, .av (i64 n48), .av (i64 n50), .av (i64 n52), .av v53, .eff v54 (fun _ => s1), .eff (.tup [v57a, (i64 n57b)]) (fun _ => s2), .eff (str w61) id, .eff (i64 n65) id, .eff (i64 n67) id, .eff v68 id, .eff (str w69) id, .eff TT id]).map fun q => (q.1, q.2.1.n, ([q.2.1.get 2] : List AV), q.2.2.1, q.2.2.2.2)) = some (.ret, 81, [v3], s2, [binA E0 .lss 3 (i64 n5) (i64 1) = some FF, binA E0 .gtr 3 (i64 n5) (i64 4096) = some FF, lenA E0 22 v0 = some (i64 n38), binA E0 .sub 3 (i64 n38) (i64 n4) = some (i64 n40), binA E0 .sub 3 (i64 n40) (i64 8) = some (i64 n41), binA E0 .gtr 3 (i64 n5) (i64 n41) = some FF, binA E0 .add 3 (i64 n4) (i64 8) = some (i64 n48), binA E0 .add 3 (i64 n4) (i64 8) = some (i64 n50), binA E0 .add 3 (i64 n50) (i64 n5) = some (i64 n52), sliceA E0 st 22 v0 (some (i64 n48)) (some (i64 n52)) none = some v53, appendA E0 st 22 22 .nils v53 = some (v54, s1), obC 8 [v54] s1 (.tup [v57a, (i64 n57b)]) s2, bytesStrA E0 s2 22 9 v57a = some (str w61), binA E0 .add 3 (i64 n4) (i64 8) = some (i64 n65), binA E0 .add 3 (i64 n65) (i64 n5) = some (i64 n67), sliceA E0 s2 22 v0 (some (i64 n4)) (some (i64 n67)) none = some v68, bytesStrA E0 s2 22 9 v68 = some (str w69), binA E0 .neq 9 (str w61) (str w69) = some TT]) := by kernel_rfl
theorem f10_7_FFFT {v0 v3 v53 v54 v57a v68 : AV} {n4 n5 n38 n40 n41 n48 n50 n52 n57b n65 n67 : Int} {st s1 s2 : St} {w61 w69 : ByteArray} (h1 : binA E0 .lss 3 (i64 n5) (i64 1) = some FF) (h2 : binA E0 .gtr 3 (i64 n5) (i64 4096) = some FF) (h3 : lenA E0 22 v0 = some (i64 n38)) (h4 : binA E0 .sub 3 (i64 n38) (i64 n4) = some (i64 n40)) (h5 : binA E0 .sub 3 (i64 n40) (i64 8) = some (i64 n41)) (h6 : binA E0 .gtr 3 (i64 n5) (i64 n41) = some FF) (h7 : binA E0 .add 3 (i64 n4) (i64 8) = some (i64 n48)) (h8 : binA E0 .add 3 (i64 n4) (i64 8) = some (i64 n50)) (h9 : binA E0 .add 3 (i64 n50) (i64 n5) = some (i64 n52)) (h10 : sliceA E0 st 22 v0 (some (i64 n48)) (some (i64 n52)) none = some v53) (h11 : appendA E0 st 22 22 .nils v53 = some (v54, s1)) (h12 : obC 8 [v54] s1 (.tup [v57a, (i64 n57b)]) s2) (h13 : bytesStrA E0 s2 22 9 v57a = some (str w61)) (h14 : binA E0 .add 3 (i64 n4) (i64 8) = some (i64 n65)) (h15 : binA E0 .add 3 (i64 n65) (i64 n5) = some (i64 n67)) (h16 : sliceA E0 s2 22 v0 (some (i64 n4)) (some (i64 n67)) none = some v68) (h17 : bytesStrA E0 s2 22 9 v68 = some (str w69)) (h18 : binA E0 .neq 9 (str w61) (str w69) = some TT) {T : Tm} (hT : f10L4 T v0 v3 (i64 n4) (i64 n5)) : AW Tryz.prog (f10P 7) (fun ex T' st' => ex = .ret ∧ f10L6 T' v3 ∧ st' = s2) T st := by
  obtain ⟨hn, g0, g3, g4, g5⟩ := hT
  exact (gen_run (G := fun T => ([T.get 2] : List AV)) hE (f10_7_FFFT_e v0 v3 v53 v54 v57a v68 n4 n5 n38 n40 n41 n48 n50 n52 n57b n65 n67 st s1 s2 w61 w69) (Ob.ok_cons.2 ⟨h1, (Ob.ok_cons.2 ⟨h2, (Ob.ok_cons.2 ⟨h3, (Ob.ok_cons.2 ⟨h4, (Ob.ok_cons.2 ⟨h5, (Ob.ok_cons.2 ⟨h6, (Ob.ok_cons.2 ⟨h7, (Ob.ok_cons.2 ⟨h8, (Ob.ok_cons.2 ⟨h9, (Ob.ok_cons.2 ⟨h10, (Ob.ok_cons.2 ⟨h11, (Ob.ok_cons.2 ⟨h12, (Ob.ok_cons.2 ⟨h13, (Ob.ok_cons.2 ⟨h14, (Ob.ok_cons.2 ⟨h15, (Ob.ok_cons.2 ⟨h16, (Ob.ok_cons.2 ⟨h17, (Ob.ok_cons.2 ⟨h18, Ob.ok_nil⟩)⟩)⟩)⟩)⟩)⟩)⟩)⟩)⟩)⟩)⟩)⟩)⟩)⟩)⟩)⟩)⟩)⟩) hn (conz g0 (conz g3 (conz g4 (one g5))))).mono fun ex T' st' ⟨q1, q2, q3, q4⟩ => by simp only [List.cons.injEq, and_true] at q3; exact ⟨q1, ⟨q2, q3⟩, q4⟩
theorem f10_7_FFFF_e (v0 v3 v53 v54 v57a v68 v74 v75 : AV) (n4 n5 n38 n40 n41 n48 n50 n52 n57b n65 n67 n78 n79 : Int) (st s1 s2 s3 s4 : St) (w61 w69 : ByteArray) : ((evS Tryz.prog E0 noOv noS 100000 [2054, 2061, 2069, 2074, 2075, 6008, 7030, 7033, 7038, 7040, 7041, 7042, 7048, 7050, 7052, 7053, 7065, 7067, 7068, 7070, 7078, 7079, 8514] (f10P 7) ⟨81, [(0, v0), (3, v3), (4, (i64 n4)), (5, (i64 n5))], []⟩ st [.av FF, .av FF, .av (i64 n38), .av (i64 n40), .av (i64 n41), .av FF, .av (i64 n48), .av (i64 n50), .av (i64 n52), .av v53, .eff v54 (fun _ => s1), .eff (.tup [v57a, (i64 n57b)]) (fun _ => s2), .eff (str w61) id, .eff (i64 n65) id, .eff (i64 n67) id, .eff v68 id, .eff (str w69) id, .eff FF id, .eff v74 (fun _ => s3), .eff v75 (fun _ => s4), .av (i64 n78), .av (i64 n79)]).map fun q => (q.1, q.2.1.n, ([q.2.1.get 0, q.2.1.get 3, q.2.1.get 4] : List AV), q.2.2.1, q.2.2.2.2)) = some (.normal, 81, [v0, v75, (i64 n79)], s4, [binA E0 .lss 3 (i64 n5) (i64 1) = some FF, binA E0 .gtr 3 (i64 n5) (i64 4096) = some FF, lenA E0 22 v0 = some (i64 n38), binA E0 .sub 3 (i64 n38) (i64 n4) = some (i64 n40), binA E0 .sub 3 (i64 n40) (i64 8) = some (i64 n41), binA E0 .gtr 3 (i64 n5) (i64 n41) = some FF, binA E0 .add 3 (i64 n4) (i64 8) = some (i64 n48), binA E0 .add 3 (i64 n4) (i64 8) = some (i64 n50), binA E0 .add 3 (i64 n50) (i64 n5) = some (i64 n52), sliceA E0 st 22 v0 (some (i64 n48)) (some (i64 n52)) none = some v53, appendA E0 st 22 22 .nils v53 = some (v54, s1), obC 8 [v54] s1 (.tup [v57a, (i64 n57b)]) s2, bytesStrA E0 s2 22 9 v57a = some (str w61), binA E0 .add 3 (i64 n4) (i64 8) = some (i64 n65), binA E0 .add 3 (i64 n65) (i64 n5) = some (i64 n67), sliceA E0 s2 22 v0 (some (i64 n4)) (some (i64 n67)) none = some v68, bytesStrA E0 s2 22 9 v68 = some (str w69), binA E0 .neq 9 (str w61) (str w69) = some FF, buildSliceA E0 s2 32 1 [(0, v54)] = some (v74, s3), appendA E0 s3 32 32 v3 v74 = some (v75, s4), binA E0 .add 3 (i64 8) (i64 n5) = some (i64 n78), binA E0 .add 3 (i64 n4) (i64 n78) = some (i64 n79)]) := by kernel_rfl
theorem f10_7_FFFF {v0 v3 v53 v54 v57a v68 v74 v75 : AV} {n4 n5 n38 n40 n41 n48 n50 n52 n57b n65 n67 n78 n79 : Int} {st s1 s2 s3 s4 : St} {w61 w69 : ByteArray} (h1 : binA E0 .lss 3 (i64 n5) (i64 1) = some FF) (h2 : binA E0 .gtr 3 (i64 n5) (i64 4096) = some FF) (h3 : lenA E0 22 v0 = some (i64 n38)) (h4 : binA E0 .sub 3 (i64 n38) (i64 n4) = some (i64 n40)) (h5 : binA E0 .sub 3 (i64 n40) (i64 8) = some (i64 n41)) (h6 : binA E0 .gtr 3 (i64 n5) (i64 n41) = some FF) (h7 : binA E0 .add 3 (i64 n4) (i64 8) = some (i64 n48)) (h8 : binA E0 .add 3 (i64 n4) (i64 8) = some (i64 n50)) (h9 : binA E0 .add 3 (i64 n50) (i64 n5) = some (i64 n52)) (h10 : sliceA E0 st 22 v0 (some (i64 n48)) (some (i64 n52)) none = some v53) (h11 : appendA E0 st 22 22 .nils v53 = some (v54, s1)) (h12 : obC 8 [v54] s1 (.tup [v57a, (i64 n57b)]) s2) (h13 : bytesStrA E0 s2 22 9 v57a = some (str w61)) (h14 : binA E0 .add 3 (i64 n4) (i64 8) = some (i64 n65)) (h15 : binA E0 .add 3 (i64 n65) (i64 n5) = some (i64 n67)) (h16 : sliceA E0 s2 22 v0 (some (i64 n4)) (some (i64 n67)) none = some v68) (h17 : bytesStrA E0 s2 22 9 v68 = some (str w69)) (h18 : binA E0 .neq 9 (str w61) (str w69) = some FF) (h19 : buildSliceA E0 s2 32 1 [(0, v54)] = some (v74, s3)) (h20 : appendA E0 s3 32 32 v3 v74 = some (v75, s4)) (h21 : binA E0 .add 3 (i64 8) (i64 n5) = some (i64 n78)) (h22 : binA E0 .add 3 (i64 n4) (i64 n78) = some (i64 n79)) {T : Tm} (hT : f10L4 T v0 v3 (i64 n4) (i64 n5)) : AW Tryz.prog (f10P 7) (fun ex T' st' => ex = .normal ∧ f10L2 T' v0 v75 (i64 n79) ∧ st' = s4) T st := by
  obtain ⟨hn, g0, g3, g4, g5⟩ := hT
  exact (gen_run (G := fun T => ([T.get 0, T.get 3, T.get 4] : List AV)) hE (f10_7_FFFF_e v0 v3 v53 v54 v57a v68 v74 v75 n4 n5 n38 n40 n41 n48 n50 n52 n57b n65 n67 n78 n79 st s1 s2 s3 s4 w61 w69) (Ob.ok_cons.2 ⟨h1, (Ob.ok_cons.2 ⟨h2, (Ob.ok_cons.2 ⟨h3, (Ob.ok_cons.2 ⟨h4, (Ob.ok_cons.2 ⟨h5, (Ob.ok_cons.2 ⟨h6, (Ob.ok_cons.2 ⟨h7, (Ob.ok_cons.2 ⟨h8, (Ob.ok_cons.2 ⟨h9, (Ob.ok_cons.2 ⟨h10, (Ob.ok_cons.2 ⟨h11, (Ob.ok_cons.2 ⟨h12, (Ob.ok_cons.2 ⟨h13, (Ob.ok_cons.2 ⟨h14, (Ob.ok_cons.2 ⟨h15, (Ob.ok_cons.2 ⟨h16, (Ob.ok_cons.2 ⟨h17, (Ob.ok_cons.2 ⟨h18, (Ob.ok_cons.2 ⟨h19, (Ob.ok_cons.2 ⟨h20, (Ob.ok_cons.2 ⟨h21, (Ob.ok_cons.2 ⟨h22, Ob.ok_nil⟩)⟩)⟩)⟩)⟩)⟩)⟩)⟩)⟩)⟩)⟩)⟩)⟩)⟩)⟩)⟩)⟩)⟩)⟩)⟩)⟩)⟩) hn (conz g0 (conz g3 (conz g4 (one g5))))).mono fun ex T' st' ⟨q1, q2, q3, q4⟩ => by simp only [List.cons.injEq, and_true] at q3; exact ⟨q1, ⟨q2, q3⟩, q4⟩
theorem f10_8_e (v3 : AV) (st : St) : ((evS Tryz.prog E0 noOv noS 100000 [] (f10P 8) ⟨81, [(3, v3)], []⟩ st []).map fun q => (q.1, q.2.1.n, ([q.2.1.get 2] : List AV), q.2.2.1, q.2.2.2.2)) = some (.ret, 81, [v3], st, []) := by kernel_rfl
theorem f10_8 {v3 : AV} {st : St}  {T : Tm} (hT : f10L3 T v3) : AW Tryz.prog (f10P 8) (fun ex T' st' => ex = .ret ∧ f10L6 T' v3 ∧ st' = st) T st := by
  obtain ⟨hn, g3⟩ := hT
  exact (gen_run (G := fun T => ([T.get 2] : List AV)) hE (f10_8_e v3 st) Ob.ok_nil hn (one g3)).mono fun ex T' st' ⟨q1, q2, q3, q4⟩ => by simp only [List.cons.injEq, and_true] at q3; exact ⟨q1, ⟨q2, q3⟩, q4⟩
end
section
set_option maxRecDepth 8000
/-! ### names of segments, at a free number -/
def zerosB (c : Nat) : List UInt8 := List.replicate c 48
theorem rep_all : ∀ c : Fin 8, cloEv 39 [str ⟨#[48]⟩, i64 (c.val : Nat)] = some (str ⟨(zerosB c.val).toArray⟩, [], [])
  | 0 => by kernel_rfl
  | 1 => by kernel_rfl
  | 2 => by kernel_rfl
  | 3 => by kernel_rfl
  | 4 => by kernel_rfl
  | 5 => by kernel_rfl
  | 6 => by kernel_rfl
  | 7 => by kernel_rfl
theorem rep_ok {c : Nat} (h : c < 8) {st : St} (hw : st.wf) : ∃ st', obC 39 [str ⟨#[48]⟩, i64 c] st (str ⟨(zerosB c).toArray⟩) st' ∧ Rest st st' [] :=
  closed_val (rep_all ⟨c, h⟩) (fun _ => rfl) (fun _ => rfl) hw
/-- eight digits -/
def dig8 (n : Nat) : List UInt8 := (List.range 8).map fun t => Lib.dg n (7 - t)
def nmL (n : Nat) : List UInt8 := [119, 97, 108, 45] ++ dig8 n
def nmG (n : Nat) : ByteArray := ⟨(nmL n).toArray⟩
theorem nDigits8 {n : Nat} (h : n < 100000000) : Lib.nDigits n ≤ 8 := by
  by_cases h8 : Lib.nDigits n ≤ 8
  · exact h8
  · exfalso
    have hp : ∀ k u : Nat, k + 1 ≤ Lib.nDigits u → 1 ≤ k → 10 ^ k ≤ u := fun k => by
      induction k with
      | zero => intro u _ h; omega
      | succ k ih =>
        intro u hu _
        have h10 : ¬ u < 10 := fun h' => by rw [Lib.nDigits_small h'] at hu; omega
        rw [Lib.nDigits_big h10] at hu
        by_cases hk : 1 ≤ k
        · have := ih (u / 10) (by omega) hk
          rw [Nat.pow_succ]; omega
        · obtain rfl : k = 0 := by omega
          omega
    have := hp 8 n (by omega) (by omega)
    omega
theorem dg_zero {n j : Nat} (h : n < 10 ^ j) : Lib.dg n j = 48 := by
  unfold Lib.dg
  rw [Nat.div_eq_of_lt h]
  rfl
theorem pad_digits {n : Nat} (h : n < 100000000) : zerosB (8 - (Lib.decDigits n).length) ++ Lib.decDigits n = dig8 n := by
  have h8 := nDigits8 h
  have hp := Lib.nDigits_pos n
  rw [Lib.decDigits_length]
  apply List.ext_getElem?
  intro i
  unfold zerosB dig8
  by_cases hi : i < 8
  · rw [List.getElem?_map, List.getElem?_range hi]
    by_cases h1 : i < 8 - Lib.nDigits n
    · rw [List.getElem?_append_left (by simpa using h1), List.getElem?_replicate, if_pos h1]
      simp only [Option.map_some]
      rw [dg_zero (Nat.lt_of_lt_of_le (Lib.lt_pow_nDigits n) (Nat.pow_le_pow_right (by decide) (by omega)))]
    · rw [List.getElem?_append_right (by simpa using Nat.le_of_not_lt h1), List.length_replicate, Lib.decDigits_eq, List.getElem?_map, List.getElem?_range (by omega)]
      simp only [Option.map_some]
      congr 2
      omega
  · rw [List.getElem?_eq_none (by simp [Lib.decDigits_length]; omega), List.getElem?_eq_none (by simp; omega)]
theorem addS {a b : ByteArray} {E : Env} {t : Nat} (h : a.size + b.size ≤ 1000000000) : binA E .add t (str a) (str b) = some (str (a ++ b)) := by
  show pureVal (Op.stringOp .add a b) = _
  have hm : IntKind.i64.max = 9223372036854775807 := rfl
  unfold Op.stringOp
  simp only []
  rw [if_neg (by rw [hm]; omega)]
  rfl
theorem lenStr (s : ByteArray) : lenA E0 9 (str s) = some (i64 s.size) := by kernel_rfl
theorem ba_app (a b : List UInt8) : (⟨a.toArray⟩ : ByteArray) ++ ⟨b.toArray⟩ = ⟨(a ++ b).toArray⟩ := by
  apply ByteArray.ext
  rw [ByteArray.data_append]
  simp
theorem itoa_nat (n : Nat) : Lib.itoa (n : Int) = Lib.decDigits n := by unfold Lib.itoa; rw [if_neg (by omega)]; simp
/-- the program's Name, whatever the number -/
theorem nameP_ok {st : St} (hw : st.wf) (hgl : st.gl = (stTab tabsD).gl) {n : Nat} (h1 : 1 ≤ n) (h2 : n ≤ 99999999) : ∃ st', obC 5 [i64 n] st (.tup [str (nmG n), i64 0]) st' ∧ Rest st st' [] := by
  have hit := itoa_ok (st := st) hgl (n := n) (by omega) (by omega)
  rw [itoa_nat] at hit
  have hlen : (Lib.decDigits n).length ≤ 8 := by rw [Lib.decDigits_length]; exact nDigits8 (by omega)
  have hpos : 1 ≤ (Lib.decDigits n).length := by rw [Lib.decDigits_length]; exact Lib.nDigits_pos n
  obtain ⟨st', r1, r2⟩ := rep_ok (c := 8 - (Lib.decDigits n).length) (by omega) hw
  have hl : lenA E0 9 (str ⟨(Lib.decDigits n).toArray⟩) = some (i64 (Lib.decDigits n).length) := by
    rw [lenStr]
    show some (i64 ((Lib.decDigits n).toArray.size : Nat)) = _
    rw [List.size_toArray]
  have hs : binA E0 .sub 3 (i64 8) (i64 (Lib.decDigits n).length) = some (i64 ((8 - (Lib.decDigits n).length : Nat) : Int)) := by
    rw [show ((8 - (Lib.decDigits n).length : Nat) : Int) = 8 - ((Lib.decDigits n).length : Int) by omega]
    exact sub64 (by omega)
  refine ⟨st', ?_, r2⟩
  have z1 : ∀ l : List UInt8, (⟨l.toArray⟩ : ByteArray).size = l.length := fun l => by show l.toArray.size = _; rw [List.size_toArray]
  have z2 : (zerosB (8 - (Lib.decDigits n).length)).length ≤ 8 := by unfold zerosB; rw [List.length_replicate]; omega
  have z3 : (⟨#[119, 97, 108, 45]⟩ : ByteArray).size = 4 := rfl
  have := f5_FF (lssF (by omega)) (gtrF (by omega)) hit hl hs r1 (addS (by rw [z3, z1]; omega)) (addS (by rw [ByteArray.size_append, z3, z1, z1]; omega))
  have e : (⟨#[119, 97, 108, 45]⟩ : ByteArray) ++ ⟨(zerosB (8 - (Lib.decDigits n).length)).toArray⟩ ++ ⟨(Lib.decDigits n).toArray⟩ = nmG n := by
    have e1 : (⟨#[119, 97, 108, 45]⟩ : ByteArray) = ⟨([119, 97, 108, 45] : List UInt8).toArray⟩ := rfl
    rw [e1, ba_app, ba_app, List.append_assoc, pad_digits (by omega)]
    rfl
  rw [e] at this
  exact this
theorem nameP_bad {st : St} {n : Int} (h : n < 1 ∨ 99999999 < n) : obC 5 [i64 n] st (.tup [str ⟨#[]⟩, i64 1]) st := by
  by_cases h1 : n < 1
  · exact f5_T (lssT h1)
  · exact f5_FT (lssF h1) (gtrT (by omega))
/-! ### the document's Name -/
def rowK (n k : Nat) : List Int := List.replicate (8 - k) 0 ++ (List.range k).map fun t => ((Lib.dg n (k - 1 - t)).toNat : Int)
theorem rowK_len (n : Nat) {k : Nat} (h : k ≤ 8) : (rowK n k).length = 8 := by unfold rowK; simp; omega
theorem rowK_succ (n : Nat) {k : Nat} (h : k < 8) : (rowK n k).set (7 - k) ((Lib.dg n k).toNat : Int) = rowK n (k + 1) := by
  unfold rowK
  rw [show 8 - k = (7 - k) + 1 by omega, List.replicate_succ']
  have hlr : (List.replicate (7 - k) (0 : Int)).length = 7 - k := List.length_replicate ..
  rw [List.append_assoc, List.set_append_right _ _ (by rw [hlr]; exact Nat.le_refl _), hlr, Nat.sub_self, show 8 - (k + 1) = 7 - k by omega]
  congr 1
  simp only [List.cons_append, List.nil_append, List.set_cons_zero]
  rw [List.range_succ_eq_map, List.map_cons]
  congr 1
  rw [List.map_map]
  refine List.map_congr_left fun t _ => ?_
  simp only [Function.comp, Nat.succ_eq_add_one]
  congr 3
  omega
theorem make8 (st : St) : makeSliceA E0 st 22 (i64 8) (i64 8) = some (.sl st.next 1 0 8 true, st.push (.row ((List.replicate 8 (0 : Int)).map u8) 5)) := by kernel_rfl
theorem rem10 (x : Nat) : binA E0 .rem 3 (i64 x) (i64 10) = some (i64 ((x % 10 : Nat) : Int)) := by
  have e : binOp .rem 3 (.int .i64 x) (.int .i64 10) = .pure (.int .i64 ((x % 10 : Nat) : Int)) := by
    show Op.intDiv .rem .i64 x 10 = _
    unfold Op.intDiv
    rw [if_neg (by omega)]
    have : ((x : Int)).tmod 10 = ((x % 10 : Nat) : Int) := by rw [Int.tmod_eq_emod_of_nonneg (by omega)]; omega
    simp only [this]
    rfl
  show pureVal (binOp .rem 3 (.int .i64 x) (.int .i64 10)) = _
  rw [e]; rfl
theorem quo10 (x : Nat) (h : x ≤ 1000000000) : binA E0 .quo 3 (i64 x) (i64 10) = some (i64 ((x / 10 : Nat) : Int)) := by
  have e : binOp .quo 3 (.int .i64 x) (.int .i64 10) = .pure (.int .i64 ((x / 10 : Nat) : Int)) := by
    show Op.intDiv .quo .i64 x 10 = _
    unfold Op.intDiv
    rw [if_neg (by omega)]
    have : ((x : Int)).tdiv 10 = ((x / 10 : Nat) : Int) := by rw [Int.tdiv_eq_ediv_of_nonneg (by omega)]; omega
    simp only [this]
    rw [IntWalk.i64_in _ (by omega)]
    rfl
  show pureVal (binOp .quo 3 (.int .i64 x) (.int .i64 10)) = _
  rw [e]; rfl
theorem conv35 (st : St) (k : Int) : convO E0 st 3 5 (i64 k) = some (u8 (IntKind.u8.wrap k), st) := by kernel_rfl
theorem store_u8 {st : St} {o k : Nat} {l : List Int} (hg : st.get o = some (.row (l.map u8) 5)) (hl : st.lock = []) (hk : k < l.length) (x : Int) : storeA E0 st 5 (.ptr o k) (u8 x) = some (st.set o (.row ((l.set k x).map u8) 5)) := by
  have hwg := St.wget_of hg (show o ∉ st.lock by rw [hl]; simp)
  have hsz : tySize E0 5 = some 1 := by kernel_rfl
  have hcs : avCells (u8 x) = some [u8 x] := rfl
  simp only [storeA, hcs, hwg, hsz]
  rw [if_pos ⟨rfl, by simp; omega⟩]
  congr 2
  simp only [List.length_cons, List.length_nil, Nat.zero_add, List.map_set]
  rw [List.set_eq_take_append_cons_drop, if_pos (by simp; omega)]
  simp
theorem slB : SlT 22 5 1 := ⟨⟨_, rfl, by kernel_rfl⟩, by kernel_rfl⟩
theorem idx22 {f len i : Nat} {fl : Bool} (h : i < len) : indexAddrA E0 22 (.sl f 1 0 len fl) (i64 i) = some (.ptr f i) := by
  have := idxS slB (f := f) (off := 0) (len := len) (fl := fl) h
  rw [Nat.zero_add, Nat.mul_one] at this
  exact this
end
section
set_option maxRecDepth 4000
/-! ### bytes.Equal; lists of records -/
theorem numsA_u8 : ∀ bs : List Int, numsA (bs.map u8) = some bs
  | [] => rfl
  | b :: r => by simp only [List.map_cons, numsA, numsA_u8 r, Option.map_some]
theorem conv_bytes {st : St} {v : AV} {bs : List Int} (h : sliceCells st v = some (bs.length, bs.map u8)) : convO E0 st 22 9 v = some (str (strOfNums bs), st) := by
  have hb : bytesStrA E0 st 22 9 v = some (str (strOfNums bs)) := by
    obtain ⟨i, j, k, h1, h2, h3, h4, h5, h6⟩ : ∃ i j k, E0.ty 22 = some i ∧ E0.ty 9 = some j ∧ E0.ty 5 = some k ∧ i.desc = .slice 5 ∧ j.desc = .string ∧ k.desc = .int .u8 := ⟨_, _, _, rfl, rfl, rfl, by kernel_rfl, by kernel_rfl, by kernel_rfl⟩
    simp only [bytesStrA, h, h1, h2, h4, h5, h3, h6, numsA_u8, if_true]
  have hc : convA E0 st 22 9 v = some (str (strOfNums bs), st) := by unfold convA; rw [hb]
  unfold convO
  cases v <;> first | exact hc | (exfalso; revert h; simp [sliceCells])
theorem cells_recA (st : St) (r : List Int) : sliceCells st (recA r) = some (r.length, r.map u8) := rfl
theorem cells_recW (st : St) (r : List Int) : sliceCells st (recW r) = some (r.length, r.map u8) := rfl
theorem equal_ok {st : St} {v w : AV} {bs : List Int} (h1 : sliceCells st v = some (bs.length, bs.map u8)) (h2 : sliceCells st w = some (bs.length, bs.map u8)) : obC 11 [v, w] st TT st :=
  f11_T (conv_bytes h1) (conv_bytes h2) (eqST rfl)
theorem Rest.fresh {st s1 s2 : St} (h : Rest st s1 []) {S : List Nat} (h2 : Rest s1 s2 S) (hS : ∀ i ∈ S, st.next ≤ i) (hw : st.wf) : Rest st s2 [] :=
  ⟨fun i o hi ho => h2.keep i o (fun hm => by have := hS i hm; have := hw _ _ ho; omega) (h.keep i o hi ho), Nat.le_trans h.next h2.next, h2.lock.trans h.lock, h2.gl.trans h.gl, h2.wf⟩
theorem Rest.hid {st : St} (hw : st.wf) (I : List Nat) : Rest st ((st.hide I).show st I) [] := by
  have hg : ∀ i, ((st.hide I).show st I).get i = st.get i := fun i => by
    rw [St.show_get]; split
    · rfl
    · rfl
  exact ⟨fun i o _ ho => by rw [hg]; exact ho, by rw [St.show_next]; exact Nat.le_refl _, rfl, by rw [St.show_gl]; rfl, fun i o hi => by rw [hg] at hi; rw [St.show_next]; exact hw _ _ hi⟩
def rcC (p : Nat × List Int) : List AV := recC p.1 p.2
def rcs (B : Nat → List Int) (K : List Nat) : List (Nat × List Int) := K.flatMap fun k => (recs B k).map fun r => (k, r)
theorem cellsK_rcs (B : Nat → List Int) : ∀ K : List Nat, cellsK B K = (rcs B K).flatMap rcC
  | [] => rfl
  | k :: K => by
    have h := cellsK_rcs B K
    unfold cellsK rcs at *
    rw [List.flatMap_cons, List.flatMap_cons, List.flatMap_append, h]
    congr 1
    rw [List.flatMap_map]
    rfl
theorem numK_rcs (B : Nat → List Int) : ∀ K : List Nat, numK B K = (rcs B K).length
  | [] => rfl
  | k :: K => by
    have h := numK_rcs B K
    unfold numK rcs at *
    rw [List.flatMap_cons, List.map_cons, List.sum_cons, h, List.length_append, List.length_map]
theorem rcs_filter (B : Nat → List Int) (p : Nat → Bool) : ∀ K : List Nat, rcs B (K.filter p) = (rcs B K).filter fun q => p q.1
  | [] => rfl
  | k :: K => by
    have h := rcs_filter B p K
    unfold rcs at *
    rw [List.flatMap_cons, List.filter_append, ← h]
    by_cases hk : p k = true
    · rw [List.filter_cons_of_pos hk, List.flatMap_cons]
      have e : ((recs B k).map fun r => (k, r)).filter (fun q => p q.1) = (recs B k).map fun r => (k, r) := List.filter_eq_self.2 fun q hq => by
        obtain ⟨r, _, rfl⟩ := List.mem_map.1 hq
        exact hk
      rw [e]
    · rw [List.filter_cons_of_neg hk]
      have e : ((recs B k).map fun r => (k, r)).filter (fun q => p q.1) = [] := List.filter_eq_nil_iff.2 fun q hq => by
        obtain ⟨r, _, rfl⟩ := List.mem_map.1 hq
        exact hk
      rw [e, List.nil_append]
theorem rcC_at : ∀ (R : List (Nat × List Int)) (i k : Nat) (r : List Int), R[i]? = some (k, r) → (R.flatMap rcC)[i * 2]? = some (i64 k) ∧ (R.flatMap rcC)[i * 2 + 1]? = some (recA r)
  | [], i, k, r, h => by simp at h
  | q :: R, 0, k, r, h => by
    simp only [List.getElem?_cons_zero, Option.some.injEq] at h; subst h
    exact ⟨rfl, rfl⟩
  | q :: R, i + 1, k, r, h => by
    have := rcC_at R i k r (by simpa using h)
    rw [List.flatMap_cons, show (i + 1) * 2 = i * 2 + 2 by omega, show i * 2 + 2 + 1 = (i * 2 + 1) + 2 by omega]
    exact this
theorem rcC_len (R : List (Nat × List Int)) : (R.flatMap rcC).length = R.length * 2 := by
  induction R with
  | nil => rfl
  | cons q R ih => rw [List.flatMap_cons, List.length_append, ih, List.length_cons]; show 2 + _ = _; omega
theorem p39 {vs : List AV} {off : Nat} {a b : AV} (h1 : vs[off]? = some a) (h2 : vs[off + 1]? = some b) : partA E0 95 vs off = some (.agg [a, b]) := by
  obtain ⟨i, e1, e2, e3⟩ : ∃ i, E0.ty 95 = some i ∧ isAggD i.desc = true ∧ i.size = 2 := ⟨_, rfl, by kernel_rfl, by kernel_rfl⟩
  have hl : off + 1 < vs.length := by
    by_cases h : off + 1 < vs.length
    · exact h
    · rw [List.getElem?_eq_none (by omega)] at h2; cases h2
  have e : (vs.drop off).take 2 = [a, b] := by
    rw [List.getElem?_eq_getElem (by omega)] at h1 h2
    simp only [Option.some.injEq] at h1 h2
    rw [List.drop_eq_getElem_cons (by omega), List.drop_eq_getElem_cons (i := off + 1) (by omega), h1, h2]
    rfl
  simp only [partA, e1, e2, e3, e, if_true]
  rw [if_pos (by omega)]
theorem p33 {vs : List AV} {off : Nat} {a : AV} (h : vs[off]? = some a) : partA E0 22 vs off = some a := by
  have : (E0.ty 22).map (fun i => isAggD i.desc) = some false := by kernel_rfl
  obtain ⟨i, h1, h2⟩ := Option.map_eq_some_iff.1 this
  exact plainT h1 h2 h
theorem alloc39 (st : St) : allocA E0 st 95 = some (.ptr st.next 0, st.push (.row [i64 0, .nils] 95)) := by kernel_rfl
theorem store39 {st : St} {a : Nat} {x y u v : AV} {ty : Nat} (hg : st.get a = some (.row [x, y] ty)) (hl : st.lock = []) : storeA E0 st 95 (.ptr a 0) (.agg [u, v]) = some (st.set a (.row [u, v] ty)) := by
  have hwg := St.wget_of hg (show a ∉ st.lock by rw [hl]; simp)
  have hs : tySize E0 95 = some 2 := by kernel_rfl
  have hc : avCells (.agg [u, v]) = some [u, v] := rfl
  simp only [storeA, hc, hwg, hs]
  rfl
/-- a copy of a record of a list -/
theorem copy_rec {st : St} (hw : st.wf) (hl : st.lock = []) (u v : AV) : ∃ s1 s2, allocA E0 st 95 = some (.ptr st.next 0, s1) ∧ storeA E0 s1 95 (.ptr st.next 0) (.agg [u, v]) = some s2 ∧ s2.get st.next = some (.row [u, v] 95) ∧ Rest st s2 [] := by
  have h1 : Rest st (st.push (.row [i64 0, .nils] 95)) [] := Rest.push hw _ _
  have hg : (st.push (.row [i64 0, .nils] 95)).get st.next = some (.row [i64 0, .nils] 95) := by rw [St.get_push, if_pos rfl]
  refine ⟨_, _, alloc39 st, store39 hg (h1.lock.trans hl), by rw [St.get_set, if_pos rfl], ?_⟩
  exact h1.fresh (Rest.set (S := [st.next]) h1.wf (h1.wf _ _ hg) _ (by simp)) (by simp) hw
end
section
set_option maxRecDepth 8000
theorem dg_int (n i : Nat) : ((Lib.dg n i).toNat : Int) = 48 + ((n / 10 ^ i % 10 : Nat) : Int) := by
  unfold Lib.dg
  have : (UInt8.ofNat (48 + n / 10 ^ i % 10)).toNat = 48 + n / 10 ^ i % 10 := by
    show (48 + n / 10 ^ i % 10) % 256 = _
    omega
  rw [this]; omega
theorem strOf_u8 (l : List UInt8) : strOfNums (l.map fun b => (b.toNat : Int)) = ⟨l.toArray⟩ := by
  have hb : ∀ b : UInt8, UInt8.ofNat ((b.toNat : Int).toNat) = b := fun b => by rw [Int.toNat_natCast]; exact UInt8.ofNat_toNat
  have hl : ∀ l : List UInt8, (l.map fun b => (b.toNat : Int)).map (fun n => UInt8.ofNat n.toNat) = l := fun l => by
    induction l with
    | nil => rfl
    | cons a l ih => rw [List.map_cons, List.map_cons, ih, hb]
  unfold strOfNums
  apply ByteArray.ext
  show ((l.map fun b => (b.toNat : Int)).map (fun n => UInt8.ofNat n.toNat)).toArray = l.toArray
  rw [hl]
theorem rowK8 (n : Nat) : rowK n 8 = (dig8 n).map fun b => (b.toNat : Int) := by
  unfold rowK dig8
  rw [List.map_map]
  rfl
/-- the document's Name -/
theorem nameR_ok {st : St} (hw : st.wf) (hl : st.lock = []) {n : Nat} (h1 : 1 ≤ n) (h2 : n ≤ 99999999) : ∃ st', obC 6 [i64 n] st (.tup [str (nmG n), i64 0]) st' ∧ Rest st st' [] := by
  have R0 : Rest st (st.push (.row ((List.replicate 8 (0 : Int)).map u8) 5)) [] := Rest.push hw _ _
  let Inv : Nat → St → Prop := fun i σ => σ.get st.next = some (.row ((rowK n i).map u8) 5) ∧ Rest st σ []
  obtain ⟨c, c0, inv, step⟩ := chain_seq Inv (fun i σ σ' => ∀ T, f6L3 T (i64 ((n / 10 ^ i : Nat) : Int)) (.sl st.next 1 0 8 true) (i64 (7 - (i : Nat) : Int)) → AW Tryz.prog (f6P 4) (fun ex T' z => ex = .normal ∧ f6L3 T' (i64 ((n / 10 ^ (i + 1) : Nat) : Int)) (.sl st.next 1 0 8 true) (i64 (7 - ((i + 1 : Nat) : Int))) ∧ z = σ') T σ) 8 _ ⟨by rw [St.get_push, if_pos rfl]; rfl, R0⟩ (fun i σ hi ⟨hg, hR⟩ => by
    have hnn : n / 10 ^ i ≤ 1000000000 := Nat.le_trans (Nat.div_le_self _ _) (by omega)
    have hst := store_u8 (k := 7 - i) hg (hR.lock.trans hl) (by rw [rowK_len n (by omega)]; omega) ((Lib.dg n i).toNat : Int)
    rw [rowK_succ n hi] at hst
    refine ⟨_, ⟨by rw [St.get_set, if_pos rfl], hR.fresh (Rest.set (S := [st.next]) hR.wf (hR.wf _ _ hg) _ (by simp)) (by simp) hw⟩, fun T hT => ?_⟩
    have hq : n / 10 ^ (i + 1) = n / 10 ^ i / 10 := by rw [Nat.pow_succ, Nat.div_div_eq_div_mul]
    rw [hq, show (7 - ((i + 1 : Nat) : Int)) = (7 - (i : Int)) - 1 by omega]
    have hidx : indexAddrA E0 22 (.sl st.next 1 0 8 true) (i64 (7 - (i : Nat) : Int)) = some (.ptr st.next (7 - i)) := by
      rw [show (7 - (i : Nat) : Int) = ((7 - i : Nat) : Int) by omega]
      exact idx22 (by omega)
    have hadd : binA E0 .add 3 (i64 48) (i64 ((n / 10 ^ i % 10 : Nat) : Int)) = some (i64 ((Lib.dg n i).toNat : Int)) := by rw [dg_int]; exact add64 (by omega)
    have hcv : convO E0 σ 3 5 (i64 ((Lib.dg n i).toNat : Int)) = some (u8 ((Lib.dg n i).toNat : Int), σ) := by
      rw [conv35, IntWalk.u8_in _ (by rw [dg_int]; omega)]
    exact f6_4_T (geqT (by omega)) (rem10 _) hadd hcv hidx hst (quo10 _ hnn) (sub64 (by omega)) hT)
  obtain ⟨g8, R8⟩ := inv 8 (Nat.le_refl _)
  have hcells : sliceCells (c 8) (.sl st.next 1 0 8 true) = some ((rowK n 8).length, (rowK n 8).map u8) := by
    simp only [sliceCells, g8]
    rw [if_pos (by rw [List.length_map, rowK_len n (by omega)]; omega), rowK_len n (by omega), List.drop_zero, List.take_of_length_le (by rw [List.length_map, rowK_len n (by omega)]; omega)]
  have hcv := conv_bytes hcells
  rw [rowK8, strOf_u8] at hcv
  have e : (⟨#[119, 97, 108, 45]⟩ : ByteArray) ++ ⟨(dig8 n).toArray⟩ = nmG n := by
    have e1 : (⟨#[119, 97, 108, 45]⟩ : ByteArray) = ⟨([119, 97, 108, 45] : List UInt8).toArray⟩ := rfl
    rw [e1, ba_app]; rfl
  refine ⟨c 8, ?_, R8⟩
  refine ACalls.body (E := E0) hE Tryz.func6 f6body ?_
  refine AW.andThen (f6_0 ⟨rfl, rfl⟩) fun T1 q1 => ?_
  refine AW.andThen (f6_1_FF (lssF (by omega)) (gtrF (by omega)) q1) fun T2 q2 => ?_
  refine AW.andThen (f6_2 (make8 st) q2) fun T3 q3 => ?_
  refine AW.andThen (AW.andThen (f6_3 q3) fun T4 q4 => AW.turns (In := fun i T => f6L3 T (i64 ((n / 10 ^ i : Nat) : Int)) (.sl st.next 1 0 8 true) (i64 (7 - (i : Nat) : Int))) (L := fun T => f6L4 T (.sl st.next 1 0 8 true)) (c := c) (n := 8) (sf := c 8) (by rw [c0]) (by simpa using q4) (fun i hi T hT => step i hi T hT) (fun T hT => f6_4_F (geqF (by omega)) hT)) fun T5 q5 => ?_
  have z1 : (⟨(dig8 n).toArray⟩ : ByteArray).size = 8 := by show (dig8 n).toArray.size = _; rw [List.size_toArray]; simp [dig8]
  have z3 : (⟨#[119, 97, 108, 45]⟩ : ByteArray).size = 4 := rfl
  refine AW.atRet (f6_5 hcv (addS (by rw [z1, z3]; omega)) q5) fun T6 q6 => ?_
  refine ⟨[T6.get 2, T6.get 3], rfl, ?_⟩
  simp only [oneOrTup]
  rw [q6.2.1, q6.2.2, e]
  exact ⟨rfl, trivial⟩
theorem nameR_bad {st : St} {n : Int} (h : n < 1 ∨ 99999999 < n) : obC 6 [i64 n] st (.tup [str ⟨#[]⟩, i64 1]) st := by
  refine ACalls.body (E := E0) hE Tryz.func6 f6body ?_
  refine AW.andThen (f6_0 ⟨rfl, rfl⟩) fun T1 q1 => ?_
  by_cases h1 : n < 1
  · refine AW.retThen (f6_1_T (lssT h1) q1) fun T6 q6 => ?_
    refine ⟨[T6.get 2, T6.get 3], rfl, ?_⟩
    simp only [oneOrTup]
    rw [q6.2.1, q6.2.2]
    exact ⟨rfl, trivial⟩
  · refine AW.retThen (f6_1_FT (lssF h1) (gtrT (by omega)) q1) fun T6 q6 => ?_
    refine ⟨[T6.get 2, T6.get 3], rfl, ?_⟩
    simp only [oneOrTup]
    rw [q6.2.1, q6.2.2]
    exact ⟨rfl, trivial⟩
end
section
set_option maxRecDepth 4000
/-! ### two ways to a CRC agree (bits, the lowest of a byte first) -/
def crcG (n : BitVec 32) : BitVec 32 := (n >>> 1) ^^^ (bif n.getLsbD 0 then 0xedb88320#32 else 0#32)
def topB (b : Bool) : BitVec 32 := bif b then 0x80000000#32 else 0#32
def lowB (b : Bool) : BitVec 32 := bif b then 1#32 else 0#32
theorem crcG_xor (a b : BitVec 32) : crcG (a ^^^ b) = crcG a ^^^ crcG b := by
  unfold crcG
  rw [BitVec.ushiftRight_xor_distrib, BitVec.getLsbD_xor]
  have lc : ∀ x y z : BitVec 32, x ^^^ (y ^^^ z) = y ^^^ (x ^^^ z) := fun x y z => by rw [← BitVec.xor_assoc, BitVec.xor_comm x y, BitVec.xor_assoc]
  cases a.getLsbD 0 <;> cases b.getLsbD 0
  · simp
  · simp [BitVec.xor_assoc]
  · simp only [Bool.bne_false, cond_true, cond_false, BitVec.xor_zero]
    rw [BitVec.xor_assoc, BitVec.xor_assoc, BitVec.xor_comm (b >>> 1)]
  · simp only [bne_self_eq_false, cond_true, cond_false, BitVec.xor_zero]
    rw [BitVec.xor_assoc, lc (0xedb88320#32), BitVec.xor_self, BitVec.xor_zero]
theorem crcG_even {a : BitVec 32} (h : a.getLsbD 0 = false) : crcG a = a >>> 1 := by
  unfold crcG; rw [h]; simp
theorem topB_get (b : Bool) (j : Nat) (h : j < 32) : (topB b).getLsbD j = (b && decide (j = 31)) := by
  cases b
  · simp [topB]
  · simp only [topB, cond_true, Bool.true_and]
    have : ∀ j : Fin 32, (0x80000000#32).getLsbD j.val = decide (j.val = 31) := by decide
    exact this ⟨j, h⟩
theorem lowB_get (b : Bool) (j : Nat) (h : j < 32) : (lowB b).getLsbD j = (b && decide (j = 0)) := by
  cases b
  · simp [lowB]
  · simp only [lowB, cond_true, Bool.true_and]
    have : ∀ j : Fin 32, (1#32).getLsbD j.val = decide (j.val = 0) := by decide
    exact this ⟨j, h⟩
/-- the next 32 bits of a stream, the next one lowest -/
def shiftIn (f : Nat → Bool) : Nat → BitVec 32
  | 0 => 0#32
  | i + 1 => (shiftIn f i >>> 1) ^^^ topB (f i)
theorem shiftIn_get (f : Nat → Bool) : ∀ i, i ≤ 32 → ∀ j, j < 32 → (shiftIn f i).getLsbD j = (decide (32 - i ≤ j) && f (j - (32 - i)))
  | 0, _, j, hj => by simp [shiftIn]; omega
  | i + 1, hi, j, hj => by
    have ih := shiftIn_get f i (by omega)
    simp only [shiftIn]
    rw [BitVec.getLsbD_xor, BitVec.getLsbD_ushiftRight, topB_get _ _ hj]
    by_cases h : j = 31
    · subst h
      rw [BitVec.getLsbD_of_ge _ _ (by omega), show 31 - (32 - (i + 1)) = i by omega]
      simp
    · rw [ih (1 + j) (by omega), show 1 + j - (32 - i) = j - (32 - (i + 1)) by omega]
      have : (32 - i ≤ 1 + j) ↔ (32 - (i + 1) ≤ j) := by omega
      simp [h, this]
def wordAt (s : Nat → Bool) (k : Nat) : BitVec 32 := shiftIn (fun j => s (k + j)) 32
theorem wordAt_get (s : Nat → Bool) (k j : Nat) (h : j < 32) : (wordAt s k).getLsbD j = s (k + j) := by
  unfold wordAt
  rw [shiftIn_get _ 32 (by omega) j h]
  simp
theorem word_next (s : Nat → Bool) (k : Nat) : ((wordAt s k ^^^ lowB (s k)) >>> 1) ^^^ topB (s (k + 32)) = wordAt s (k + 1) := by
  apply BitVec.eq_of_getLsbD_eq
  intro j hj
  rw [BitVec.getLsbD_xor, BitVec.getLsbD_ushiftRight, BitVec.getLsbD_xor, topB_get _ _ hj, wordAt_get _ _ _ hj]
  by_cases h : j = 31
  · subst h
    have e1 : (wordAt s k).getLsbD (1 + 31) = false := BitVec.getLsbD_of_ge _ _ (by omega)
    have e2 : (lowB (s k)).getLsbD (1 + 31) = false := BitVec.getLsbD_of_ge _ _ (by omega)
    rw [e1, e2, show k + 1 + 31 = k + 32 by omega]
    simp
  · rw [wordAt_get _ _ _ (by omega), lowB_get _ _ (by omega), show k + (1 + j) = k + 1 + j by omega]
    have : ¬ (1 + j = 0) := by omega
    simp [h]
theorem word_even (s : Nat → Bool) (k : Nat) : (wordAt s k ^^^ lowB (s k)).getLsbD 0 = false := by
  rw [BitVec.getLsbD_xor, wordAt_get _ _ _ (by omega), lowB_get _ _ (by omega)]
  simp
/-- the program's register behind k bits -/
def regN (s : Nat → Bool) (n0 : BitVec 32) : Nat → BitVec 32
  | 0 => n0
  | k + 1 => crcG (regN s n0 k ^^^ lowB (s k))
/-- the document's, turned round: bits come in at the top -/
def regQ (c : Nat → Bool) : Nat → BitVec 32
  | 0 => 0#32
  | k + 1 => crcG (regQ c k) ^^^ topB (c k)
theorem regQ_start (c : Nat → Bool) : ∀ i, i ≤ 32 → ∀ j, j < 32 → (regQ c i).getLsbD j = (decide (32 - i ≤ j) && c (j - (32 - i)))
  | 0, _, j, hj => by simp [regQ]; omega
  | i + 1, hi, j, hj => by
    have ih := regQ_start c i (by omega)
    have h0 : (regQ c i).getLsbD 0 = false := by
      rw [ih 0 (by omega)]
      have : ¬ (32 - i ≤ 0) := by omega
      simp [this]
    simp only [regQ]
    rw [crcG_even h0, BitVec.getLsbD_xor, BitVec.getLsbD_ushiftRight, topB_get _ _ hj]
    by_cases h : j = 31
    · subst h
      rw [BitVec.getLsbD_of_ge _ _ (by omega), show 31 - (32 - (i + 1)) = i by omega]
      have : 32 - (i + 1) ≤ 31 := by omega
      simp
    · rw [ih (1 + j) (by omega), show 1 + j - (32 - i) = j - (32 - (i + 1)) by omega]
      have : (32 - i ≤ 1 + j) ↔ (32 - (i + 1) ≤ j) := by omega
      simp [h, this]
theorem regQ_step (s c : Nat → Bool) (n0 : BitVec 32) (hc : ∀ k, c (k + 32) = s (k + 32)) (h0 : regQ c 32 = n0 ^^^ wordAt s 0) : ∀ k, regQ c (k + 32) = regN s n0 k ^^^ wordAt s k
  | 0 => by simpa [regN] using h0
  | k + 1 => by
    have ih := regQ_step s c n0 hc h0 k
    rw [show k + 1 + 32 = (k + 32) + 1 by omega]
    show crcG (regQ c (k + 32)) ^^^ topB (c (k + 32)) = crcG (regN s n0 k ^^^ lowB (s k)) ^^^ wordAt s (k + 1)
    rw [ih, hc]
    have e : regN s n0 k ^^^ wordAt s k = (regN s n0 k ^^^ lowB (s k)) ^^^ (wordAt s k ^^^ lowB (s k)) := by
      rw [BitVec.xor_assoc, BitVec.xor_comm (wordAt s k), ← BitVec.xor_assoc (lowB (s k)), BitVec.xor_self, BitVec.zero_xor]
    rw [e, crcG_xor, crcG_even (word_even s k), BitVec.xor_assoc, word_next]
/-- both registers agree at the end -/
theorem crc_agree (s c : Nat → Bool) (m : Nat) (hs : ∀ k, m ≤ k → s k = false) (hc : ∀ k, c k = (if k < 32 then !(s k) else s k)) : regQ c (m + 32) = regN s 0xffffffff#32 m := by
  have h0 : regQ c 32 = 0xffffffff#32 ^^^ wordAt s 0 := by
    apply BitVec.eq_of_getLsbD_eq
    intro j hj
    rw [regQ_start c 32 (by omega) j hj, BitVec.getLsbD_xor, wordAt_get _ _ _ hj]
    have : ∀ j : Fin 32, (0xffffffff#32).getLsbD j.val = true := by decide
    rw [this ⟨j, hj⟩, hc]
    simp [hj]
  rw [regQ_step s c _ (fun k => by rw [hc, if_neg (by omega)]) h0 m]
  have : wordAt s m = 0#32 := by
    apply BitVec.eq_of_getLsbD_eq
    intro j hj
    rw [wordAt_get _ _ _ hj, hs _ (by omega)]
    simp
  rw [this, BitVec.xor_zero]
end
section
set_option maxRecDepth 4000
theorem xor32 (a b : BitVec 32) : valI (Op.intBits .xor .u32 (a.toNat : Int) (b.toNat : Int)) = ((a ^^^ b).toNat : Int) := by
  have : valI (Op.intBits .xor .u32 (a.toNat : Int) (b.toNat : Int)) = IntKind.u32.wrap (((BitVec.ofInt 32 (a.toNat : Int)) ^^^ (BitVec.ofInt 32 (b.toNat : Int))).toNat : Int) := rfl
  rw [this, BitVec.ofInt_natCast, BitVec.ofInt_natCast, BitVec.ofNat_toNat, BitVec.ofNat_toNat]
  simp only [BitVec.setWidth_eq]
  rw [IntWalk.u32_in]
  have := (a ^^^ b).isLt
  omega
theorem and32 (a b : BitVec 32) : valI (Op.intBits .and .u32 (a.toNat : Int) (b.toNat : Int)) = ((a &&& b).toNat : Int) := by
  have : valI (Op.intBits .and .u32 (a.toNat : Int) (b.toNat : Int)) = IntKind.u32.wrap (((BitVec.ofInt 32 (a.toNat : Int)) &&& (BitVec.ofInt 32 (b.toNat : Int))).toNat : Int) := rfl
  rw [this, BitVec.ofInt_natCast, BitVec.ofInt_natCast, BitVec.ofNat_toNat, BitVec.ofNat_toNat]
  simp only [BitVec.setWidth_eq]
  rw [IntWalk.u32_in]
  have := (a &&& b).isLt
  omega
theorem shr32 (a : BitVec 32) : valI (Op.shift .shr .u32 (a.toNat : Int) .u64 1) = ((a >>> 1).toNat : Int) := by
  have : valI (Op.shift .shr .u32 (a.toNat : Int) .u64 1) = (a.toNat : Int).fdiv (2 ^ 1) := rfl
  rw [this, Int.fdiv_eq_ediv_of_nonneg _ (by decide), BitVec.toNat_ushiftRight, Nat.shiftRight_eq_div_pow]
  rfl
theorem neg32 (b : Bool) : valI (Op.intArith .sub .u32 0 ((lowB b).toNat : Int)) = (((bif b then 0xffffffff#32 else 0#32) : BitVec 32).toNat : Int) := by
  cases b <;> rfl
theorem crcBit_eq (n : BitVec 32) : crcBit (n.toNat : Int) = ((crcG n).toNat : Int) := by
  have h1 : valI (Op.intBits .and .u32 (n.toNat : Int) 1) = ((lowB (n.getLsbD 0)).toNat : Int) := by
    have := and32 n 1#32
    rw [show ((1#32).toNat : Int) = 1 from rfl] at this
    rw [this]
    congr 2
    apply BitVec.eq_of_getLsbD_eq
    intro j hj
    rw [BitVec.getLsbD_and, lowB_get _ _ hj]
    have e : (1#32).getLsbD j = decide (j = 0) := by simp
    rw [e]
    by_cases h : j = 0
    · subst h; simp
    · simp [h]
  unfold crcBit
  rw [h1, neg32, shr32]
  have h2 := and32 (0xedb88320#32) (bif n.getLsbD 0 then 0xffffffff#32 else 0#32)
  rw [show ((0xedb88320#32).toNat : Int) = 3988292384 from rfl] at h2
  rw [h2, xor32]
  congr 2
  unfold crcG
  cases n.getLsbD 0
  · simp
  · have : (0xedb88320#32 &&& 0xffffffff#32) = 0xedb88320#32 := by decide
    simp [this]
def iterG : Nat → BitVec 32 → BitVec 32
  | 0, n => n
  | k + 1, n => iterG k (crcG n)
theorem iter8_eq : ∀ (k : Nat) (n : BitVec 32), iter8 crcBit k (n.toNat : Int) = ((iterG k n).toNat : Int)
  | 0, _ => rfl
  | k + 1, n => by simp only [iter8, iterG]; rw [crcBit_eq, iter8_eq k]
theorem iterG_succ : ∀ (k : Nat) (n : BitVec 32), iterG (k + 1) n = crcG (iterG k n)
  | 0, _ => rfl
  | k + 1, n => by rw [iterG, iterG_succ k (crcG n)]; rfl
theorem iterG_bits (n x : BitVec 32) : ∀ k, iterG k (n ^^^ x) = regN (fun i => x.getLsbD i) n k ^^^ (x >>> k)
  | 0 => by simp [iterG, regN]
  | k + 1 => by
    rw [iterG_succ, iterG_bits n x k]
    show _ = crcG (regN (fun i => x.getLsbD i) n k ^^^ lowB (x.getLsbD k)) ^^^ (x >>> (k + 1))
    generalize regN (fun i => x.getLsbD i) n k = r
    have e : r ^^^ (x >>> k) = (r ^^^ lowB (x.getLsbD k)) ^^^ ((x >>> k) ^^^ lowB (x.getLsbD k)) := by
      rw [BitVec.xor_assoc, BitVec.xor_comm (x >>> k), ← BitVec.xor_assoc (lowB _), BitVec.xor_self, BitVec.zero_xor]
    have h0 : ((x >>> k) ^^^ lowB (x.getLsbD k)).getLsbD 0 = false := by
      rw [BitVec.getLsbD_xor, BitVec.getLsbD_ushiftRight, lowB_get _ _ (by omega)]
      simp
    rw [e, crcG_xor, crcG_even h0]
    congr 1
    apply BitVec.eq_of_getLsbD_eq
    intro j hj
    rw [BitVec.getLsbD_ushiftRight, BitVec.getLsbD_xor, BitVec.getLsbD_ushiftRight, BitVec.getLsbD_ushiftRight]
    have : (lowB (x.getLsbD k)).getLsbD (1 + j) = false := by
      by_cases h : 1 + j < 32
      · rw [lowB_get _ _ h]
        have : ¬ (1 + j = 0) := by omega
        simp
      · exact BitVec.getLsbD_of_ge _ _ (by omega)
    rw [this, show k + (1 + j) = k + 1 + j by omega]
    simp
theorem crcByte_eq (n : BitVec 32) (x : Nat) (hx : x < 256) : crcByte (n.toNat : Int) (x : Int) = ((regN (fun i => x.testBit i) n 8).toNat : Int) := by
  have hw : IntKind.u32.wrap (x : Int) = ((BitVec.ofNat 32 x).toNat : Int) := by
    rw [IntWalk.u32_in _ (by omega), BitVec.toNat_ofNat, Nat.mod_eq_of_lt (by omega)]
  unfold crcByte
  rw [hw, xor32, iter8_eq, iterG_bits]
  have h8 : BitVec.ofNat 32 x >>> 8 = 0#32 := by
    apply BitVec.eq_of_toNat_eq
    rw [BitVec.toNat_ushiftRight, BitVec.toNat_ofNat, Nat.mod_eq_of_lt (by omega), Nat.shiftRight_eq_div_pow]
    simp
    omega
  rw [h8, BitVec.xor_zero]
  have : ∀ k, k ≤ 8 → regN (fun i => (BitVec.ofNat 32 x).getLsbD i) n k = regN (fun i => x.testBit i) n k := by
    intro k
    induction k with
    | zero => intro _; rfl
    | succ k ih =>
      intro hk
      show crcG (_ ^^^ lowB ((BitVec.ofNat 32 x).getLsbD k)) = crcG (_ ^^^ lowB (x.testBit k))
      rw [ih (by omega), BitVec.getLsbD_ofNat]
      have : k < 32 := by omega
      simp [this]
  rw [this 8 (by omega)]
/-- a text's bits -/
def bitsOf (xs : List Nat) (i : Nat) : Bool := (xs.getD (i / 8) 0).testBit (i % 8)
theorem regN_add (s : Nat → Bool) (n : BitVec 32) (a : Nat) : ∀ b, regN s n (a + b) = regN (fun i => s (a + i)) (regN s n a) b
  | 0 => rfl
  | b + 1 => by
    show crcG (regN s n (a + b) ^^^ lowB (s (a + b))) = crcG (regN (fun i => s (a + i)) (regN s n a) b ^^^ lowB (s (a + b)))
    rw [regN_add s n a b]
theorem regN_congr {s t : Nat → Bool} (n : BitVec 32) : ∀ k, (∀ i, i < k → s i = t i) → regN s n k = regN t n k
  | 0, _ => rfl
  | k + 1, h => by
    show crcG (_ ^^^ lowB (s k)) = crcG (_ ^^^ lowB (t k))
    rw [regN_congr n k fun i hi => h i (by omega), h k (by omega)]
theorem fold_eq : ∀ (xs : List Nat) (n : BitVec 32), (∀ x ∈ xs, x < 256) → (xs.map Int.ofNat).foldl crcByte (n.toNat : Int) = ((regN (bitsOf xs) n (8 * xs.length)).toNat : Int)
  | [], n, _ => rfl
  | x :: xs, n, h => by
    have hx := h x (List.mem_cons_self ..)
    rw [List.map_cons, List.foldl_cons, show Int.ofNat x = (x : Int) from rfl, crcByte_eq n x hx, fold_eq xs _ fun y hy => h y (List.mem_cons_of_mem _ hy)]
    rw [List.length_cons, show 8 * (xs.length + 1) = 8 + 8 * xs.length by omega, regN_add]
    have e1 : regN (bitsOf (x :: xs)) n 8 = regN (fun i => x.testBit i) n 8 := regN_congr n 8 fun i hi => by
      unfold bitsOf
      rw [show i / 8 = 0 by omega, show i % 8 = i by omega]
      rfl
    have e2 : (fun i => bitsOf (x :: xs) (8 + i)) = bitsOf xs := by
      funext i
      unfold bitsOf
      rw [show (8 + i) / 8 = i / 8 + 1 by omega, show (8 + i) % 8 = i % 8 by omega]
      rfl
    rw [e1, e2]
/-- the program's sum, by bits -/
theorem crcMore_bits (xs : List Nat) (h : ∀ x ∈ xs, x < 256) : crcMore 0 (xs.map Int.ofNat) = ((0xffffffff#32 ^^^ regN (bitsOf xs) 0xffffffff#32 (8 * xs.length)).toNat : Int) := by
  have h0 : valI (Op.intBits .xor .u32 IntKind.u32.max 0) = ((0xffffffff#32).toNat : Int) := rfl
  have h1 : IntKind.u32.max = ((0xffffffff#32).toNat : Int) := rfl
  unfold crcMore
  rw [h0, fold_eq xs _ h, h1, xor32]
end
section
set_option maxRecDepth 4000
/-- the document's register -/
def refStep (r : Nat) (b : Bool) : Nat := if (2 * r + b.toNat) >>> 32 = 1 then (2 * r + b.toNat) ^^^ 0x104c11db7 else 2 * r + b.toNat
def refReg (c : Nat → Bool) : Nat → Nat
  | 0 => 0
  | k + 1 => refStep (refReg c k) (c k)
def Turned (r : Nat) (q : BitVec 32) : Prop := r < 2 ^ 32 ∧ ∀ j, j < 32 → r.testBit j = q.getLsbD (31 - j)
theorem poly_bits : ∀ j : Fin 32, (0x104c11db7).testBit j.val = (0xedb88320#32).getLsbD (31 - j.val) := by decide
theorem turned_step {r : Nat} {q : BitVec 32} (h : Turned r q) (b : Bool) : Turned (refStep r b) (crcG q ^^^ topB b) := by
  obtain ⟨h1, h2⟩ := h
  have hb : b.toNat < 2 := by cases b <;> decide
  have t0 : (2 * r + b.toNat).testBit 0 = b := by cases b <;> simp [Nat.testBit_zero, Nat.add_mod]
  have ts : ∀ j, (2 * r + b.toNat).testBit (j + 1) = r.testBit j := fun j => by
    rw [Nat.testBit_succ, show (2 * r + b.toNat) / 2 = r by omega]
  have hq0 : q.getLsbD 0 = r.testBit 31 := by rw [h2 31 (by omega)]
  have bits : ∀ j, j < 32 → (crcG q ^^^ topB b).getLsbD (31 - j) = ((2 * r + b.toNat).testBit j ^^ (r.testBit 31 && (0x104c11db7).testBit j)) := fun j hj => by
    rw [BitVec.getLsbD_xor, topB_get _ _ (by omega)]
    unfold crcG
    rw [BitVec.getLsbD_xor, BitVec.getLsbD_ushiftRight, hq0]
    have hp := poly_bits ⟨j, hj⟩
    simp only at hp
    have e1 : (bif r.testBit 31 then 0xedb88320#32 else 0#32).getLsbD (31 - j) = (r.testBit 31 && (0x104c11db7).testBit j) := by
      rw [hp]; cases r.testBit 31 <;> simp
    rw [e1]
    cases j with
    | zero =>
      rw [t0, BitVec.getLsbD_of_ge _ _ (by omega)]
      simp [Bool.xor_comm]
    | succ j =>
      rw [ts, show 1 + (31 - (j + 1)) = 31 - j by omega, ← h2 j (by omega)]
      have hne : decide (31 - (j + 1) = 31) = false := decide_eq_false (by omega)
      rw [hne, Bool.and_false, Bool.xor_false]
  have hlt : 2 * r + b.toNat < 2 ^ 33 := by omega
  have h31 : (2 * r + b.toNat) >>> 32 = (r.testBit 31).toNat := by
    rw [Nat.shiftRight_eq_div_pow, Nat.toNat_testBit]
    omega
  unfold refStep
  rw [h31]
  cases hr : r.testBit 31 with
  | false =>
    rw [if_neg (by decide)]
    refine ⟨?_, fun j hj => ?_⟩
    · have : (2 * r + b.toNat) / 2 ^ 32 = 0 := by
        have := h31; rw [hr, Nat.shiftRight_eq_div_pow] at this; exact this
      omega
    · rw [bits j hj, hr]; simp
  | true =>
    rw [if_pos (by decide)]
    refine ⟨?_, fun j hj => ?_⟩
    · apply Nat.lt_pow_two_of_testBit
      intro i hi
      rw [Nat.testBit_xor]
      rcases Nat.eq_or_lt_of_le hi with e | hgt
      · subst e
        rw [ts 31, hr]; decide
      · have e1 : (2 * r + b.toNat).testBit i = false := Nat.testBit_lt_two_pow (Nat.lt_of_lt_of_le hlt (Nat.pow_le_pow_right (by omega) (by omega)))
        have e2 : (0x104c11db7).testBit i = false := Nat.testBit_lt_two_pow (Nat.lt_of_lt_of_le (by decide : 0x104c11db7 < 2 ^ 33) (Nat.pow_le_pow_right (by omega) (by omega)))
        rw [e1, e2]; rfl
    · rw [bits j hj, hr, Nat.testBit_xor]; simp
theorem turned (c : Nat → Bool) : ∀ k, Turned (refReg c k) (regQ c k)
  | 0 => ⟨by simp [refReg], fun j hj => by simp [refReg, regQ]⟩
  | k + 1 => turned_step (turned c k) (c k)
/-- what the document takes out of its register -/
def refOut (r : Nat) : Nat → Nat
  | 0 => 0
  | k + 1 => refOut r k + (if r.testBit k then 0 else 2 ^ (31 - k))
theorem refOut_bits (r : Nat) : ∀ k, k ≤ 32 → ∃ h, refOut r k = h * 2 ^ (32 - k) ∧ h < 2 ^ k ∧ ∀ j, j < k → h.testBit j = !(r.testBit (k - 1 - j))
  | 0, _ => ⟨0, by simp [refOut], by decide, fun j hj => by omega⟩
  | k + 1, hk => by
    obtain ⟨h, e, hl, hb⟩ := refOut_bits r k (by omega)
    refine ⟨2 * h + (if r.testBit k then 0 else 1), ?_, ?_, fun j hj => ?_⟩
    · rw [refOut, e, show 32 - k = (32 - (k + 1)) + 1 by omega, Nat.pow_succ, show 31 - k = 32 - (k + 1) by omega]
      cases r.testBit k <;> simp [Nat.add_mul, Nat.mul_comm, Nat.mul_assoc]
    · rw [Nat.pow_succ]; split <;> omega
    · cases j with
      | zero =>
        rw [show k + 1 - 1 - 0 = k by omega]
        cases r.testBit k <;> simp [Nat.testBit_zero, Nat.add_mod]
      | succ j =>
        rw [Nat.testBit_succ, show (2 * h + (if r.testBit k = true then 0 else 1)) / 2 = h by split <;> omega, hb j (by omega), show k + 1 - 1 - (j + 1) = k - 1 - j by omega]
theorem refOut_eq {r : Nat} {q : BitVec 32} (h : Turned r q) : refOut r 32 = (0xffffffff#32 ^^^ q).toNat := by
  obtain ⟨x, e, hl, hb⟩ := refOut_bits r 32 (by omega)
  rw [e, Nat.sub_self, Nat.pow_zero, Nat.mul_one]
  apply Nat.eq_of_testBit_eq
  intro j
  by_cases hj : j < 32
  · rw [hb j hj, h.2 _ (by omega), BitVec.testBit_toNat, BitVec.getLsbD_xor]
    have e1 : (0xffffffff#32).getLsbD j = true := by
      have : ∀ j : Fin 32, (0xffffffff#32).getLsbD j.val = true := by decide
      exact this ⟨j, hj⟩
    rw [e1, show 31 - (32 - 1 - j) = j by omega]
    simp
  · rw [Nat.testBit_lt_two_pow (Nat.lt_of_lt_of_le hl (Nat.pow_le_pow_right (by omega) (by omega))), BitVec.testBit_toNat, BitVec.getLsbD_of_ge _ _ (by omega)]
/-- the two sums are one -/
def refBits (xs : List Nat) (k : Nat) : Bool := if k < 32 then !(bitsOf xs k) else bitsOf xs k
theorem sums_agree (xs : List Nat) (h : ∀ x ∈ xs, x < 256) : crcMore 0 (xs.map Int.ofNat) = ((refOut (refReg (refBits xs) (8 * xs.length + 32)) 32 : Nat) : Int) := by
  rw [crcMore_bits xs h, refOut_eq (turned (refBits xs) _), crc_agree (bitsOf xs) (refBits xs) (8 * xs.length) (fun k hk => ?_) (fun k => rfl)]
  unfold bitsOf
  rw [List.getD_eq_getElem?_getD, List.getElem?_eq_none (by omega)]
  simp
end
end Go.Proofs.YtalchcdenhfmiaaGreatDoor.E
