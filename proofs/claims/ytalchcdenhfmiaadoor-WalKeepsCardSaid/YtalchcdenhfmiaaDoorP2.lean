/- Part 2 of the proof, over the abstract machine: contracts of the functions that the statement reaches, joined out of several texts. Condition: none beyond those that the lemmas name. -/
import Derived.Test.YtalchcdenhfmiaaDoorP1
namespace Go.Proofs.YtalchcdenhfmiaaDoor.E
open Go Go.Proofs
section
set_option maxRecDepth 100000
theorem f9_T_e (st : St) (w p11 : Nat) (n17 : Int) : evCallS Tryd.prog E0 noOv (fun _ => [2011, 2017, 2023, 2030, 6018, 6025, 7018]) 100000 9 [(.ptr w 0)] st [.eff (.ptr p11 0) id, .eff (i64 n17) id, .av TT] = some ((i64 0), st, [], [loadA E0 st 23 (.ptr w 0) = some (.ptr p11 0) ∧ st = st, loadA E0 st 3 (.ptr w 2) = some (i64 n17) ∧ st = st, binA E0 .eql 3 (i64 n17) (i64 0) = some TT]) := by kernel_rfl
theorem f9_T {st : St} {w p11 : Nat} {n17 : Int} (h1 : loadA E0 st 23 (.ptr w 0) = some (.ptr p11 0)) (h2 : loadA E0 st 3 (.ptr w 2) = some (i64 n17)) (h3 : binA E0 .eql 3 (i64 n17) (i64 0) = some TT) : obC 9 [(.ptr w 0)] st (i64 0) st := ACalls.run hE noOv_ok (f9_T_e st w p11 n17) (Ob.ok_cons.2 ⟨⟨h1, rfl⟩, (Ob.ok_cons.2 ⟨⟨h2, rfl⟩, (Ob.ok_cons.2 ⟨h3, Ob.ok_nil⟩)⟩)⟩)
theorem f9_F_e (st s1 s2 : St) (w p11 p30 : Nat) (n17 n23 n24b n32 : Int) (w24a : ByteArray) : evCallS Tryd.prog E0 noOv (fun _ => [2011, 2017, 2023, 2030, 6018, 6025, 7018]) 100000 9 [(.ptr w 0)] st [.eff (.ptr p11 0) id, .eff (i64 n17) id, .av FF, .eff (i64 n23) id, .eff (.tup [(str w24a), (i64 n24b)]) (fun _ => s1), .eff (.ptr p30 0) id, .eff (i64 n32) (fun _ => s2)] = some ((i64 n32), s2, [], [loadA E0 st 23 (.ptr w 0) = some (.ptr p11 0) ∧ st = st, loadA E0 st 3 (.ptr w 2) = some (i64 n17) ∧ st = st, binA E0 .eql 3 (i64 n17) (i64 0) = some FF, loadA E0 st 3 (.ptr w 2) = some (i64 n23) ∧ st = st, obC 18 [(i64 n23)] st (.tup [(str w24a), (i64 n24b)]) s1, loadA E0 s1 23 (.ptr w 0) = some (.ptr p30 0) ∧ s1 = s1, obC 25 [(.ptr p30 0), (str w24a)] s1 (i64 n32) s2]) := by kernel_rfl
theorem f9_F {st s1 s2 : St} {w p11 p30 : Nat} {n17 n23 n24b n32 : Int} {w24a : ByteArray} (h1 : loadA E0 st 23 (.ptr w 0) = some (.ptr p11 0)) (h2 : loadA E0 st 3 (.ptr w 2) = some (i64 n17)) (h3 : binA E0 .eql 3 (i64 n17) (i64 0) = some FF) (h4 : loadA E0 st 3 (.ptr w 2) = some (i64 n23)) (h5 : obC 18 [(i64 n23)] st (.tup [(str w24a), (i64 n24b)]) s1) (h6 : loadA E0 s1 23 (.ptr w 0) = some (.ptr p30 0)) (h7 : obC 25 [(.ptr p30 0), (str w24a)] s1 (i64 n32) s2) : obC 9 [(.ptr w 0)] st (i64 n32) s2 := ACalls.run hE noOv_ok (f9_F_e st s1 s2 w p11 p30 n17 n23 n24b n32 w24a) (Ob.ok_cons.2 ⟨⟨h1, rfl⟩, (Ob.ok_cons.2 ⟨⟨h2, rfl⟩, (Ob.ok_cons.2 ⟨h3, (Ob.ok_cons.2 ⟨⟨h4, rfl⟩, (Ob.ok_cons.2 ⟨h5, (Ob.ok_cons.2 ⟨⟨h6, rfl⟩, (Ob.ok_cons.2 ⟨h7, Ob.ok_nil⟩)⟩)⟩)⟩)⟩)⟩)⟩)
theorem f23_T_e (st s1 : St) (w : Nat) (n10 n11b : Int) (w11a : ByteArray) : evCallS Tryd.prog E0 noOv (fun _ => [2010, 2019, 2030, 2038, 5000, 6018, 6038, 7015, 7023, 7039]) 100000 23 [(.ptr w 0)] st [.eff (i64 n10) id, .eff (.tup [(str w11a), (i64 n11b)]) (fun _ => s1), .av TT] = some ((i64 7), s1, [], [loadA E0 st 3 (.ptr w 1) = some (i64 n10) ∧ st = st, obC 18 [(i64 n10)] st (.tup [(str w11a), (i64 n11b)]) s1, binA E0 .neq 29 (i64 n11b) (i64 0) = some TT]) := by kernel_rfl
theorem f23_T {st s1 : St} {w : Nat} {n10 n11b : Int} {w11a : ByteArray} (h1 : loadA E0 st 3 (.ptr w 1) = some (i64 n10)) (h2 : obC 18 [(i64 n10)] st (.tup [(str w11a), (i64 n11b)]) s1) (h3 : binA E0 .neq 29 (i64 n11b) (i64 0) = some TT) : obC 23 [(.ptr w 0)] st (i64 7) s1 := ACalls.run hE noOv_ok (f23_T_e st s1 w n10 n11b w11a) (Ob.ok_cons.2 ⟨⟨h1, rfl⟩, (Ob.ok_cons.2 ⟨h2, (Ob.ok_cons.2 ⟨h3, Ob.ok_nil⟩)⟩)⟩)
theorem f23_FT_e (st s1 s2 : St) (w p19 : Nat) (n10 n11b n21 : Int) (w11a : ByteArray) : evCallS Tryd.prog E0 noOv (fun _ => [2010, 2019, 2030, 2038, 5000, 6018, 6038, 7015, 7023, 7039]) 100000 23 [(.ptr w 0)] st [.eff (i64 n10) id, .eff (.tup [(str w11a), (i64 n11b)]) (fun _ => s1), .av FF, .eff (.ptr p19 0) id, .eff (i64 n21) (fun _ => s2), .av TT] = some ((i64 n21), s2, [], [loadA E0 st 3 (.ptr w 1) = some (i64 n10) ∧ st = st, obC 18 [(i64 n10)] st (.tup [(str w11a), (i64 n11b)]) s1, binA E0 .neq 29 (i64 n11b) (i64 0) = some FF, loadA E0 s1 23 (.ptr w 0) = some (.ptr p19 0) ∧ s1 = s1, obC 38 [(.ptr p19 0), (str w11a)] s1 (i64 n21) s2, binA E0 .neq 29 (i64 n21) (i64 0) = some TT]) := by kernel_rfl
theorem f23_FT {st s1 s2 : St} {w p19 : Nat} {n10 n11b n21 : Int} {w11a : ByteArray} (h1 : loadA E0 st 3 (.ptr w 1) = some (i64 n10)) (h2 : obC 18 [(i64 n10)] st (.tup [(str w11a), (i64 n11b)]) s1) (h3 : binA E0 .neq 29 (i64 n11b) (i64 0) = some FF) (h4 : loadA E0 s1 23 (.ptr w 0) = some (.ptr p19 0)) (h5 : obC 38 [(.ptr p19 0), (str w11a)] s1 (i64 n21) s2) (h6 : binA E0 .neq 29 (i64 n21) (i64 0) = some TT) : obC 23 [(.ptr w 0)] st (i64 n21) s2 := ACalls.run hE noOv_ok (f23_FT_e st s1 s2 w p19 n10 n11b n21 w11a) (Ob.ok_cons.2 ⟨⟨h1, rfl⟩, (Ob.ok_cons.2 ⟨h2, (Ob.ok_cons.2 ⟨h3, (Ob.ok_cons.2 ⟨⟨h4, rfl⟩, (Ob.ok_cons.2 ⟨h5, (Ob.ok_cons.2 ⟨h6, Ob.ok_nil⟩)⟩)⟩)⟩)⟩)⟩)
theorem f23_FF_e (st s1 s2 s3 s4 s5 : St) (w p19 : Nat) (n10 n11b n21 n30 n38 n39 : Int) (w11a : ByteArray) : evCallS Tryd.prog E0 noOv (fun _ => [2010, 2019, 2030, 2038, 5000, 6018, 6038, 7015, 7023, 7039]) 100000 23 [(.ptr w 0)] st [.eff (i64 n10) id, .eff (.tup [(str w11a), (i64 n11b)]) (fun _ => s1), .av FF, .eff (.ptr p19 0) id, .eff (i64 n21) (fun _ => s2), .av FF, .eff (i64 n30) id, .eff .undef (fun _ => s3), .eff .undef (fun _ => s4), .eff (i64 n38) id, .av (i64 n39), .eff .undef (fun _ => s5)] = some ((i64 0), s5, [], [loadA E0 st 3 (.ptr w 1) = some (i64 n10) ∧ st = st, obC 18 [(i64 n10)] st (.tup [(str w11a), (i64 n11b)]) s1, binA E0 .neq 29 (i64 n11b) (i64 0) = some FF, loadA E0 s1 23 (.ptr w 0) = some (.ptr p19 0) ∧ s1 = s1, obC 38 [(.ptr p19 0), (str w11a)] s1 (i64 n21) s2, binA E0 .neq 29 (i64 n21) (i64 0) = some FF, loadA E0 s2 3 (.ptr w 1) = some (i64 n30) ∧ s2 = s2, storeA E0 s2 3 (.ptr w 2) (i64 n30) = some s3, storeA E0 s3 3 (.ptr w 3) (i64 0) = some s4, loadA E0 s4 3 (.ptr w 1) = some (i64 n38) ∧ s4 = s4, binA E0 .add 3 (i64 n38) (i64 1) = some (i64 n39), storeA E0 s4 3 (.ptr w 1) (i64 n39) = some s5]) := by kernel_rfl
theorem f23_FF {st s1 s2 s3 s4 s5 : St} {w p19 : Nat} {n10 n11b n21 n30 n38 n39 : Int} {w11a : ByteArray} (h1 : loadA E0 st 3 (.ptr w 1) = some (i64 n10)) (h2 : obC 18 [(i64 n10)] st (.tup [(str w11a), (i64 n11b)]) s1) (h3 : binA E0 .neq 29 (i64 n11b) (i64 0) = some FF) (h4 : loadA E0 s1 23 (.ptr w 0) = some (.ptr p19 0)) (h5 : obC 38 [(.ptr p19 0), (str w11a)] s1 (i64 n21) s2) (h6 : binA E0 .neq 29 (i64 n21) (i64 0) = some FF) (h7 : loadA E0 s2 3 (.ptr w 1) = some (i64 n30)) (h8 : storeA E0 s2 3 (.ptr w 2) (i64 n30) = some s3) (h9 : storeA E0 s3 3 (.ptr w 3) (i64 0) = some s4) (h10 : loadA E0 s4 3 (.ptr w 1) = some (i64 n38)) (h11 : binA E0 .add 3 (i64 n38) (i64 1) = some (i64 n39)) (h12 : storeA E0 s4 3 (.ptr w 1) (i64 n39) = some s5) : obC 23 [(.ptr w 0)] st (i64 0) s5 := ACalls.run hE noOv_ok (f23_FF_e st s1 s2 s3 s4 s5 w p19 n10 n11b n21 n30 n38 n39 w11a) (Ob.ok_cons.2 ⟨⟨h1, rfl⟩, (Ob.ok_cons.2 ⟨h2, (Ob.ok_cons.2 ⟨h3, (Ob.ok_cons.2 ⟨⟨h4, rfl⟩, (Ob.ok_cons.2 ⟨h5, (Ob.ok_cons.2 ⟨h6, (Ob.ok_cons.2 ⟨⟨h7, rfl⟩, (Ob.ok_cons.2 ⟨h8, (Ob.ok_cons.2 ⟨h9, (Ob.ok_cons.2 ⟨⟨h10, rfl⟩, (Ob.ok_cons.2 ⟨h11, (Ob.ok_cons.2 ⟨h12, Ob.ok_nil⟩)⟩)⟩)⟩)⟩)⟩)⟩)⟩)⟩)⟩)⟩)⟩)
theorem f21_e (st : St) (w : Nat) (n8 : Int) : evCallS Tryd.prog E0 noOv (fun _ => [2008]) 100000 21 [(.ptr w 0)] st [.eff (i64 n8) id] = some ((i64 n8), st, [], [loadA E0 st 3 (.ptr w 1) = some (i64 n8) ∧ st = st]) := by kernel_rfl
theorem f21 {st : St} {w : Nat} {n8 : Int} (h1 : loadA E0 st 3 (.ptr w 1) = some (i64 n8)) : obC 21 [(.ptr w 0)] st (i64 n8) st := ACalls.run hE noOv_ok (f21_e st w n8) (Ob.ok_cons.2 ⟨⟨h1, rfl⟩, Ob.ok_nil⟩)
theorem f8_T_e (st s1 : St) (w p19 : Nat) (x v24a : AV) (n24b : Int) : evCallS Tryd.prog E0 noOv (fun _ => [2019, 2033, 2039, 2053, 2064, 2071, 2081, 2088, 5000, 6009, 6018, 6022, 6023, 6024, 7028, 7034, 7040, 7045, 7054, 7058, 7076, 7082]) 100000 8 [(.ptr w 0), x] st [.eff (.ptr p19 0) id, .eff (.tup [v24a, (i64 n24b)]) (fun _ => s1), .av TT] = some ((.tup [(i64 0), (i64 n24b)]), s1, [], [loadA E0 st 23 (.ptr w 0) = some (.ptr p19 0) ∧ st = st, obC 22 [x] st (.tup [v24a, (i64 n24b)]) s1, binA E0 .neq 29 (i64 n24b) (i64 0) = some TT]) := by kernel_rfl
theorem f8_T {st s1 : St} {w p19 : Nat} {x v24a : AV} {n24b : Int} (h1 : loadA E0 st 23 (.ptr w 0) = some (.ptr p19 0)) (h2 : obC 22 [x] st (.tup [v24a, (i64 n24b)]) s1) (h3 : binA E0 .neq 29 (i64 n24b) (i64 0) = some TT) : obC 8 [(.ptr w 0), x] st (.tup [(i64 0), (i64 n24b)]) s1 := ACalls.run hE noOv_ok (f8_T_e st s1 w p19 x v24a n24b) (Ob.ok_cons.2 ⟨⟨h1, rfl⟩, (Ob.ok_cons.2 ⟨h2, (Ob.ok_cons.2 ⟨h3, Ob.ok_nil⟩)⟩)⟩)
theorem f8_FTTT_e (st s1 s2 : St) (w p19 : Nat) (x v24a : AV) (n24b n33 n39 n43 : Int) : evCallS Tryd.prog E0 noOv (fun _ => [2019, 2033, 2039, 2053, 2064, 2071, 2081, 2088, 5000, 6009, 6018, 6022, 6023, 6024, 7028, 7034, 7040, 7045, 7054, 7058, 7076, 7082]) 100000 8 [(.ptr w 0), x] st [.eff (.ptr p19 0) id, .eff (.tup [v24a, (i64 n24b)]) (fun _ => s1), .av FF, .eff (i64 n33) id, .av TT, .eff (i64 n39) id, .av TT, .eff (i64 n43) (fun _ => s2), .av TT] = some ((.tup [(i64 0), (i64 n43)]), s2, [], [loadA E0 st 23 (.ptr w 0) = some (.ptr p19 0) ∧ st = st, obC 22 [x] st (.tup [v24a, (i64 n24b)]) s1, binA E0 .neq 29 (i64 n24b) (i64 0) = some FF, loadA E0 s1 3 (.ptr w 2) = some (i64 n33) ∧ s1 = s1, binA E0 .gtr 3 (i64 n33) (i64 0) = some TT, loadA E0 s1 3 (.ptr w 3) = some (i64 n39) ∧ s1 = s1, binA E0 .eql 3 (i64 n39) (i64 8) = some TT, obC 9 [(.ptr w 0)] s1 (i64 n43) s2, binA E0 .neq 29 (i64 n43) (i64 0) = some TT]) := by kernel_rfl
theorem f8_FTTT {st s1 s2 : St} {w p19 : Nat} {x v24a : AV} {n24b n33 n39 n43 : Int} (h1 : loadA E0 st 23 (.ptr w 0) = some (.ptr p19 0)) (h2 : obC 22 [x] st (.tup [v24a, (i64 n24b)]) s1) (h3 : binA E0 .neq 29 (i64 n24b) (i64 0) = some FF) (h4 : loadA E0 s1 3 (.ptr w 2) = some (i64 n33)) (h5 : binA E0 .gtr 3 (i64 n33) (i64 0) = some TT) (h6 : loadA E0 s1 3 (.ptr w 3) = some (i64 n39)) (h7 : binA E0 .eql 3 (i64 n39) (i64 8) = some TT) (h8 : obC 9 [(.ptr w 0)] s1 (i64 n43) s2) (h9 : binA E0 .neq 29 (i64 n43) (i64 0) = some TT) : obC 8 [(.ptr w 0), x] st (.tup [(i64 0), (i64 n43)]) s2 := ACalls.run hE noOv_ok (f8_FTTT_e st s1 s2 w p19 x v24a n24b n33 n39 n43) (Ob.ok_cons.2 ⟨⟨h1, rfl⟩, (Ob.ok_cons.2 ⟨h2, (Ob.ok_cons.2 ⟨h3, (Ob.ok_cons.2 ⟨⟨h4, rfl⟩, (Ob.ok_cons.2 ⟨h5, (Ob.ok_cons.2 ⟨⟨h6, rfl⟩, (Ob.ok_cons.2 ⟨h7, (Ob.ok_cons.2 ⟨h8, (Ob.ok_cons.2 ⟨h9, Ob.ok_nil⟩)⟩)⟩)⟩)⟩)⟩)⟩)⟩)⟩)
theorem f8_FTTFTT_e (st s1 s2 s3 s4 : St) (w p19 : Nat) (x v24a : AV) (n24b n33 n39 n43 n53 n56 : Int) : evCallS Tryd.prog E0 noOv (fun _ => [2019, 2033, 2039, 2053, 2064, 2071, 2081, 2088, 5000, 6009, 6018, 6022, 6023, 6024, 7028, 7034, 7040, 7045, 7054, 7058, 7076, 7082]) 100000 8 [(.ptr w 0), x] st [.eff (.ptr p19 0) id, .eff (.tup [v24a, (i64 n24b)]) (fun _ => s1), .av FF, .eff (i64 n33) id, .av TT, .eff (i64 n39) id, .av TT, .eff (i64 n43) (fun _ => s2), .av FF, .eff .undef (fun _ => s3), .eff (i64 n53) id, .av TT, .eff (i64 n56) (fun _ => s4), .av TT] = some ((.tup [(i64 0), (i64 n56)]), s4, [], [loadA E0 st 23 (.ptr w 0) = some (.ptr p19 0) ∧ st = st, obC 22 [x] st (.tup [v24a, (i64 n24b)]) s1, binA E0 .neq 29 (i64 n24b) (i64 0) = some FF, loadA E0 s1 3 (.ptr w 2) = some (i64 n33) ∧ s1 = s1, binA E0 .gtr 3 (i64 n33) (i64 0) = some TT, loadA E0 s1 3 (.ptr w 3) = some (i64 n39) ∧ s1 = s1, binA E0 .eql 3 (i64 n39) (i64 8) = some TT, obC 9 [(.ptr w 0)] s1 (i64 n43) s2, binA E0 .neq 29 (i64 n43) (i64 0) = some FF, storeA E0 s2 3 (.ptr w 2) (i64 0) = some s3, loadA E0 s3 3 (.ptr w 2) = some (i64 n53) ∧ s3 = s3, binA E0 .eql 3 (i64 n53) (i64 0) = some TT, obC 23 [(.ptr w 0)] s3 (i64 n56) s4, binA E0 .neq 29 (i64 n56) (i64 0) = some TT]) := by kernel_rfl
theorem f8_FTTFTT {st s1 s2 s3 s4 : St} {w p19 : Nat} {x v24a : AV} {n24b n33 n39 n43 n53 n56 : Int} (h1 : loadA E0 st 23 (.ptr w 0) = some (.ptr p19 0)) (h2 : obC 22 [x] st (.tup [v24a, (i64 n24b)]) s1) (h3 : binA E0 .neq 29 (i64 n24b) (i64 0) = some FF) (h4 : loadA E0 s1 3 (.ptr w 2) = some (i64 n33)) (h5 : binA E0 .gtr 3 (i64 n33) (i64 0) = some TT) (h6 : loadA E0 s1 3 (.ptr w 3) = some (i64 n39)) (h7 : binA E0 .eql 3 (i64 n39) (i64 8) = some TT) (h8 : obC 9 [(.ptr w 0)] s1 (i64 n43) s2) (h9 : binA E0 .neq 29 (i64 n43) (i64 0) = some FF) (h10 : storeA E0 s2 3 (.ptr w 2) (i64 0) = some s3) (h11 : loadA E0 s3 3 (.ptr w 2) = some (i64 n53)) (h12 : binA E0 .eql 3 (i64 n53) (i64 0) = some TT) (h13 : obC 23 [(.ptr w 0)] s3 (i64 n56) s4) (h14 : binA E0 .neq 29 (i64 n56) (i64 0) = some TT) : obC 8 [(.ptr w 0), x] st (.tup [(i64 0), (i64 n56)]) s4 := ACalls.run hE noOv_ok (f8_FTTFTT_e st s1 s2 s3 s4 w p19 x v24a n24b n33 n39 n43 n53 n56) (Ob.ok_cons.2 ⟨⟨h1, rfl⟩, (Ob.ok_cons.2 ⟨h2, (Ob.ok_cons.2 ⟨h3, (Ob.ok_cons.2 ⟨⟨h4, rfl⟩, (Ob.ok_cons.2 ⟨h5, (Ob.ok_cons.2 ⟨⟨h6, rfl⟩, (Ob.ok_cons.2 ⟨h7, (Ob.ok_cons.2 ⟨h8, (Ob.ok_cons.2 ⟨h9, (Ob.ok_cons.2 ⟨h10, (Ob.ok_cons.2 ⟨⟨h11, rfl⟩, (Ob.ok_cons.2 ⟨h12, (Ob.ok_cons.2 ⟨h13, (Ob.ok_cons.2 ⟨h14, Ob.ok_nil⟩)⟩)⟩)⟩)⟩)⟩)⟩)⟩)⟩)⟩)⟩)⟩)⟩)⟩)
theorem f8_FTTFTFT_e (st s1 s2 s3 s4 s5 s6 : St) (w p19 p71 : Nat) (x v24a : AV) (n24b n33 n39 n43 n53 n56 n64 n65b n74 : Int) (w65a : ByteArray) : evCallS Tryd.prog E0 noOv (fun _ => [2019, 2033, 2039, 2053, 2064, 2071, 2081, 2088, 5000, 6009, 6018, 6022, 6023, 6024, 7028, 7034, 7040, 7045, 7054, 7058, 7076, 7082]) 100000 8 [(.ptr w 0), x] st [.eff (.ptr p19 0) id, .eff (.tup [v24a, (i64 n24b)]) (fun _ => s1), .av FF, .eff (i64 n33) id, .av TT, .eff (i64 n39) id, .av TT, .eff (i64 n43) (fun _ => s2), .av FF, .eff .undef (fun _ => s3), .eff (i64 n53) id, .av TT, .eff (i64 n56) (fun _ => s4), .av FF, .eff (i64 n64) id, .eff (.tup [(str w65a), (i64 n65b)]) (fun _ => s5), .eff (.ptr p71 0) id, .eff (i64 n74) (fun _ => s6), .av TT] = some ((.tup [(i64 0), (i64 n74)]), s6, [], [loadA E0 st 23 (.ptr w 0) = some (.ptr p19 0) ∧ st = st, obC 22 [x] st (.tup [v24a, (i64 n24b)]) s1, binA E0 .neq 29 (i64 n24b) (i64 0) = some FF, loadA E0 s1 3 (.ptr w 2) = some (i64 n33) ∧ s1 = s1, binA E0 .gtr 3 (i64 n33) (i64 0) = some TT, loadA E0 s1 3 (.ptr w 3) = some (i64 n39) ∧ s1 = s1, binA E0 .eql 3 (i64 n39) (i64 8) = some TT, obC 9 [(.ptr w 0)] s1 (i64 n43) s2, binA E0 .neq 29 (i64 n43) (i64 0) = some FF, storeA E0 s2 3 (.ptr w 2) (i64 0) = some s3, loadA E0 s3 3 (.ptr w 2) = some (i64 n53) ∧ s3 = s3, binA E0 .eql 3 (i64 n53) (i64 0) = some TT, obC 23 [(.ptr w 0)] s3 (i64 n56) s4, binA E0 .neq 29 (i64 n56) (i64 0) = some FF, loadA E0 s4 3 (.ptr w 2) = some (i64 n64) ∧ s4 = s4, obC 18 [(i64 n64)] s4 (.tup [(str w65a), (i64 n65b)]) s5, loadA E0 s5 23 (.ptr w 0) = some (.ptr p71 0) ∧ s5 = s5, obC 24 [(.ptr p71 0), (str w65a), v24a] s5 (i64 n74) s6, binA E0 .neq 29 (i64 n74) (i64 0) = some TT]) := by kernel_rfl
theorem f8_FTTFTFT {st s1 s2 s3 s4 s5 s6 : St} {w p19 p71 : Nat} {x v24a : AV} {n24b n33 n39 n43 n53 n56 n64 n65b n74 : Int} {w65a : ByteArray} (h1 : loadA E0 st 23 (.ptr w 0) = some (.ptr p19 0)) (h2 : obC 22 [x] st (.tup [v24a, (i64 n24b)]) s1) (h3 : binA E0 .neq 29 (i64 n24b) (i64 0) = some FF) (h4 : loadA E0 s1 3 (.ptr w 2) = some (i64 n33)) (h5 : binA E0 .gtr 3 (i64 n33) (i64 0) = some TT) (h6 : loadA E0 s1 3 (.ptr w 3) = some (i64 n39)) (h7 : binA E0 .eql 3 (i64 n39) (i64 8) = some TT) (h8 : obC 9 [(.ptr w 0)] s1 (i64 n43) s2) (h9 : binA E0 .neq 29 (i64 n43) (i64 0) = some FF) (h10 : storeA E0 s2 3 (.ptr w 2) (i64 0) = some s3) (h11 : loadA E0 s3 3 (.ptr w 2) = some (i64 n53)) (h12 : binA E0 .eql 3 (i64 n53) (i64 0) = some TT) (h13 : obC 23 [(.ptr w 0)] s3 (i64 n56) s4) (h14 : binA E0 .neq 29 (i64 n56) (i64 0) = some FF) (h15 : loadA E0 s4 3 (.ptr w 2) = some (i64 n64)) (h16 : obC 18 [(i64 n64)] s4 (.tup [(str w65a), (i64 n65b)]) s5) (h17 : loadA E0 s5 23 (.ptr w 0) = some (.ptr p71 0)) (h18 : obC 24 [(.ptr p71 0), (str w65a), v24a] s5 (i64 n74) s6) (h19 : binA E0 .neq 29 (i64 n74) (i64 0) = some TT) : obC 8 [(.ptr w 0), x] st (.tup [(i64 0), (i64 n74)]) s6 := ACalls.run hE noOv_ok (f8_FTTFTFT_e st s1 s2 s3 s4 s5 s6 w p19 p71 x v24a n24b n33 n39 n43 n53 n56 n64 n65b n74 w65a) (Ob.ok_cons.2 ⟨⟨h1, rfl⟩, (Ob.ok_cons.2 ⟨h2, (Ob.ok_cons.2 ⟨h3, (Ob.ok_cons.2 ⟨⟨h4, rfl⟩, (Ob.ok_cons.2 ⟨h5, (Ob.ok_cons.2 ⟨⟨h6, rfl⟩, (Ob.ok_cons.2 ⟨h7, (Ob.ok_cons.2 ⟨h8, (Ob.ok_cons.2 ⟨h9, (Ob.ok_cons.2 ⟨h10, (Ob.ok_cons.2 ⟨⟨h11, rfl⟩, (Ob.ok_cons.2 ⟨h12, (Ob.ok_cons.2 ⟨h13, (Ob.ok_cons.2 ⟨h14, (Ob.ok_cons.2 ⟨⟨h15, rfl⟩, (Ob.ok_cons.2 ⟨h16, (Ob.ok_cons.2 ⟨⟨h17, rfl⟩, (Ob.ok_cons.2 ⟨h18, (Ob.ok_cons.2 ⟨h19, Ob.ok_nil⟩)⟩)⟩)⟩)⟩)⟩)⟩)⟩)⟩)⟩)⟩)⟩)⟩)⟩)⟩)⟩)⟩)⟩)⟩)
theorem f8_FTTFTFF_e (st s1 s2 s3 s4 s5 s6 s7 : St) (w p19 p71 : Nat) (x v24a : AV) (n24b n33 n39 n43 n53 n56 n64 n65b n74 n81 n82 n88 : Int) (w65a : ByteArray) : evCallS Tryd.prog E0 noOv (fun _ => [2019, 2033, 2039, 2053, 2064, 2071, 2081, 2088, 5000, 6009, 6018, 6022, 6023, 6024, 7028, 7034, 7040, 7045, 7054, 7058, 7076, 7082]) 100000 8 [(.ptr w 0), x] st [.eff (.ptr p19 0) id, .eff (.tup [v24a, (i64 n24b)]) (fun _ => s1), .av FF, .eff (i64 n33) id, .av TT, .eff (i64 n39) id, .av TT, .eff (i64 n43) (fun _ => s2), .av FF, .eff .undef (fun _ => s3), .eff (i64 n53) id, .av TT, .eff (i64 n56) (fun _ => s4), .av FF, .eff (i64 n64) id, .eff (.tup [(str w65a), (i64 n65b)]) (fun _ => s5), .eff (.ptr p71 0) id, .eff (i64 n74) (fun _ => s6), .av FF, .eff (i64 n81) id, .av (i64 n82), .eff .undef (fun _ => s7), .eff (i64 n88) id] = some ((.tup [(i64 n88), (i64 0)]), s7, [], [loadA E0 st 23 (.ptr w 0) = some (.ptr p19 0) ∧ st = st, obC 22 [x] st (.tup [v24a, (i64 n24b)]) s1, binA E0 .neq 29 (i64 n24b) (i64 0) = some FF, loadA E0 s1 3 (.ptr w 2) = some (i64 n33) ∧ s1 = s1, binA E0 .gtr 3 (i64 n33) (i64 0) = some TT, loadA E0 s1 3 (.ptr w 3) = some (i64 n39) ∧ s1 = s1, binA E0 .eql 3 (i64 n39) (i64 8) = some TT, obC 9 [(.ptr w 0)] s1 (i64 n43) s2, binA E0 .neq 29 (i64 n43) (i64 0) = some FF, storeA E0 s2 3 (.ptr w 2) (i64 0) = some s3, loadA E0 s3 3 (.ptr w 2) = some (i64 n53) ∧ s3 = s3, binA E0 .eql 3 (i64 n53) (i64 0) = some TT, obC 23 [(.ptr w 0)] s3 (i64 n56) s4, binA E0 .neq 29 (i64 n56) (i64 0) = some FF, loadA E0 s4 3 (.ptr w 2) = some (i64 n64) ∧ s4 = s4, obC 18 [(i64 n64)] s4 (.tup [(str w65a), (i64 n65b)]) s5, loadA E0 s5 23 (.ptr w 0) = some (.ptr p71 0) ∧ s5 = s5, obC 24 [(.ptr p71 0), (str w65a), v24a] s5 (i64 n74) s6, binA E0 .neq 29 (i64 n74) (i64 0) = some FF, loadA E0 s6 3 (.ptr w 3) = some (i64 n81) ∧ s6 = s6, binA E0 .add 3 (i64 n81) (i64 1) = some (i64 n82), storeA E0 s6 3 (.ptr w 3) (i64 n82) = some s7, loadA E0 s7 3 (.ptr w 2) = some (i64 n88) ∧ s7 = s7]) := by kernel_rfl
theorem f8_FTTFTFF {st s1 s2 s3 s4 s5 s6 s7 : St} {w p19 p71 : Nat} {x v24a : AV} {n24b n33 n39 n43 n53 n56 n64 n65b n74 n81 n82 n88 : Int} {w65a : ByteArray} (h1 : loadA E0 st 23 (.ptr w 0) = some (.ptr p19 0)) (h2 : obC 22 [x] st (.tup [v24a, (i64 n24b)]) s1) (h3 : binA E0 .neq 29 (i64 n24b) (i64 0) = some FF) (h4 : loadA E0 s1 3 (.ptr w 2) = some (i64 n33)) (h5 : binA E0 .gtr 3 (i64 n33) (i64 0) = some TT) (h6 : loadA E0 s1 3 (.ptr w 3) = some (i64 n39)) (h7 : binA E0 .eql 3 (i64 n39) (i64 8) = some TT) (h8 : obC 9 [(.ptr w 0)] s1 (i64 n43) s2) (h9 : binA E0 .neq 29 (i64 n43) (i64 0) = some FF) (h10 : storeA E0 s2 3 (.ptr w 2) (i64 0) = some s3) (h11 : loadA E0 s3 3 (.ptr w 2) = some (i64 n53)) (h12 : binA E0 .eql 3 (i64 n53) (i64 0) = some TT) (h13 : obC 23 [(.ptr w 0)] s3 (i64 n56) s4) (h14 : binA E0 .neq 29 (i64 n56) (i64 0) = some FF) (h15 : loadA E0 s4 3 (.ptr w 2) = some (i64 n64)) (h16 : obC 18 [(i64 n64)] s4 (.tup [(str w65a), (i64 n65b)]) s5) (h17 : loadA E0 s5 23 (.ptr w 0) = some (.ptr p71 0)) (h18 : obC 24 [(.ptr p71 0), (str w65a), v24a] s5 (i64 n74) s6) (h19 : binA E0 .neq 29 (i64 n74) (i64 0) = some FF) (h20 : loadA E0 s6 3 (.ptr w 3) = some (i64 n81)) (h21 : binA E0 .add 3 (i64 n81) (i64 1) = some (i64 n82)) (h22 : storeA E0 s6 3 (.ptr w 3) (i64 n82) = some s7) (h23 : loadA E0 s7 3 (.ptr w 2) = some (i64 n88)) : obC 8 [(.ptr w 0), x] st (.tup [(i64 n88), (i64 0)]) s7 := ACalls.run hE noOv_ok (f8_FTTFTFF_e st s1 s2 s3 s4 s5 s6 s7 w p19 p71 x v24a n24b n33 n39 n43 n53 n56 n64 n65b n74 n81 n82 n88 w65a) (Ob.ok_cons.2 ⟨⟨h1, rfl⟩, (Ob.ok_cons.2 ⟨h2, (Ob.ok_cons.2 ⟨h3, (Ob.ok_cons.2 ⟨⟨h4, rfl⟩, (Ob.ok_cons.2 ⟨h5, (Ob.ok_cons.2 ⟨⟨h6, rfl⟩, (Ob.ok_cons.2 ⟨h7, (Ob.ok_cons.2 ⟨h8, (Ob.ok_cons.2 ⟨h9, (Ob.ok_cons.2 ⟨h10, (Ob.ok_cons.2 ⟨⟨h11, rfl⟩, (Ob.ok_cons.2 ⟨h12, (Ob.ok_cons.2 ⟨h13, (Ob.ok_cons.2 ⟨h14, (Ob.ok_cons.2 ⟨⟨h15, rfl⟩, (Ob.ok_cons.2 ⟨h16, (Ob.ok_cons.2 ⟨⟨h17, rfl⟩, (Ob.ok_cons.2 ⟨h18, (Ob.ok_cons.2 ⟨h19, (Ob.ok_cons.2 ⟨⟨h20, rfl⟩, (Ob.ok_cons.2 ⟨h21, (Ob.ok_cons.2 ⟨h22, (Ob.ok_cons.2 ⟨⟨h23, rfl⟩, Ob.ok_nil⟩)⟩)⟩)⟩)⟩)⟩)⟩)⟩)⟩)⟩)⟩)⟩)⟩)⟩)⟩)⟩)⟩)⟩)⟩)⟩)⟩)⟩)⟩)
theorem f8_FTTFFT_e (st s1 s2 s3 s4 s5 : St) (w p19 p71 : Nat) (x v24a : AV) (n24b n33 n39 n43 n53 n64 n65b n74 : Int) (w65a : ByteArray) : evCallS Tryd.prog E0 noOv (fun _ => [2019, 2033, 2039, 2053, 2064, 2071, 2081, 2088, 5000, 6009, 6018, 6022, 6023, 6024, 7028, 7034, 7040, 7045, 7054, 7058, 7076, 7082]) 100000 8 [(.ptr w 0), x] st [.eff (.ptr p19 0) id, .eff (.tup [v24a, (i64 n24b)]) (fun _ => s1), .av FF, .eff (i64 n33) id, .av TT, .eff (i64 n39) id, .av TT, .eff (i64 n43) (fun _ => s2), .av FF, .eff .undef (fun _ => s3), .eff (i64 n53) id, .av FF, .eff (i64 n64) id, .eff (.tup [(str w65a), (i64 n65b)]) (fun _ => s4), .eff (.ptr p71 0) id, .eff (i64 n74) (fun _ => s5), .av TT] = some ((.tup [(i64 0), (i64 n74)]), s5, [], [loadA E0 st 23 (.ptr w 0) = some (.ptr p19 0) ∧ st = st, obC 22 [x] st (.tup [v24a, (i64 n24b)]) s1, binA E0 .neq 29 (i64 n24b) (i64 0) = some FF, loadA E0 s1 3 (.ptr w 2) = some (i64 n33) ∧ s1 = s1, binA E0 .gtr 3 (i64 n33) (i64 0) = some TT, loadA E0 s1 3 (.ptr w 3) = some (i64 n39) ∧ s1 = s1, binA E0 .eql 3 (i64 n39) (i64 8) = some TT, obC 9 [(.ptr w 0)] s1 (i64 n43) s2, binA E0 .neq 29 (i64 n43) (i64 0) = some FF, storeA E0 s2 3 (.ptr w 2) (i64 0) = some s3, loadA E0 s3 3 (.ptr w 2) = some (i64 n53) ∧ s3 = s3, binA E0 .eql 3 (i64 n53) (i64 0) = some FF, loadA E0 s3 3 (.ptr w 2) = some (i64 n64) ∧ s3 = s3, obC 18 [(i64 n64)] s3 (.tup [(str w65a), (i64 n65b)]) s4, loadA E0 s4 23 (.ptr w 0) = some (.ptr p71 0) ∧ s4 = s4, obC 24 [(.ptr p71 0), (str w65a), v24a] s4 (i64 n74) s5, binA E0 .neq 29 (i64 n74) (i64 0) = some TT]) := by kernel_rfl
theorem f8_FTTFFT {st s1 s2 s3 s4 s5 : St} {w p19 p71 : Nat} {x v24a : AV} {n24b n33 n39 n43 n53 n64 n65b n74 : Int} {w65a : ByteArray} (h1 : loadA E0 st 23 (.ptr w 0) = some (.ptr p19 0)) (h2 : obC 22 [x] st (.tup [v24a, (i64 n24b)]) s1) (h3 : binA E0 .neq 29 (i64 n24b) (i64 0) = some FF) (h4 : loadA E0 s1 3 (.ptr w 2) = some (i64 n33)) (h5 : binA E0 .gtr 3 (i64 n33) (i64 0) = some TT) (h6 : loadA E0 s1 3 (.ptr w 3) = some (i64 n39)) (h7 : binA E0 .eql 3 (i64 n39) (i64 8) = some TT) (h8 : obC 9 [(.ptr w 0)] s1 (i64 n43) s2) (h9 : binA E0 .neq 29 (i64 n43) (i64 0) = some FF) (h10 : storeA E0 s2 3 (.ptr w 2) (i64 0) = some s3) (h11 : loadA E0 s3 3 (.ptr w 2) = some (i64 n53)) (h12 : binA E0 .eql 3 (i64 n53) (i64 0) = some FF) (h13 : loadA E0 s3 3 (.ptr w 2) = some (i64 n64)) (h14 : obC 18 [(i64 n64)] s3 (.tup [(str w65a), (i64 n65b)]) s4) (h15 : loadA E0 s4 23 (.ptr w 0) = some (.ptr p71 0)) (h16 : obC 24 [(.ptr p71 0), (str w65a), v24a] s4 (i64 n74) s5) (h17 : binA E0 .neq 29 (i64 n74) (i64 0) = some TT) : obC 8 [(.ptr w 0), x] st (.tup [(i64 0), (i64 n74)]) s5 := ACalls.run hE noOv_ok (f8_FTTFFT_e st s1 s2 s3 s4 s5 w p19 p71 x v24a n24b n33 n39 n43 n53 n64 n65b n74 w65a) (Ob.ok_cons.2 ⟨⟨h1, rfl⟩, (Ob.ok_cons.2 ⟨h2, (Ob.ok_cons.2 ⟨h3, (Ob.ok_cons.2 ⟨⟨h4, rfl⟩, (Ob.ok_cons.2 ⟨h5, (Ob.ok_cons.2 ⟨⟨h6, rfl⟩, (Ob.ok_cons.2 ⟨h7, (Ob.ok_cons.2 ⟨h8, (Ob.ok_cons.2 ⟨h9, (Ob.ok_cons.2 ⟨h10, (Ob.ok_cons.2 ⟨⟨h11, rfl⟩, (Ob.ok_cons.2 ⟨h12, (Ob.ok_cons.2 ⟨⟨h13, rfl⟩, (Ob.ok_cons.2 ⟨h14, (Ob.ok_cons.2 ⟨⟨h15, rfl⟩, (Ob.ok_cons.2 ⟨h16, (Ob.ok_cons.2 ⟨h17, Ob.ok_nil⟩)⟩)⟩)⟩)⟩)⟩)⟩)⟩)⟩)⟩)⟩)⟩)⟩)⟩)⟩)⟩)⟩)
theorem f8_FTTFFF_e (st s1 s2 s3 s4 s5 s6 : St) (w p19 p71 : Nat) (x v24a : AV) (n24b n33 n39 n43 n53 n64 n65b n74 n81 n82 n88 : Int) (w65a : ByteArray) : evCallS Tryd.prog E0 noOv (fun _ => [2019, 2033, 2039, 2053, 2064, 2071, 2081, 2088, 5000, 6009, 6018, 6022, 6023, 6024, 7028, 7034, 7040, 7045, 7054, 7058, 7076, 7082]) 100000 8 [(.ptr w 0), x] st [.eff (.ptr p19 0) id, .eff (.tup [v24a, (i64 n24b)]) (fun _ => s1), .av FF, .eff (i64 n33) id, .av TT, .eff (i64 n39) id, .av TT, .eff (i64 n43) (fun _ => s2), .av FF, .eff .undef (fun _ => s3), .eff (i64 n53) id, .av FF, .eff (i64 n64) id, .eff (.tup [(str w65a), (i64 n65b)]) (fun _ => s4), .eff (.ptr p71 0) id, .eff (i64 n74) (fun _ => s5), .av FF, .eff (i64 n81) id, .av (i64 n82), .eff .undef (fun _ => s6), .eff (i64 n88) id] = some ((.tup [(i64 n88), (i64 0)]), s6, [], [loadA E0 st 23 (.ptr w 0) = some (.ptr p19 0) ∧ st = st, obC 22 [x] st (.tup [v24a, (i64 n24b)]) s1, binA E0 .neq 29 (i64 n24b) (i64 0) = some FF, loadA E0 s1 3 (.ptr w 2) = some (i64 n33) ∧ s1 = s1, binA E0 .gtr 3 (i64 n33) (i64 0) = some TT, loadA E0 s1 3 (.ptr w 3) = some (i64 n39) ∧ s1 = s1, binA E0 .eql 3 (i64 n39) (i64 8) = some TT, obC 9 [(.ptr w 0)] s1 (i64 n43) s2, binA E0 .neq 29 (i64 n43) (i64 0) = some FF, storeA E0 s2 3 (.ptr w 2) (i64 0) = some s3, loadA E0 s3 3 (.ptr w 2) = some (i64 n53) ∧ s3 = s3, binA E0 .eql 3 (i64 n53) (i64 0) = some FF, loadA E0 s3 3 (.ptr w 2) = some (i64 n64) ∧ s3 = s3, obC 18 [(i64 n64)] s3 (.tup [(str w65a), (i64 n65b)]) s4, loadA E0 s4 23 (.ptr w 0) = some (.ptr p71 0) ∧ s4 = s4, obC 24 [(.ptr p71 0), (str w65a), v24a] s4 (i64 n74) s5, binA E0 .neq 29 (i64 n74) (i64 0) = some FF, loadA E0 s5 3 (.ptr w 3) = some (i64 n81) ∧ s5 = s5, binA E0 .add 3 (i64 n81) (i64 1) = some (i64 n82), storeA E0 s5 3 (.ptr w 3) (i64 n82) = some s6, loadA E0 s6 3 (.ptr w 2) = some (i64 n88) ∧ s6 = s6]) := by kernel_rfl
theorem f8_FTTFFF {st s1 s2 s3 s4 s5 s6 : St} {w p19 p71 : Nat} {x v24a : AV} {n24b n33 n39 n43 n53 n64 n65b n74 n81 n82 n88 : Int} {w65a : ByteArray} (h1 : loadA E0 st 23 (.ptr w 0) = some (.ptr p19 0)) (h2 : obC 22 [x] st (.tup [v24a, (i64 n24b)]) s1) (h3 : binA E0 .neq 29 (i64 n24b) (i64 0) = some FF) (h4 : loadA E0 s1 3 (.ptr w 2) = some (i64 n33)) (h5 : binA E0 .gtr 3 (i64 n33) (i64 0) = some TT) (h6 : loadA E0 s1 3 (.ptr w 3) = some (i64 n39)) (h7 : binA E0 .eql 3 (i64 n39) (i64 8) = some TT) (h8 : obC 9 [(.ptr w 0)] s1 (i64 n43) s2) (h9 : binA E0 .neq 29 (i64 n43) (i64 0) = some FF) (h10 : storeA E0 s2 3 (.ptr w 2) (i64 0) = some s3) (h11 : loadA E0 s3 3 (.ptr w 2) = some (i64 n53)) (h12 : binA E0 .eql 3 (i64 n53) (i64 0) = some FF) (h13 : loadA E0 s3 3 (.ptr w 2) = some (i64 n64)) (h14 : obC 18 [(i64 n64)] s3 (.tup [(str w65a), (i64 n65b)]) s4) (h15 : loadA E0 s4 23 (.ptr w 0) = some (.ptr p71 0)) (h16 : obC 24 [(.ptr p71 0), (str w65a), v24a] s4 (i64 n74) s5) (h17 : binA E0 .neq 29 (i64 n74) (i64 0) = some FF) (h18 : loadA E0 s5 3 (.ptr w 3) = some (i64 n81)) (h19 : binA E0 .add 3 (i64 n81) (i64 1) = some (i64 n82)) (h20 : storeA E0 s5 3 (.ptr w 3) (i64 n82) = some s6) (h21 : loadA E0 s6 3 (.ptr w 2) = some (i64 n88)) : obC 8 [(.ptr w 0), x] st (.tup [(i64 n88), (i64 0)]) s6 := ACalls.run hE noOv_ok (f8_FTTFFF_e st s1 s2 s3 s4 s5 s6 w p19 p71 x v24a n24b n33 n39 n43 n53 n64 n65b n74 n81 n82 n88 w65a) (Ob.ok_cons.2 ⟨⟨h1, rfl⟩, (Ob.ok_cons.2 ⟨h2, (Ob.ok_cons.2 ⟨h3, (Ob.ok_cons.2 ⟨⟨h4, rfl⟩, (Ob.ok_cons.2 ⟨h5, (Ob.ok_cons.2 ⟨⟨h6, rfl⟩, (Ob.ok_cons.2 ⟨h7, (Ob.ok_cons.2 ⟨h8, (Ob.ok_cons.2 ⟨h9, (Ob.ok_cons.2 ⟨h10, (Ob.ok_cons.2 ⟨⟨h11, rfl⟩, (Ob.ok_cons.2 ⟨h12, (Ob.ok_cons.2 ⟨⟨h13, rfl⟩, (Ob.ok_cons.2 ⟨h14, (Ob.ok_cons.2 ⟨⟨h15, rfl⟩, (Ob.ok_cons.2 ⟨h16, (Ob.ok_cons.2 ⟨h17, (Ob.ok_cons.2 ⟨⟨h18, rfl⟩, (Ob.ok_cons.2 ⟨h19, (Ob.ok_cons.2 ⟨h20, (Ob.ok_cons.2 ⟨⟨h21, rfl⟩, Ob.ok_nil⟩)⟩)⟩)⟩)⟩)⟩)⟩)⟩)⟩)⟩)⟩)⟩)⟩)⟩)⟩)⟩)⟩)⟩)⟩)⟩)⟩)
theorem f8_FTFTT_e (st s1 s2 : St) (w p19 : Nat) (x v24a : AV) (n24b n33 n39 n53 n56 : Int) : evCallS Tryd.prog E0 noOv (fun _ => [2019, 2033, 2039, 2053, 2064, 2071, 2081, 2088, 5000, 6009, 6018, 6022, 6023, 6024, 7028, 7034, 7040, 7045, 7054, 7058, 7076, 7082]) 100000 8 [(.ptr w 0), x] st [.eff (.ptr p19 0) id, .eff (.tup [v24a, (i64 n24b)]) (fun _ => s1), .av FF, .eff (i64 n33) id, .av TT, .eff (i64 n39) id, .av FF, .eff (i64 n53) id, .av TT, .eff (i64 n56) (fun _ => s2), .av TT] = some ((.tup [(i64 0), (i64 n56)]), s2, [], [loadA E0 st 23 (.ptr w 0) = some (.ptr p19 0) ∧ st = st, obC 22 [x] st (.tup [v24a, (i64 n24b)]) s1, binA E0 .neq 29 (i64 n24b) (i64 0) = some FF, loadA E0 s1 3 (.ptr w 2) = some (i64 n33) ∧ s1 = s1, binA E0 .gtr 3 (i64 n33) (i64 0) = some TT, loadA E0 s1 3 (.ptr w 3) = some (i64 n39) ∧ s1 = s1, binA E0 .eql 3 (i64 n39) (i64 8) = some FF, loadA E0 s1 3 (.ptr w 2) = some (i64 n53) ∧ s1 = s1, binA E0 .eql 3 (i64 n53) (i64 0) = some TT, obC 23 [(.ptr w 0)] s1 (i64 n56) s2, binA E0 .neq 29 (i64 n56) (i64 0) = some TT]) := by kernel_rfl
theorem f8_FTFTT {st s1 s2 : St} {w p19 : Nat} {x v24a : AV} {n24b n33 n39 n53 n56 : Int} (h1 : loadA E0 st 23 (.ptr w 0) = some (.ptr p19 0)) (h2 : obC 22 [x] st (.tup [v24a, (i64 n24b)]) s1) (h3 : binA E0 .neq 29 (i64 n24b) (i64 0) = some FF) (h4 : loadA E0 s1 3 (.ptr w 2) = some (i64 n33)) (h5 : binA E0 .gtr 3 (i64 n33) (i64 0) = some TT) (h6 : loadA E0 s1 3 (.ptr w 3) = some (i64 n39)) (h7 : binA E0 .eql 3 (i64 n39) (i64 8) = some FF) (h8 : loadA E0 s1 3 (.ptr w 2) = some (i64 n53)) (h9 : binA E0 .eql 3 (i64 n53) (i64 0) = some TT) (h10 : obC 23 [(.ptr w 0)] s1 (i64 n56) s2) (h11 : binA E0 .neq 29 (i64 n56) (i64 0) = some TT) : obC 8 [(.ptr w 0), x] st (.tup [(i64 0), (i64 n56)]) s2 := ACalls.run hE noOv_ok (f8_FTFTT_e st s1 s2 w p19 x v24a n24b n33 n39 n53 n56) (Ob.ok_cons.2 ⟨⟨h1, rfl⟩, (Ob.ok_cons.2 ⟨h2, (Ob.ok_cons.2 ⟨h3, (Ob.ok_cons.2 ⟨⟨h4, rfl⟩, (Ob.ok_cons.2 ⟨h5, (Ob.ok_cons.2 ⟨⟨h6, rfl⟩, (Ob.ok_cons.2 ⟨h7, (Ob.ok_cons.2 ⟨⟨h8, rfl⟩, (Ob.ok_cons.2 ⟨h9, (Ob.ok_cons.2 ⟨h10, (Ob.ok_cons.2 ⟨h11, Ob.ok_nil⟩)⟩)⟩)⟩)⟩)⟩)⟩)⟩)⟩)⟩)⟩)
theorem f8_FTFTFT_e (st s1 s2 s3 s4 : St) (w p19 p71 : Nat) (x v24a : AV) (n24b n33 n39 n53 n56 n64 n65b n74 : Int) (w65a : ByteArray) : evCallS Tryd.prog E0 noOv (fun _ => [2019, 2033, 2039, 2053, 2064, 2071, 2081, 2088, 5000, 6009, 6018, 6022, 6023, 6024, 7028, 7034, 7040, 7045, 7054, 7058, 7076, 7082]) 100000 8 [(.ptr w 0), x] st [.eff (.ptr p19 0) id, .eff (.tup [v24a, (i64 n24b)]) (fun _ => s1), .av FF, .eff (i64 n33) id, .av TT, .eff (i64 n39) id, .av FF, .eff (i64 n53) id, .av TT, .eff (i64 n56) (fun _ => s2), .av FF, .eff (i64 n64) id, .eff (.tup [(str w65a), (i64 n65b)]) (fun _ => s3), .eff (.ptr p71 0) id, .eff (i64 n74) (fun _ => s4), .av TT] = some ((.tup [(i64 0), (i64 n74)]), s4, [], [loadA E0 st 23 (.ptr w 0) = some (.ptr p19 0) ∧ st = st, obC 22 [x] st (.tup [v24a, (i64 n24b)]) s1, binA E0 .neq 29 (i64 n24b) (i64 0) = some FF, loadA E0 s1 3 (.ptr w 2) = some (i64 n33) ∧ s1 = s1, binA E0 .gtr 3 (i64 n33) (i64 0) = some TT, loadA E0 s1 3 (.ptr w 3) = some (i64 n39) ∧ s1 = s1, binA E0 .eql 3 (i64 n39) (i64 8) = some FF, loadA E0 s1 3 (.ptr w 2) = some (i64 n53) ∧ s1 = s1, binA E0 .eql 3 (i64 n53) (i64 0) = some TT, obC 23 [(.ptr w 0)] s1 (i64 n56) s2, binA E0 .neq 29 (i64 n56) (i64 0) = some FF, loadA E0 s2 3 (.ptr w 2) = some (i64 n64) ∧ s2 = s2, obC 18 [(i64 n64)] s2 (.tup [(str w65a), (i64 n65b)]) s3, loadA E0 s3 23 (.ptr w 0) = some (.ptr p71 0) ∧ s3 = s3, obC 24 [(.ptr p71 0), (str w65a), v24a] s3 (i64 n74) s4, binA E0 .neq 29 (i64 n74) (i64 0) = some TT]) := by kernel_rfl
theorem f8_FTFTFT {st s1 s2 s3 s4 : St} {w p19 p71 : Nat} {x v24a : AV} {n24b n33 n39 n53 n56 n64 n65b n74 : Int} {w65a : ByteArray} (h1 : loadA E0 st 23 (.ptr w 0) = some (.ptr p19 0)) (h2 : obC 22 [x] st (.tup [v24a, (i64 n24b)]) s1) (h3 : binA E0 .neq 29 (i64 n24b) (i64 0) = some FF) (h4 : loadA E0 s1 3 (.ptr w 2) = some (i64 n33)) (h5 : binA E0 .gtr 3 (i64 n33) (i64 0) = some TT) (h6 : loadA E0 s1 3 (.ptr w 3) = some (i64 n39)) (h7 : binA E0 .eql 3 (i64 n39) (i64 8) = some FF) (h8 : loadA E0 s1 3 (.ptr w 2) = some (i64 n53)) (h9 : binA E0 .eql 3 (i64 n53) (i64 0) = some TT) (h10 : obC 23 [(.ptr w 0)] s1 (i64 n56) s2) (h11 : binA E0 .neq 29 (i64 n56) (i64 0) = some FF) (h12 : loadA E0 s2 3 (.ptr w 2) = some (i64 n64)) (h13 : obC 18 [(i64 n64)] s2 (.tup [(str w65a), (i64 n65b)]) s3) (h14 : loadA E0 s3 23 (.ptr w 0) = some (.ptr p71 0)) (h15 : obC 24 [(.ptr p71 0), (str w65a), v24a] s3 (i64 n74) s4) (h16 : binA E0 .neq 29 (i64 n74) (i64 0) = some TT) : obC 8 [(.ptr w 0), x] st (.tup [(i64 0), (i64 n74)]) s4 := ACalls.run hE noOv_ok (f8_FTFTFT_e st s1 s2 s3 s4 w p19 p71 x v24a n24b n33 n39 n53 n56 n64 n65b n74 w65a) (Ob.ok_cons.2 ⟨⟨h1, rfl⟩, (Ob.ok_cons.2 ⟨h2, (Ob.ok_cons.2 ⟨h3, (Ob.ok_cons.2 ⟨⟨h4, rfl⟩, (Ob.ok_cons.2 ⟨h5, (Ob.ok_cons.2 ⟨⟨h6, rfl⟩, (Ob.ok_cons.2 ⟨h7, (Ob.ok_cons.2 ⟨⟨h8, rfl⟩, (Ob.ok_cons.2 ⟨h9, (Ob.ok_cons.2 ⟨h10, (Ob.ok_cons.2 ⟨h11, (Ob.ok_cons.2 ⟨⟨h12, rfl⟩, (Ob.ok_cons.2 ⟨h13, (Ob.ok_cons.2 ⟨⟨h14, rfl⟩, (Ob.ok_cons.2 ⟨h15, (Ob.ok_cons.2 ⟨h16, Ob.ok_nil⟩)⟩)⟩)⟩)⟩)⟩)⟩)⟩)⟩)⟩)⟩)⟩)⟩)⟩)⟩)⟩)
theorem f8_FTFTFF_e (st s1 s2 s3 s4 s5 : St) (w p19 p71 : Nat) (x v24a : AV) (n24b n33 n39 n53 n56 n64 n65b n74 n81 n82 n88 : Int) (w65a : ByteArray) : evCallS Tryd.prog E0 noOv (fun _ => [2019, 2033, 2039, 2053, 2064, 2071, 2081, 2088, 5000, 6009, 6018, 6022, 6023, 6024, 7028, 7034, 7040, 7045, 7054, 7058, 7076, 7082]) 100000 8 [(.ptr w 0), x] st [.eff (.ptr p19 0) id, .eff (.tup [v24a, (i64 n24b)]) (fun _ => s1), .av FF, .eff (i64 n33) id, .av TT, .eff (i64 n39) id, .av FF, .eff (i64 n53) id, .av TT, .eff (i64 n56) (fun _ => s2), .av FF, .eff (i64 n64) id, .eff (.tup [(str w65a), (i64 n65b)]) (fun _ => s3), .eff (.ptr p71 0) id, .eff (i64 n74) (fun _ => s4), .av FF, .eff (i64 n81) id, .av (i64 n82), .eff .undef (fun _ => s5), .eff (i64 n88) id] = some ((.tup [(i64 n88), (i64 0)]), s5, [], [loadA E0 st 23 (.ptr w 0) = some (.ptr p19 0) ∧ st = st, obC 22 [x] st (.tup [v24a, (i64 n24b)]) s1, binA E0 .neq 29 (i64 n24b) (i64 0) = some FF, loadA E0 s1 3 (.ptr w 2) = some (i64 n33) ∧ s1 = s1, binA E0 .gtr 3 (i64 n33) (i64 0) = some TT, loadA E0 s1 3 (.ptr w 3) = some (i64 n39) ∧ s1 = s1, binA E0 .eql 3 (i64 n39) (i64 8) = some FF, loadA E0 s1 3 (.ptr w 2) = some (i64 n53) ∧ s1 = s1, binA E0 .eql 3 (i64 n53) (i64 0) = some TT, obC 23 [(.ptr w 0)] s1 (i64 n56) s2, binA E0 .neq 29 (i64 n56) (i64 0) = some FF, loadA E0 s2 3 (.ptr w 2) = some (i64 n64) ∧ s2 = s2, obC 18 [(i64 n64)] s2 (.tup [(str w65a), (i64 n65b)]) s3, loadA E0 s3 23 (.ptr w 0) = some (.ptr p71 0) ∧ s3 = s3, obC 24 [(.ptr p71 0), (str w65a), v24a] s3 (i64 n74) s4, binA E0 .neq 29 (i64 n74) (i64 0) = some FF, loadA E0 s4 3 (.ptr w 3) = some (i64 n81) ∧ s4 = s4, binA E0 .add 3 (i64 n81) (i64 1) = some (i64 n82), storeA E0 s4 3 (.ptr w 3) (i64 n82) = some s5, loadA E0 s5 3 (.ptr w 2) = some (i64 n88) ∧ s5 = s5]) := by kernel_rfl
theorem f8_FTFTFF {st s1 s2 s3 s4 s5 : St} {w p19 p71 : Nat} {x v24a : AV} {n24b n33 n39 n53 n56 n64 n65b n74 n81 n82 n88 : Int} {w65a : ByteArray} (h1 : loadA E0 st 23 (.ptr w 0) = some (.ptr p19 0)) (h2 : obC 22 [x] st (.tup [v24a, (i64 n24b)]) s1) (h3 : binA E0 .neq 29 (i64 n24b) (i64 0) = some FF) (h4 : loadA E0 s1 3 (.ptr w 2) = some (i64 n33)) (h5 : binA E0 .gtr 3 (i64 n33) (i64 0) = some TT) (h6 : loadA E0 s1 3 (.ptr w 3) = some (i64 n39)) (h7 : binA E0 .eql 3 (i64 n39) (i64 8) = some FF) (h8 : loadA E0 s1 3 (.ptr w 2) = some (i64 n53)) (h9 : binA E0 .eql 3 (i64 n53) (i64 0) = some TT) (h10 : obC 23 [(.ptr w 0)] s1 (i64 n56) s2) (h11 : binA E0 .neq 29 (i64 n56) (i64 0) = some FF) (h12 : loadA E0 s2 3 (.ptr w 2) = some (i64 n64)) (h13 : obC 18 [(i64 n64)] s2 (.tup [(str w65a), (i64 n65b)]) s3) (h14 : loadA E0 s3 23 (.ptr w 0) = some (.ptr p71 0)) (h15 : obC 24 [(.ptr p71 0), (str w65a), v24a] s3 (i64 n74) s4) (h16 : binA E0 .neq 29 (i64 n74) (i64 0) = some FF) (h17 : loadA E0 s4 3 (.ptr w 3) = some (i64 n81)) (h18 : binA E0 .add 3 (i64 n81) (i64 1) = some (i64 n82)) (h19 : storeA E0 s4 3 (.ptr w 3) (i64 n82) = some s5) (h20 : loadA E0 s5 3 (.ptr w 2) = some (i64 n88)) : obC 8 [(.ptr w 0), x] st (.tup [(i64 n88), (i64 0)]) s5 := ACalls.run hE noOv_ok (f8_FTFTFF_e st s1 s2 s3 s4 s5 w p19 p71 x v24a n24b n33 n39 n53 n56 n64 n65b n74 n81 n82 n88 w65a) (Ob.ok_cons.2 ⟨⟨h1, rfl⟩, (Ob.ok_cons.2 ⟨h2, (Ob.ok_cons.2 ⟨h3, (Ob.ok_cons.2 ⟨⟨h4, rfl⟩, (Ob.ok_cons.2 ⟨h5, (Ob.ok_cons.2 ⟨⟨h6, rfl⟩, (Ob.ok_cons.2 ⟨h7, (Ob.ok_cons.2 ⟨⟨h8, rfl⟩, (Ob.ok_cons.2 ⟨h9, (Ob.ok_cons.2 ⟨h10, (Ob.ok_cons.2 ⟨h11, (Ob.ok_cons.2 ⟨⟨h12, rfl⟩, (Ob.ok_cons.2 ⟨h13, (Ob.ok_cons.2 ⟨⟨h14, rfl⟩, (Ob.ok_cons.2 ⟨h15, (Ob.ok_cons.2 ⟨h16, (Ob.ok_cons.2 ⟨⟨h17, rfl⟩, (Ob.ok_cons.2 ⟨h18, (Ob.ok_cons.2 ⟨h19, (Ob.ok_cons.2 ⟨⟨h20, rfl⟩, Ob.ok_nil⟩)⟩)⟩)⟩)⟩)⟩)⟩)⟩)⟩)⟩)⟩)⟩)⟩)⟩)⟩)⟩)⟩)⟩)⟩)⟩)
theorem f8_FTFFT_e (st s1 s2 s3 : St) (w p19 p71 : Nat) (x v24a : AV) (n24b n33 n39 n53 n64 n65b n74 : Int) (w65a : ByteArray) : evCallS Tryd.prog E0 noOv (fun _ => [2019, 2033, 2039, 2053, 2064, 2071, 2081, 2088, 5000, 6009, 6018, 6022, 6023, 6024, 7028, 7034, 7040, 7045, 7054, 7058, 7076, 7082]) 100000 8 [(.ptr w 0), x] st [.eff (.ptr p19 0) id, .eff (.tup [v24a, (i64 n24b)]) (fun _ => s1), .av FF, .eff (i64 n33) id, .av TT, .eff (i64 n39) id, .av FF, .eff (i64 n53) id, .av FF, .eff (i64 n64) id, .eff (.tup [(str w65a), (i64 n65b)]) (fun _ => s2), .eff (.ptr p71 0) id, .eff (i64 n74) (fun _ => s3), .av TT] = some ((.tup [(i64 0), (i64 n74)]), s3, [], [loadA E0 st 23 (.ptr w 0) = some (.ptr p19 0) ∧ st = st, obC 22 [x] st (.tup [v24a, (i64 n24b)]) s1, binA E0 .neq 29 (i64 n24b) (i64 0) = some FF, loadA E0 s1 3 (.ptr w 2) = some (i64 n33) ∧ s1 = s1, binA E0 .gtr 3 (i64 n33) (i64 0) = some TT, loadA E0 s1 3 (.ptr w 3) = some (i64 n39) ∧ s1 = s1, binA E0 .eql 3 (i64 n39) (i64 8) = some FF, loadA E0 s1 3 (.ptr w 2) = some (i64 n53) ∧ s1 = s1, binA E0 .eql 3 (i64 n53) (i64 0) = some FF, loadA E0 s1 3 (.ptr w 2) = some (i64 n64) ∧ s1 = s1, obC 18 [(i64 n64)] s1 (.tup [(str w65a), (i64 n65b)]) s2, loadA E0 s2 23 (.ptr w 0) = some (.ptr p71 0) ∧ s2 = s2, obC 24 [(.ptr p71 0), (str w65a), v24a] s2 (i64 n74) s3, binA E0 .neq 29 (i64 n74) (i64 0) = some TT]) := by kernel_rfl
theorem f8_FTFFT {st s1 s2 s3 : St} {w p19 p71 : Nat} {x v24a : AV} {n24b n33 n39 n53 n64 n65b n74 : Int} {w65a : ByteArray} (h1 : loadA E0 st 23 (.ptr w 0) = some (.ptr p19 0)) (h2 : obC 22 [x] st (.tup [v24a, (i64 n24b)]) s1) (h3 : binA E0 .neq 29 (i64 n24b) (i64 0) = some FF) (h4 : loadA E0 s1 3 (.ptr w 2) = some (i64 n33)) (h5 : binA E0 .gtr 3 (i64 n33) (i64 0) = some TT) (h6 : loadA E0 s1 3 (.ptr w 3) = some (i64 n39)) (h7 : binA E0 .eql 3 (i64 n39) (i64 8) = some FF) (h8 : loadA E0 s1 3 (.ptr w 2) = some (i64 n53)) (h9 : binA E0 .eql 3 (i64 n53) (i64 0) = some FF) (h10 : loadA E0 s1 3 (.ptr w 2) = some (i64 n64)) (h11 : obC 18 [(i64 n64)] s1 (.tup [(str w65a), (i64 n65b)]) s2) (h12 : loadA E0 s2 23 (.ptr w 0) = some (.ptr p71 0)) (h13 : obC 24 [(.ptr p71 0), (str w65a), v24a] s2 (i64 n74) s3) (h14 : binA E0 .neq 29 (i64 n74) (i64 0) = some TT) : obC 8 [(.ptr w 0), x] st (.tup [(i64 0), (i64 n74)]) s3 := ACalls.run hE noOv_ok (f8_FTFFT_e st s1 s2 s3 w p19 p71 x v24a n24b n33 n39 n53 n64 n65b n74 w65a) (Ob.ok_cons.2 ⟨⟨h1, rfl⟩, (Ob.ok_cons.2 ⟨h2, (Ob.ok_cons.2 ⟨h3, (Ob.ok_cons.2 ⟨⟨h4, rfl⟩, (Ob.ok_cons.2 ⟨h5, (Ob.ok_cons.2 ⟨⟨h6, rfl⟩, (Ob.ok_cons.2 ⟨h7, (Ob.ok_cons.2 ⟨⟨h8, rfl⟩, (Ob.ok_cons.2 ⟨h9, (Ob.ok_cons.2 ⟨⟨h10, rfl⟩, (Ob.ok_cons.2 ⟨h11, (Ob.ok_cons.2 ⟨⟨h12, rfl⟩, (Ob.ok_cons.2 ⟨h13, (Ob.ok_cons.2 ⟨h14, Ob.ok_nil⟩)⟩)⟩)⟩)⟩)⟩)⟩)⟩)⟩)⟩)⟩)⟩)⟩)⟩)
theorem f8_FTFFF_e (st s1 s2 s3 s4 : St) (w p19 p71 : Nat) (x v24a : AV) (n24b n33 n39 n53 n64 n65b n74 n81 n82 n88 : Int) (w65a : ByteArray) : evCallS Tryd.prog E0 noOv (fun _ => [2019, 2033, 2039, 2053, 2064, 2071, 2081, 2088, 5000, 6009, 6018, 6022, 6023, 6024, 7028, 7034, 7040, 7045, 7054, 7058, 7076, 7082]) 100000 8 [(.ptr w 0), x] st [.eff (.ptr p19 0) id, .eff (.tup [v24a, (i64 n24b)]) (fun _ => s1), .av FF, .eff (i64 n33) id, .av TT, .eff (i64 n39) id, .av FF, .eff (i64 n53) id, .av FF, .eff (i64 n64) id, .eff (.tup [(str w65a), (i64 n65b)]) (fun _ => s2), .eff (.ptr p71 0) id, .eff (i64 n74) (fun _ => s3), .av FF, .eff (i64 n81) id, .av (i64 n82), .eff .undef (fun _ => s4), .eff (i64 n88) id] = some ((.tup [(i64 n88), (i64 0)]), s4, [], [loadA E0 st 23 (.ptr w 0) = some (.ptr p19 0) ∧ st = st, obC 22 [x] st (.tup [v24a, (i64 n24b)]) s1, binA E0 .neq 29 (i64 n24b) (i64 0) = some FF, loadA E0 s1 3 (.ptr w 2) = some (i64 n33) ∧ s1 = s1, binA E0 .gtr 3 (i64 n33) (i64 0) = some TT, loadA E0 s1 3 (.ptr w 3) = some (i64 n39) ∧ s1 = s1, binA E0 .eql 3 (i64 n39) (i64 8) = some FF, loadA E0 s1 3 (.ptr w 2) = some (i64 n53) ∧ s1 = s1, binA E0 .eql 3 (i64 n53) (i64 0) = some FF, loadA E0 s1 3 (.ptr w 2) = some (i64 n64) ∧ s1 = s1, obC 18 [(i64 n64)] s1 (.tup [(str w65a), (i64 n65b)]) s2, loadA E0 s2 23 (.ptr w 0) = some (.ptr p71 0) ∧ s2 = s2, obC 24 [(.ptr p71 0), (str w65a), v24a] s2 (i64 n74) s3, binA E0 .neq 29 (i64 n74) (i64 0) = some FF, loadA E0 s3 3 (.ptr w 3) = some (i64 n81) ∧ s3 = s3, binA E0 .add 3 (i64 n81) (i64 1) = some (i64 n82), storeA E0 s3 3 (.ptr w 3) (i64 n82) = some s4, loadA E0 s4 3 (.ptr w 2) = some (i64 n88) ∧ s4 = s4]) := by kernel_rfl
theorem f8_FTFFF {st s1 s2 s3 s4 : St} {w p19 p71 : Nat} {x v24a : AV} {n24b n33 n39 n53 n64 n65b n74 n81 n82 n88 : Int} {w65a : ByteArray} (h1 : loadA E0 st 23 (.ptr w 0) = some (.ptr p19 0)) (h2 : obC 22 [x] st (.tup [v24a, (i64 n24b)]) s1) (h3 : binA E0 .neq 29 (i64 n24b) (i64 0) = some FF) (h4 : loadA E0 s1 3 (.ptr w 2) = some (i64 n33)) (h5 : binA E0 .gtr 3 (i64 n33) (i64 0) = some TT) (h6 : loadA E0 s1 3 (.ptr w 3) = some (i64 n39)) (h7 : binA E0 .eql 3 (i64 n39) (i64 8) = some FF) (h8 : loadA E0 s1 3 (.ptr w 2) = some (i64 n53)) (h9 : binA E0 .eql 3 (i64 n53) (i64 0) = some FF) (h10 : loadA E0 s1 3 (.ptr w 2) = some (i64 n64)) (h11 : obC 18 [(i64 n64)] s1 (.tup [(str w65a), (i64 n65b)]) s2) (h12 : loadA E0 s2 23 (.ptr w 0) = some (.ptr p71 0)) (h13 : obC 24 [(.ptr p71 0), (str w65a), v24a] s2 (i64 n74) s3) (h14 : binA E0 .neq 29 (i64 n74) (i64 0) = some FF) (h15 : loadA E0 s3 3 (.ptr w 3) = some (i64 n81)) (h16 : binA E0 .add 3 (i64 n81) (i64 1) = some (i64 n82)) (h17 : storeA E0 s3 3 (.ptr w 3) (i64 n82) = some s4) (h18 : loadA E0 s4 3 (.ptr w 2) = some (i64 n88)) : obC 8 [(.ptr w 0), x] st (.tup [(i64 n88), (i64 0)]) s4 := ACalls.run hE noOv_ok (f8_FTFFF_e st s1 s2 s3 s4 w p19 p71 x v24a n24b n33 n39 n53 n64 n65b n74 n81 n82 n88 w65a) (Ob.ok_cons.2 ⟨⟨h1, rfl⟩, (Ob.ok_cons.2 ⟨h2, (Ob.ok_cons.2 ⟨h3, (Ob.ok_cons.2 ⟨⟨h4, rfl⟩, (Ob.ok_cons.2 ⟨h5, (Ob.ok_cons.2 ⟨⟨h6, rfl⟩, (Ob.ok_cons.2 ⟨h7, (Ob.ok_cons.2 ⟨⟨h8, rfl⟩, (Ob.ok_cons.2 ⟨h9, (Ob.ok_cons.2 ⟨⟨h10, rfl⟩, (Ob.ok_cons.2 ⟨h11, (Ob.ok_cons.2 ⟨⟨h12, rfl⟩, (Ob.ok_cons.2 ⟨h13, (Ob.ok_cons.2 ⟨h14, (Ob.ok_cons.2 ⟨⟨h15, rfl⟩, (Ob.ok_cons.2 ⟨h16, (Ob.ok_cons.2 ⟨h17, (Ob.ok_cons.2 ⟨⟨h18, rfl⟩, Ob.ok_nil⟩)⟩)⟩)⟩)⟩)⟩)⟩)⟩)⟩)⟩)⟩)⟩)⟩)⟩)⟩)⟩)⟩)⟩)
theorem f8_FFTT_e (st s1 s2 : St) (w p19 : Nat) (x v24a : AV) (n24b n33 n53 n56 : Int) : evCallS Tryd.prog E0 noOv (fun _ => [2019, 2033, 2039, 2053, 2064, 2071, 2081, 2088, 5000, 6009, 6018, 6022, 6023, 6024, 7028, 7034, 7040, 7045, 7054, 7058, 7076, 7082]) 100000 8 [(.ptr w 0), x] st [.eff (.ptr p19 0) id, .eff (.tup [v24a, (i64 n24b)]) (fun _ => s1), .av FF, .eff (i64 n33) id, .av FF, .eff (i64 n53) id, .av TT, .eff (i64 n56) (fun _ => s2), .av TT] = some ((.tup [(i64 0), (i64 n56)]), s2, [], [loadA E0 st 23 (.ptr w 0) = some (.ptr p19 0) ∧ st = st, obC 22 [x] st (.tup [v24a, (i64 n24b)]) s1, binA E0 .neq 29 (i64 n24b) (i64 0) = some FF, loadA E0 s1 3 (.ptr w 2) = some (i64 n33) ∧ s1 = s1, binA E0 .gtr 3 (i64 n33) (i64 0) = some FF, loadA E0 s1 3 (.ptr w 2) = some (i64 n53) ∧ s1 = s1, binA E0 .eql 3 (i64 n53) (i64 0) = some TT, obC 23 [(.ptr w 0)] s1 (i64 n56) s2, binA E0 .neq 29 (i64 n56) (i64 0) = some TT]) := by kernel_rfl
theorem f8_FFTT {st s1 s2 : St} {w p19 : Nat} {x v24a : AV} {n24b n33 n53 n56 : Int} (h1 : loadA E0 st 23 (.ptr w 0) = some (.ptr p19 0)) (h2 : obC 22 [x] st (.tup [v24a, (i64 n24b)]) s1) (h3 : binA E0 .neq 29 (i64 n24b) (i64 0) = some FF) (h4 : loadA E0 s1 3 (.ptr w 2) = some (i64 n33)) (h5 : binA E0 .gtr 3 (i64 n33) (i64 0) = some FF) (h6 : loadA E0 s1 3 (.ptr w 2) = some (i64 n53)) (h7 : binA E0 .eql 3 (i64 n53) (i64 0) = some TT) (h8 : obC 23 [(.ptr w 0)] s1 (i64 n56) s2) (h9 : binA E0 .neq 29 (i64 n56) (i64 0) = some TT) : obC 8 [(.ptr w 0), x] st (.tup [(i64 0), (i64 n56)]) s2 := ACalls.run hE noOv_ok (f8_FFTT_e st s1 s2 w p19 x v24a n24b n33 n53 n56) (Ob.ok_cons.2 ⟨⟨h1, rfl⟩, (Ob.ok_cons.2 ⟨h2, (Ob.ok_cons.2 ⟨h3, (Ob.ok_cons.2 ⟨⟨h4, rfl⟩, (Ob.ok_cons.2 ⟨h5, (Ob.ok_cons.2 ⟨⟨h6, rfl⟩, (Ob.ok_cons.2 ⟨h7, (Ob.ok_cons.2 ⟨h8, (Ob.ok_cons.2 ⟨h9, Ob.ok_nil⟩)⟩)⟩)⟩)⟩)⟩)⟩)⟩)⟩)
theorem f8_FFTFT_e (st s1 s2 s3 s4 : St) (w p19 p71 : Nat) (x v24a : AV) (n24b n33 n53 n56 n64 n65b n74 : Int) (w65a : ByteArray) : evCallS Tryd.prog E0 noOv (fun _ => [2019, 2033, 2039, 2053, 2064, 2071, 2081, 2088, 5000, 6009, 6018, 6022, 6023, 6024, 7028, 7034, 7040, 7045, 7054, 7058, 7076, 7082]) 100000 8 [(.ptr w 0), x] st [.eff (.ptr p19 0) id, .eff (.tup [v24a, (i64 n24b)]) (fun _ => s1), .av FF, .eff (i64 n33) id, .av FF, .eff (i64 n53) id, .av TT, .eff (i64 n56) (fun _ => s2), .av FF, .eff (i64 n64) id, .eff (.tup [(str w65a), (i64 n65b)]) (fun _ => s3), .eff (.ptr p71 0) id, .eff (i64 n74) (fun _ => s4), .av TT] = some ((.tup [(i64 0), (i64 n74)]), s4, [], [loadA E0 st 23 (.ptr w 0) = some (.ptr p19 0) ∧ st = st, obC 22 [x] st (.tup [v24a, (i64 n24b)]) s1, binA E0 .neq 29 (i64 n24b) (i64 0) = some FF, loadA E0 s1 3 (.ptr w 2) = some (i64 n33) ∧ s1 = s1, binA E0 .gtr 3 (i64 n33) (i64 0) = some FF, loadA E0 s1 3 (.ptr w 2) = some (i64 n53) ∧ s1 = s1, binA E0 .eql 3 (i64 n53) (i64 0) = some TT, obC 23 [(.ptr w 0)] s1 (i64 n56) s2, binA E0 .neq 29 (i64 n56) (i64 0) = some FF, loadA E0 s2 3 (.ptr w 2) = some (i64 n64) ∧ s2 = s2, obC 18 [(i64 n64)] s2 (.tup [(str w65a), (i64 n65b)]) s3, loadA E0 s3 23 (.ptr w 0) = some (.ptr p71 0) ∧ s3 = s3, obC 24 [(.ptr p71 0), (str w65a), v24a] s3 (i64 n74) s4, binA E0 .neq 29 (i64 n74) (i64 0) = some TT]) := by kernel_rfl
theorem f8_FFTFT {st s1 s2 s3 s4 : St} {w p19 p71 : Nat} {x v24a : AV} {n24b n33 n53 n56 n64 n65b n74 : Int} {w65a : ByteArray} (h1 : loadA E0 st 23 (.ptr w 0) = some (.ptr p19 0)) (h2 : obC 22 [x] st (.tup [v24a, (i64 n24b)]) s1) (h3 : binA E0 .neq 29 (i64 n24b) (i64 0) = some FF) (h4 : loadA E0 s1 3 (.ptr w 2) = some (i64 n33)) (h5 : binA E0 .gtr 3 (i64 n33) (i64 0) = some FF) (h6 : loadA E0 s1 3 (.ptr w 2) = some (i64 n53)) (h7 : binA E0 .eql 3 (i64 n53) (i64 0) = some TT) (h8 : obC 23 [(.ptr w 0)] s1 (i64 n56) s2) (h9 : binA E0 .neq 29 (i64 n56) (i64 0) = some FF) (h10 : loadA E0 s2 3 (.ptr w 2) = some (i64 n64)) (h11 : obC 18 [(i64 n64)] s2 (.tup [(str w65a), (i64 n65b)]) s3) (h12 : loadA E0 s3 23 (.ptr w 0) = some (.ptr p71 0)) (h13 : obC 24 [(.ptr p71 0), (str w65a), v24a] s3 (i64 n74) s4) (h14 : binA E0 .neq 29 (i64 n74) (i64 0) = some TT) : obC 8 [(.ptr w 0), x] st (.tup [(i64 0), (i64 n74)]) s4 := ACalls.run hE noOv_ok (f8_FFTFT_e st s1 s2 s3 s4 w p19 p71 x v24a n24b n33 n53 n56 n64 n65b n74 w65a) (Ob.ok_cons.2 ⟨⟨h1, rfl⟩, (Ob.ok_cons.2 ⟨h2, (Ob.ok_cons.2 ⟨h3, (Ob.ok_cons.2 ⟨⟨h4, rfl⟩, (Ob.ok_cons.2 ⟨h5, (Ob.ok_cons.2 ⟨⟨h6, rfl⟩, (Ob.ok_cons.2 ⟨h7, (Ob.ok_cons.2 ⟨h8, (Ob.ok_cons.2 ⟨h9, (Ob.ok_cons.2 ⟨⟨h10, rfl⟩, (Ob.ok_cons.2 ⟨h11, (Ob.ok_cons.2 ⟨⟨h12, rfl⟩, (Ob.ok_cons.2 ⟨h13, (Ob.ok_cons.2 ⟨h14, Ob.ok_nil⟩)⟩)⟩)⟩)⟩)⟩)⟩)⟩)⟩)⟩)⟩)⟩)⟩)⟩)
theorem f8_FFTFF_e (st s1 s2 s3 s4 s5 : St) (w p19 p71 : Nat) (x v24a : AV) (n24b n33 n53 n56 n64 n65b n74 n81 n82 n88 : Int) (w65a : ByteArray) : evCallS Tryd.prog E0 noOv (fun _ => [2019, 2033, 2039, 2053, 2064, 2071, 2081, 2088, 5000, 6009, 6018, 6022, 6023, 6024, 7028, 7034, 7040, 7045, 7054, 7058, 7076, 7082]) 100000 8 [(.ptr w 0), x] st [.eff (.ptr p19 0) id, .eff (.tup [v24a, (i64 n24b)]) (fun _ => s1), .av FF, .eff (i64 n33) id, .av FF, .eff (i64 n53) id, .av TT, .eff (i64 n56) (fun _ => s2), .av FF, .eff (i64 n64) id, .eff (.tup [(str w65a), (i64 n65b)]) (fun _ => s3), .eff (.ptr p71 0) id, .eff (i64 n74) (fun _ => s4), .av FF, .eff (i64 n81) id, .av (i64 n82), .eff .undef (fun _ => s5), .eff (i64 n88) id] = some ((.tup [(i64 n88), (i64 0)]), s5, [], [loadA E0 st 23 (.ptr w 0) = some (.ptr p19 0) ∧ st = st, obC 22 [x] st (.tup [v24a, (i64 n24b)]) s1, binA E0 .neq 29 (i64 n24b) (i64 0) = some FF, loadA E0 s1 3 (.ptr w 2) = some (i64 n33) ∧ s1 = s1, binA E0 .gtr 3 (i64 n33) (i64 0) = some FF, loadA E0 s1 3 (.ptr w 2) = some (i64 n53) ∧ s1 = s1, binA E0 .eql 3 (i64 n53) (i64 0) = some TT, obC 23 [(.ptr w 0)] s1 (i64 n56) s2, binA E0 .neq 29 (i64 n56) (i64 0) = some FF, loadA E0 s2 3 (.ptr w 2) = some (i64 n64) ∧ s2 = s2, obC 18 [(i64 n64)] s2 (.tup [(str w65a), (i64 n65b)]) s3, loadA E0 s3 23 (.ptr w 0) = some (.ptr p71 0) ∧ s3 = s3, obC 24 [(.ptr p71 0), (str w65a), v24a] s3 (i64 n74) s4, binA E0 .neq 29 (i64 n74) (i64 0) = some FF, loadA E0 s4 3 (.ptr w 3) = some (i64 n81) ∧ s4 = s4, binA E0 .add 3 (i64 n81) (i64 1) = some (i64 n82), storeA E0 s4 3 (.ptr w 3) (i64 n82) = some s5, loadA E0 s5 3 (.ptr w 2) = some (i64 n88) ∧ s5 = s5]) := by kernel_rfl
theorem f8_FFTFF {st s1 s2 s3 s4 s5 : St} {w p19 p71 : Nat} {x v24a : AV} {n24b n33 n53 n56 n64 n65b n74 n81 n82 n88 : Int} {w65a : ByteArray} (h1 : loadA E0 st 23 (.ptr w 0) = some (.ptr p19 0)) (h2 : obC 22 [x] st (.tup [v24a, (i64 n24b)]) s1) (h3 : binA E0 .neq 29 (i64 n24b) (i64 0) = some FF) (h4 : loadA E0 s1 3 (.ptr w 2) = some (i64 n33)) (h5 : binA E0 .gtr 3 (i64 n33) (i64 0) = some FF) (h6 : loadA E0 s1 3 (.ptr w 2) = some (i64 n53)) (h7 : binA E0 .eql 3 (i64 n53) (i64 0) = some TT) (h8 : obC 23 [(.ptr w 0)] s1 (i64 n56) s2) (h9 : binA E0 .neq 29 (i64 n56) (i64 0) = some FF) (h10 : loadA E0 s2 3 (.ptr w 2) = some (i64 n64)) (h11 : obC 18 [(i64 n64)] s2 (.tup [(str w65a), (i64 n65b)]) s3) (h12 : loadA E0 s3 23 (.ptr w 0) = some (.ptr p71 0)) (h13 : obC 24 [(.ptr p71 0), (str w65a), v24a] s3 (i64 n74) s4) (h14 : binA E0 .neq 29 (i64 n74) (i64 0) = some FF) (h15 : loadA E0 s4 3 (.ptr w 3) = some (i64 n81)) (h16 : binA E0 .add 3 (i64 n81) (i64 1) = some (i64 n82)) (h17 : storeA E0 s4 3 (.ptr w 3) (i64 n82) = some s5) (h18 : loadA E0 s5 3 (.ptr w 2) = some (i64 n88)) : obC 8 [(.ptr w 0), x] st (.tup [(i64 n88), (i64 0)]) s5 := ACalls.run hE noOv_ok (f8_FFTFF_e st s1 s2 s3 s4 s5 w p19 p71 x v24a n24b n33 n53 n56 n64 n65b n74 n81 n82 n88 w65a) (Ob.ok_cons.2 ⟨⟨h1, rfl⟩, (Ob.ok_cons.2 ⟨h2, (Ob.ok_cons.2 ⟨h3, (Ob.ok_cons.2 ⟨⟨h4, rfl⟩, (Ob.ok_cons.2 ⟨h5, (Ob.ok_cons.2 ⟨⟨h6, rfl⟩, (Ob.ok_cons.2 ⟨h7, (Ob.ok_cons.2 ⟨h8, (Ob.ok_cons.2 ⟨h9, (Ob.ok_cons.2 ⟨⟨h10, rfl⟩, (Ob.ok_cons.2 ⟨h11, (Ob.ok_cons.2 ⟨⟨h12, rfl⟩, (Ob.ok_cons.2 ⟨h13, (Ob.ok_cons.2 ⟨h14, (Ob.ok_cons.2 ⟨⟨h15, rfl⟩, (Ob.ok_cons.2 ⟨h16, (Ob.ok_cons.2 ⟨h17, (Ob.ok_cons.2 ⟨⟨h18, rfl⟩, Ob.ok_nil⟩)⟩)⟩)⟩)⟩)⟩)⟩)⟩)⟩)⟩)⟩)⟩)⟩)⟩)⟩)⟩)⟩)⟩)
theorem f8_FFFT_e (st s1 s2 s3 : St) (w p19 p71 : Nat) (x v24a : AV) (n24b n33 n53 n64 n65b n74 : Int) (w65a : ByteArray) : evCallS Tryd.prog E0 noOv (fun _ => [2019, 2033, 2039, 2053, 2064, 2071, 2081, 2088, 5000, 6009, 6018, 6022, 6023, 6024, 7028, 7034, 7040, 7045, 7054, 7058, 7076, 7082]) 100000 8 [(.ptr w 0), x] st [.eff (.ptr p19 0) id, .eff (.tup [v24a, (i64 n24b)]) (fun _ => s1), .av FF, .eff (i64 n33) id, .av FF, .eff (i64 n53) id, .av FF, .eff (i64 n64) id, .eff (.tup [(str w65a), (i64 n65b)]) (fun _ => s2), .eff (.ptr p71 0) id, .eff (i64 n74) (fun _ => s3), .av TT] = some ((.tup [(i64 0), (i64 n74)]), s3, [], [loadA E0 st 23 (.ptr w 0) = some (.ptr p19 0) ∧ st = st, obC 22 [x] st (.tup [v24a, (i64 n24b)]) s1, binA E0 .neq 29 (i64 n24b) (i64 0) = some FF, loadA E0 s1 3 (.ptr w 2) = some (i64 n33) ∧ s1 = s1, binA E0 .gtr 3 (i64 n33) (i64 0) = some FF, loadA E0 s1 3 (.ptr w 2) = some (i64 n53) ∧ s1 = s1, binA E0 .eql 3 (i64 n53) (i64 0) = some FF, loadA E0 s1 3 (.ptr w 2) = some (i64 n64) ∧ s1 = s1, obC 18 [(i64 n64)] s1 (.tup [(str w65a), (i64 n65b)]) s2, loadA E0 s2 23 (.ptr w 0) = some (.ptr p71 0) ∧ s2 = s2, obC 24 [(.ptr p71 0), (str w65a), v24a] s2 (i64 n74) s3, binA E0 .neq 29 (i64 n74) (i64 0) = some TT]) := by kernel_rfl
theorem f8_FFFT {st s1 s2 s3 : St} {w p19 p71 : Nat} {x v24a : AV} {n24b n33 n53 n64 n65b n74 : Int} {w65a : ByteArray} (h1 : loadA E0 st 23 (.ptr w 0) = some (.ptr p19 0)) (h2 : obC 22 [x] st (.tup [v24a, (i64 n24b)]) s1) (h3 : binA E0 .neq 29 (i64 n24b) (i64 0) = some FF) (h4 : loadA E0 s1 3 (.ptr w 2) = some (i64 n33)) (h5 : binA E0 .gtr 3 (i64 n33) (i64 0) = some FF) (h6 : loadA E0 s1 3 (.ptr w 2) = some (i64 n53)) (h7 : binA E0 .eql 3 (i64 n53) (i64 0) = some FF) (h8 : loadA E0 s1 3 (.ptr w 2) = some (i64 n64)) (h9 : obC 18 [(i64 n64)] s1 (.tup [(str w65a), (i64 n65b)]) s2) (h10 : loadA E0 s2 23 (.ptr w 0) = some (.ptr p71 0)) (h11 : obC 24 [(.ptr p71 0), (str w65a), v24a] s2 (i64 n74) s3) (h12 : binA E0 .neq 29 (i64 n74) (i64 0) = some TT) : obC 8 [(.ptr w 0), x] st (.tup [(i64 0), (i64 n74)]) s3 := ACalls.run hE noOv_ok (f8_FFFT_e st s1 s2 s3 w p19 p71 x v24a n24b n33 n53 n64 n65b n74 w65a) (Ob.ok_cons.2 ⟨⟨h1, rfl⟩, (Ob.ok_cons.2 ⟨h2, (Ob.ok_cons.2 ⟨h3, (Ob.ok_cons.2 ⟨⟨h4, rfl⟩, (Ob.ok_cons.2 ⟨h5, (Ob.ok_cons.2 ⟨⟨h6, rfl⟩, (Ob.ok_cons.2 ⟨h7, (Ob.ok_cons.2 ⟨⟨h8, rfl⟩, (Ob.ok_cons.2 ⟨h9, (Ob.ok_cons.2 ⟨⟨h10, rfl⟩, (Ob.ok_cons.2 ⟨h11, (Ob.ok_cons.2 ⟨h12, Ob.ok_nil⟩)⟩)⟩)⟩)⟩)⟩)⟩)⟩)⟩)⟩)⟩)⟩)
theorem f8_FFFF_e (st s1 s2 s3 s4 : St) (w p19 p71 : Nat) (x v24a : AV) (n24b n33 n53 n64 n65b n74 n81 n82 n88 : Int) (w65a : ByteArray) : evCallS Tryd.prog E0 noOv (fun _ => [2019, 2033, 2039, 2053, 2064, 2071, 2081, 2088, 5000, 6009, 6018, 6022, 6023, 6024, 7028, 7034, 7040, 7045, 7054, 7058, 7076, 7082]) 100000 8 [(.ptr w 0), x] st [.eff (.ptr p19 0) id, .eff (.tup [v24a, (i64 n24b)]) (fun _ => s1), .av FF, .eff (i64 n33) id, .av FF, .eff (i64 n53) id, .av FF, .eff (i64 n64) id, .eff (.tup [(str w65a), (i64 n65b)]) (fun _ => s2), .eff (.ptr p71 0) id, .eff (i64 n74) (fun _ => s3), .av FF, .eff (i64 n81) id, .av (i64 n82), .eff .undef (fun _ => s4), .eff (i64 n88) id] = some ((.tup [(i64 n88), (i64 0)]), s4, [], [loadA E0 st 23 (.ptr w 0) = some (.ptr p19 0) ∧ st = st, obC 22 [x] st (.tup [v24a, (i64 n24b)]) s1, binA E0 .neq 29 (i64 n24b) (i64 0) = some FF, loadA E0 s1 3 (.ptr w 2) = some (i64 n33) ∧ s1 = s1, binA E0 .gtr 3 (i64 n33) (i64 0) = some FF, loadA E0 s1 3 (.ptr w 2) = some (i64 n53) ∧ s1 = s1, binA E0 .eql 3 (i64 n53) (i64 0) = some FF, loadA E0 s1 3 (.ptr w 2) = some (i64 n64) ∧ s1 = s1, obC 18 [(i64 n64)] s1 (.tup [(str w65a), (i64 n65b)]) s2, loadA E0 s2 23 (.ptr w 0) = some (.ptr p71 0) ∧ s2 = s2, obC 24 [(.ptr p71 0), (str w65a), v24a] s2 (i64 n74) s3, binA E0 .neq 29 (i64 n74) (i64 0) = some FF, loadA E0 s3 3 (.ptr w 3) = some (i64 n81) ∧ s3 = s3, binA E0 .add 3 (i64 n81) (i64 1) = some (i64 n82), storeA E0 s3 3 (.ptr w 3) (i64 n82) = some s4, loadA E0 s4 3 (.ptr w 2) = some (i64 n88) ∧ s4 = s4]) := by kernel_rfl
theorem f8_FFFF {st s1 s2 s3 s4 : St} {w p19 p71 : Nat} {x v24a : AV} {n24b n33 n53 n64 n65b n74 n81 n82 n88 : Int} {w65a : ByteArray} (h1 : loadA E0 st 23 (.ptr w 0) = some (.ptr p19 0)) (h2 : obC 22 [x] st (.tup [v24a, (i64 n24b)]) s1) (h3 : binA E0 .neq 29 (i64 n24b) (i64 0) = some FF) (h4 : loadA E0 s1 3 (.ptr w 2) = some (i64 n33)) (h5 : binA E0 .gtr 3 (i64 n33) (i64 0) = some FF) (h6 : loadA E0 s1 3 (.ptr w 2) = some (i64 n53)) (h7 : binA E0 .eql 3 (i64 n53) (i64 0) = some FF) (h8 : loadA E0 s1 3 (.ptr w 2) = some (i64 n64)) (h9 : obC 18 [(i64 n64)] s1 (.tup [(str w65a), (i64 n65b)]) s2) (h10 : loadA E0 s2 23 (.ptr w 0) = some (.ptr p71 0)) (h11 : obC 24 [(.ptr p71 0), (str w65a), v24a] s2 (i64 n74) s3) (h12 : binA E0 .neq 29 (i64 n74) (i64 0) = some FF) (h13 : loadA E0 s3 3 (.ptr w 3) = some (i64 n81)) (h14 : binA E0 .add 3 (i64 n81) (i64 1) = some (i64 n82)) (h15 : storeA E0 s3 3 (.ptr w 3) (i64 n82) = some s4) (h16 : loadA E0 s4 3 (.ptr w 2) = some (i64 n88)) : obC 8 [(.ptr w 0), x] st (.tup [(i64 n88), (i64 0)]) s4 := ACalls.run hE noOv_ok (f8_FFFF_e st s1 s2 s3 s4 w p19 p71 x v24a n24b n33 n53 n64 n65b n74 n81 n82 n88 w65a) (Ob.ok_cons.2 ⟨⟨h1, rfl⟩, (Ob.ok_cons.2 ⟨h2, (Ob.ok_cons.2 ⟨h3, (Ob.ok_cons.2 ⟨⟨h4, rfl⟩, (Ob.ok_cons.2 ⟨h5, (Ob.ok_cons.2 ⟨⟨h6, rfl⟩, (Ob.ok_cons.2 ⟨h7, (Ob.ok_cons.2 ⟨⟨h8, rfl⟩, (Ob.ok_cons.2 ⟨h9, (Ob.ok_cons.2 ⟨⟨h10, rfl⟩, (Ob.ok_cons.2 ⟨h11, (Ob.ok_cons.2 ⟨h12, (Ob.ok_cons.2 ⟨⟨h13, rfl⟩, (Ob.ok_cons.2 ⟨h14, (Ob.ok_cons.2 ⟨h15, (Ob.ok_cons.2 ⟨⟨h16, rfl⟩, Ob.ok_nil⟩)⟩)⟩)⟩)⟩)⟩)⟩)⟩)⟩)⟩)⟩)⟩)⟩)⟩)⟩)⟩)
theorem f5_T_e (st s1 s2 : St) (q n10b n15b : Int) (p10a p15a : Nat) : evCallS Tryd.prog E0 noOv (fun _ => [6014, 6015, 7019, 7022]) 100000 5 [(i64 q)] st [.eff (.tup [(.ptr p10a 0), (i64 n10b)]) (fun _ => s1), .eff (.tup [(.ptr p15a 0), (i64 n15b)]) (fun _ => s2), .av TT] = some ((.tup [.nilp, .nilp]), s2, [], [obC 14 [(i64 q)] st (.tup [(.ptr p10a 0), (i64 n10b)]) s1, obC 15 [(i64 q)] s1 (.tup [(.ptr p15a 0), (i64 n15b)]) s2, binA E0 .neq 29 (i64 n10b) (i64 0) = some TT]) := by kernel_rfl
theorem f5_T {st s1 s2 : St} {q n10b n15b : Int} {p10a p15a : Nat} (h1 : obC 14 [(i64 q)] st (.tup [(.ptr p10a 0), (i64 n10b)]) s1) (h2 : obC 15 [(i64 q)] s1 (.tup [(.ptr p15a 0), (i64 n15b)]) s2) (h3 : binA E0 .neq 29 (i64 n10b) (i64 0) = some TT) : obC 5 [(i64 q)] st (.tup [.nilp, .nilp]) s2 := ACalls.run hE noOv_ok (f5_T_e st s1 s2 q n10b n15b p10a p15a) (Ob.ok_cons.2 ⟨h1, (Ob.ok_cons.2 ⟨h2, (Ob.ok_cons.2 ⟨h3, Ob.ok_nil⟩)⟩)⟩)
theorem f5_FT_e (st s1 s2 : St) (q n10b n15b : Int) (p10a p15a : Nat) : evCallS Tryd.prog E0 noOv (fun _ => [6014, 6015, 7019, 7022]) 100000 5 [(i64 q)] st [.eff (.tup [(.ptr p10a 0), (i64 n10b)]) (fun _ => s1), .eff (.tup [(.ptr p15a 0), (i64 n15b)]) (fun _ => s2), .av FF, .av TT] = some ((.tup [.nilp, .nilp]), s2, [], [obC 14 [(i64 q)] st (.tup [(.ptr p10a 0), (i64 n10b)]) s1, obC 15 [(i64 q)] s1 (.tup [(.ptr p15a 0), (i64 n15b)]) s2, binA E0 .neq 29 (i64 n10b) (i64 0) = some FF, binA E0 .neq 3 (i64 n15b) (i64 0) = some TT]) := by kernel_rfl
theorem f5_FT {st s1 s2 : St} {q n10b n15b : Int} {p10a p15a : Nat} (h1 : obC 14 [(i64 q)] st (.tup [(.ptr p10a 0), (i64 n10b)]) s1) (h2 : obC 15 [(i64 q)] s1 (.tup [(.ptr p15a 0), (i64 n15b)]) s2) (h3 : binA E0 .neq 29 (i64 n10b) (i64 0) = some FF) (h4 : binA E0 .neq 3 (i64 n15b) (i64 0) = some TT) : obC 5 [(i64 q)] st (.tup [.nilp, .nilp]) s2 := ACalls.run hE noOv_ok (f5_FT_e st s1 s2 q n10b n15b p10a p15a) (Ob.ok_cons.2 ⟨h1, (Ob.ok_cons.2 ⟨h2, (Ob.ok_cons.2 ⟨h3, (Ob.ok_cons.2 ⟨h4, Ob.ok_nil⟩)⟩)⟩)⟩)
theorem f5_FF_e (st s1 s2 : St) (q n10b n15b : Int) (p10a p15a : Nat) : evCallS Tryd.prog E0 noOv (fun _ => [6014, 6015, 7019, 7022]) 100000 5 [(i64 q)] st [.eff (.tup [(.ptr p10a 0), (i64 n10b)]) (fun _ => s1), .eff (.tup [(.ptr p15a 0), (i64 n15b)]) (fun _ => s2), .av FF, .av FF] = some ((.tup [(.ptr p10a 0), (.ptr p15a 0)]), s2, [], [obC 14 [(i64 q)] st (.tup [(.ptr p10a 0), (i64 n10b)]) s1, obC 15 [(i64 q)] s1 (.tup [(.ptr p15a 0), (i64 n15b)]) s2, binA E0 .neq 29 (i64 n10b) (i64 0) = some FF, binA E0 .neq 3 (i64 n15b) (i64 0) = some FF]) := by kernel_rfl
theorem f5_FF {st s1 s2 : St} {q n10b n15b : Int} {p10a p15a : Nat} (h1 : obC 14 [(i64 q)] st (.tup [(.ptr p10a 0), (i64 n10b)]) s1) (h2 : obC 15 [(i64 q)] s1 (.tup [(.ptr p15a 0), (i64 n15b)]) s2) (h3 : binA E0 .neq 29 (i64 n10b) (i64 0) = some FF) (h4 : binA E0 .neq 3 (i64 n15b) (i64 0) = some FF) : obC 5 [(i64 q)] st (.tup [(.ptr p10a 0), (.ptr p15a 0)]) s2 := ACalls.run hE noOv_ok (f5_FF_e st s1 s2 q n10b n15b p10a p15a) (Ob.ok_cons.2 ⟨h1, (Ob.ok_cons.2 ⟨h2, (Ob.ok_cons.2 ⟨h3, (Ob.ok_cons.2 ⟨h4, Ob.ok_nil⟩)⟩)⟩)⟩)
theorem f11_T_e (st : St) (x y : AV) (w6 w8 : ByteArray) : evCallS Tryd.prog E0 noOv (fun _ => [2006, 2008, 7009]) 100000 11 [x, y] st [.eff (str w6) id, .eff (str w8) id, .av TT] = some (TT, st, [], [convO E0 st 33 9 x = some ((str w6), st), convO E0 st 33 9 y = some ((str w8), st), binA E0 .eql 9 (str w6) (str w8) = some TT]) := by kernel_rfl
theorem f11_T {st : St} {x y : AV} {w6 w8 : ByteArray} (h1 : convO E0 st 33 9 x = some ((str w6), st)) (h2 : convO E0 st 33 9 y = some ((str w8), st)) (h3 : binA E0 .eql 9 (str w6) (str w8) = some TT) : obC 11 [x, y] st TT st := ACalls.run hE noOv_ok (f11_T_e st x y w6 w8) (Ob.ok_cons.2 ⟨h1, (Ob.ok_cons.2 ⟨h2, (Ob.ok_cons.2 ⟨h3, Ob.ok_nil⟩)⟩)⟩)
theorem f11_F_e (st : St) (x y : AV) (w6 w8 : ByteArray) : evCallS Tryd.prog E0 noOv (fun _ => [2006, 2008, 7009]) 100000 11 [x, y] st [.eff (str w6) id, .eff (str w8) id, .av FF] = some (FF, st, [], [convO E0 st 33 9 x = some ((str w6), st), convO E0 st 33 9 y = some ((str w8), st), binA E0 .eql 9 (str w6) (str w8) = some FF]) := by kernel_rfl
theorem f11_F {st : St} {x y : AV} {w6 w8 : ByteArray} (h1 : convO E0 st 33 9 x = some ((str w6), st)) (h2 : convO E0 st 33 9 y = some ((str w8), st)) (h3 : binA E0 .eql 9 (str w6) (str w8) = some FF) : obC 11 [x, y] st FF st := ACalls.run hE noOv_ok (f11_F_e st x y w6 w8) (Ob.ok_cons.2 ⟨h1, (Ob.ok_cons.2 ⟨h2, (Ob.ok_cons.2 ⟨h3, Ob.ok_nil⟩)⟩)⟩)
noncomputable def f17P (i : Nat) : Code := match Tryd.f17.body with
  | some (.seq x0 (.seq x1 (.seq x2 (.seq (.seq x3 (.block 0 (.loop x4))) x5)))) => [x0, x1, x2, x3, x4, x5].getD i .skip
  | _ => .skip
theorem f17body : Tryd.f17.body = some (.seq (f17P 0) (.seq (f17P 1) (.seq (f17P 2) (.seq (.seq (f17P 3) (.block 0 (.loop (f17P 4)))) (f17P 5))))) := by kernel_rfl
def f17L0 (T : Tm) (a0 : AV) : Prop := T.n = 29 ∧ T.get 0 = a0
theorem f17_0_e (w : Nat) (st : St) : ((evS Tryd.prog E0 noOv noS 100000 [] (f17P 0) ⟨29, [(0, (.ptr w 0))], []⟩ st []).map fun q => (q.1, q.2.1.n, ([q.2.1.get 0] : List AV), q.2.2.1, q.2.2.2.2)) = some (.normal, 29, [(.ptr w 0)], st, []) := by kernel_rfl
theorem f17_0 {w : Nat} {st : St}  {T : Tm} (hT : f17L0 T (.ptr w 0)) : AW Tryd.prog (f17P 0) (fun ex T' st' => ex = .normal ∧ f17L0 T' (.ptr w 0) ∧ st' = st) T st := by
  obtain ⟨hn, g0⟩ := hT
  exact (gen_run (G := fun T => ([T.get 0] : List AV)) hE (f17_0_e w st) Ob.ok_nil hn (one g0)).mono fun ex T' st' ⟨q1, q2, q3, q4⟩ => by simp only [List.cons.injEq, and_true] at q3; exact ⟨q1, ⟨q2, q3⟩, q4⟩
theorem f17_1_e (w : Nat) (st : St) : ((evS Tryd.prog E0 noOv noS 100000 [] (f17P 1) ⟨29, [(0, (.ptr w 0))], []⟩ st []).map fun q => (q.1, q.2.1.n, ([q.2.1.get 0] : List AV), q.2.2.1, q.2.2.2.2)) = some (.normal, 29, [(.ptr w 0)], st, []) := by kernel_rfl
theorem f17_1 {w : Nat} {st : St}  {T : Tm} (hT : f17L0 T (.ptr w 0)) : AW Tryd.prog (f17P 1) (fun ex T' st' => ex = .normal ∧ f17L0 T' (.ptr w 0) ∧ st' = st) T st := by
  obtain ⟨hn, g0⟩ := hT
  exact (gen_run (G := fun T => ([T.get 0] : List AV)) hE (f17_1_e w st) Ob.ok_nil hn (one g0)).mono fun ex T' st' ⟨q1, q2, q3, q4⟩ => by simp only [List.cons.injEq, and_true] at q3; exact ⟨q1, ⟨q2, q3⟩, q4⟩
def f17L1 (T : Tm) (a0 a3 : AV) : Prop := T.n = 29 ∧ T.get 0 = a0 ∧ T.get 3 = a3
theorem f17_2_e (w : Nat) (st : St) : ((evS Tryd.prog E0 noOv noS 100000 [] (f17P 2) ⟨29, [(0, (.ptr w 0))], []⟩ st []).map fun q => (q.1, q.2.1.n, ([q.2.1.get 0, q.2.1.get 3] : List AV), q.2.2.1, q.2.2.2.2)) = some (.normal, 29, [(.ptr w 0), .nils], st, []) := by kernel_rfl
theorem f17_2 {w : Nat} {st : St}  {T : Tm} (hT : f17L0 T (.ptr w 0)) : AW Tryd.prog (f17P 2) (fun ex T' st' => ex = .normal ∧ f17L1 T' (.ptr w 0) .nils ∧ st' = st) T st := by
  obtain ⟨hn, g0⟩ := hT
  exact (gen_run (G := fun T => ([T.get 0, T.get 3] : List AV)) hE (f17_2_e w st) Ob.ok_nil hn (one g0)).mono fun ex T' st' ⟨q1, q2, q3, q4⟩ => by simp only [List.cons.injEq, and_true] at q3; exact ⟨q1, ⟨q2, q3⟩, q4⟩
def f17L2 (T : Tm) (a3 a13 a14 a15 : AV) : Prop := T.n = 29 ∧ T.get 3 = a3 ∧ T.get 13 = a13 ∧ T.get 14 = a14 ∧ T.get 15 = a15
theorem f17_3_e (w p12 : Nat) (v3 v13 : AV) (st s1 : St) (n14 : Int) : ((evS Tryd.prog E0 noOv noS 100000 [2012, 6027, 7014] (f17P 3) ⟨29, [(0, (.ptr w 0)), (3, v3)], []⟩ st [.eff (.ptr p12 0) id, .eff v13 (fun _ => s1), .av (i64 n14)]).map fun q => (q.1, q.2.1.n, ([q.2.1.get 3, q.2.1.get 13, q.2.1.get 14, q.2.1.get 15] : List AV), q.2.2.1, q.2.2.2.2)) = some (.normal, 29, [v3, v13, (i64 n14), (i64 0)], s1, [loadA E0 st 23 (.ptr w 0) = some (.ptr p12 0) ∧ st = st, obC 27 [(.ptr p12 0)] st v13 s1, lenA E0 69 v13 = some (i64 n14)]) := by kernel_rfl
theorem f17_3 {w p12 : Nat} {v3 v13 : AV} {st s1 : St} {n14 : Int} (h1 : loadA E0 st 23 (.ptr w 0) = some (.ptr p12 0)) (h2 : obC 27 [(.ptr p12 0)] st v13 s1) (h3 : lenA E0 69 v13 = some (i64 n14)) {T : Tm} (hT : f17L1 T (.ptr w 0) v3) : AW Tryd.prog (f17P 3) (fun ex T' st' => ex = .normal ∧ f17L2 T' v3 v13 (i64 n14) (i64 0) ∧ st' = s1) T st := by
  obtain ⟨hn, g0, g3⟩ := hT
  exact (gen_run (G := fun T => ([T.get 3, T.get 13, T.get 14, T.get 15] : List AV)) hE (f17_3_e w p12 v3 v13 st s1 n14) (Ob.ok_cons.2 ⟨⟨h1, rfl⟩, (Ob.ok_cons.2 ⟨h2, (Ob.ok_cons.2 ⟨h3, Ob.ok_nil⟩)⟩)⟩) hn (conz g0 (one g3))).mono fun ex T' st' ⟨q1, q2, q3, q4⟩ => by simp only [List.cons.injEq, and_true] at q3; exact ⟨q1, ⟨q2, q3⟩, q4⟩
theorem f17_4_TT_e (v3 v13 q17 v25 v26 : AV) (n14 n15 n20 n27 : Int) (st s1 s2 s3 : St) (w18 : ByteArray) : ((evS Tryd.prog E0 noOv noS 100000 [2018, 2025, 2026, 6028, 7016, 7017, 7022, 7027] (f17P 4) ⟨29, [(3, v3), (13, v13), (14, (i64 n14)), (15, (i64 n15))], []⟩ st [.av TT, .av q17, .eff (str w18) id, .eff (i64 n20) (fun _ => s1), .av TT, .eff v25 (fun _ => s2), .eff v26 (fun _ => s3), .av (i64 n27)]).map fun q => (q.1, q.2.1.n, ([q.2.1.get 3, q.2.1.get 13, q.2.1.get 14, q.2.1.get 15] : List AV), q.2.2.1, q.2.2.2.2)) = some (.normal, 29, [v26, v13, (i64 n14), (i64 n27)], s3, [binA E0 .lss 3 (i64 n15) (i64 n14) = some TT, indexAddrA E0 69 v13 (i64 n15) = some q17, loadA E0 st 9 q17 = some (str w18) ∧ st = st, obC 28 [(str w18)] st (i64 n20) s1, binA E0 .gtr 3 (i64 n20) (i64 0) = some TT, buildSliceA E0 s1 55 1 [(0, (i64 n20))] = some (v25, s2), appendA E0 s2 55 55 v3 v25 = some (v26, s3), binA E0 .add 3 (i64 n15) (i64 1) = some (i64 n27)]) := by kernel_rfl
theorem f17_4_TT {v3 v13 q17 v25 v26 : AV} {n14 n15 n20 n27 : Int} {st s1 s2 s3 : St} {w18 : ByteArray} (h1 : binA E0 .lss 3 (i64 n15) (i64 n14) = some TT) (h2 : indexAddrA E0 69 v13 (i64 n15) = some q17) (h3 : loadA E0 st 9 q17 = some (str w18)) (h4 : obC 28 [(str w18)] st (i64 n20) s1) (h5 : binA E0 .gtr 3 (i64 n20) (i64 0) = some TT) (h6 : buildSliceA E0 s1 55 1 [(0, (i64 n20))] = some (v25, s2)) (h7 : appendA E0 s2 55 55 v3 v25 = some (v26, s3)) (h8 : binA E0 .add 3 (i64 n15) (i64 1) = some (i64 n27)) {T : Tm} (hT : f17L2 T v3 v13 (i64 n14) (i64 n15)) : AW Tryd.prog (f17P 4) (fun ex T' st' => ex = .normal ∧ f17L2 T' v26 v13 (i64 n14) (i64 n27) ∧ st' = s3) T st := by
  obtain ⟨hn, g3, g13, g14, g15⟩ := hT
  exact (gen_run (G := fun T => ([T.get 3, T.get 13, T.get 14, T.get 15] : List AV)) hE (f17_4_TT_e v3 v13 q17 v25 v26 n14 n15 n20 n27 st s1 s2 s3 w18) (Ob.ok_cons.2 ⟨h1, (Ob.ok_cons.2 ⟨h2, (Ob.ok_cons.2 ⟨⟨h3, rfl⟩, (Ob.ok_cons.2 ⟨h4, (Ob.ok_cons.2 ⟨h5, (Ob.ok_cons.2 ⟨h6, (Ob.ok_cons.2 ⟨h7, (Ob.ok_cons.2 ⟨h8, Ob.ok_nil⟩)⟩)⟩)⟩)⟩)⟩)⟩)⟩) hn (conz g3 (conz g13 (conz g14 (one g15))))).mono fun ex T' st' ⟨q1, q2, q3, q4⟩ => by simp only [List.cons.injEq, and_true] at q3; exact ⟨q1, ⟨q2, q3⟩, q4⟩
theorem f17_4_TF_e (v3 v13 q17 : AV) (n14 n15 n20 n27 : Int) (st s1 : St) (w18 : ByteArray) : ((evS Tryd.prog E0 noOv noS 100000 [2018, 2025, 2026, 6028, 7016, 7017, 7022, 7027] (f17P 4) ⟨29, [(3, v3), (13, v13), (14, (i64 n14)), (15, (i64 n15))], []⟩ st [.av TT, .av q17, .eff (str w18) id, .eff (i64 n20) (fun _ => s1), .av FF, .av (i64 n27)]).map fun q => (q.1, q.2.1.n, ([q.2.1.get 3, q.2.1.get 13, q.2.1.get 14, q.2.1.get 15] : List AV), q.2.2.1, q.2.2.2.2)) = some (.normal, 29, [v3, v13, (i64 n14), (i64 n27)], s1, [binA E0 .lss 3 (i64 n15) (i64 n14) = some TT, indexAddrA E0 69 v13 (i64 n15) = some q17, loadA E0 st 9 q17 = some (str w18) ∧ st = st, obC 28 [(str w18)] st (i64 n20) s1, binA E0 .gtr 3 (i64 n20) (i64 0) = some FF, binA E0 .add 3 (i64 n15) (i64 1) = some (i64 n27)]) := by kernel_rfl
theorem f17_4_TF {v3 v13 q17 : AV} {n14 n15 n20 n27 : Int} {st s1 : St} {w18 : ByteArray} (h1 : binA E0 .lss 3 (i64 n15) (i64 n14) = some TT) (h2 : indexAddrA E0 69 v13 (i64 n15) = some q17) (h3 : loadA E0 st 9 q17 = some (str w18)) (h4 : obC 28 [(str w18)] st (i64 n20) s1) (h5 : binA E0 .gtr 3 (i64 n20) (i64 0) = some FF) (h6 : binA E0 .add 3 (i64 n15) (i64 1) = some (i64 n27)) {T : Tm} (hT : f17L2 T v3 v13 (i64 n14) (i64 n15)) : AW Tryd.prog (f17P 4) (fun ex T' st' => ex = .normal ∧ f17L2 T' v3 v13 (i64 n14) (i64 n27) ∧ st' = s1) T st := by
  obtain ⟨hn, g3, g13, g14, g15⟩ := hT
  exact (gen_run (G := fun T => ([T.get 3, T.get 13, T.get 14, T.get 15] : List AV)) hE (f17_4_TF_e v3 v13 q17 n14 n15 n20 n27 st s1 w18) (Ob.ok_cons.2 ⟨h1, (Ob.ok_cons.2 ⟨h2, (Ob.ok_cons.2 ⟨⟨h3, rfl⟩, (Ob.ok_cons.2 ⟨h4, (Ob.ok_cons.2 ⟨h5, (Ob.ok_cons.2 ⟨h6, Ob.ok_nil⟩)⟩)⟩)⟩)⟩)⟩) hn (conz g3 (conz g13 (conz g14 (one g15))))).mono fun ex T' st' ⟨q1, q2, q3, q4⟩ => by simp only [List.cons.injEq, and_true] at q3; exact ⟨q1, ⟨q2, q3⟩, q4⟩
def f17L3 (T : Tm) (a3 : AV) : Prop := T.n = 29 ∧ T.get 3 = a3
theorem f17_4_F_e (v3 v13 : AV) (n14 n15 : Int) (st : St) : ((evS Tryd.prog E0 noOv noS 100000 [2018, 2025, 2026, 6028, 7016, 7017, 7022, 7027] (f17P 4) ⟨29, [(3, v3), (13, v13), (14, (i64 n14)), (15, (i64 n15))], []⟩ st [.av FF]).map fun q => (q.1, q.2.1.n, ([q.2.1.get 3] : List AV), q.2.2.1, q.2.2.2.2)) = some ((.exit 0), 29, [v3], st, [binA E0 .lss 3 (i64 n15) (i64 n14) = some FF]) := by kernel_rfl
theorem f17_4_F {v3 v13 : AV} {n14 n15 : Int} {st : St} (h1 : binA E0 .lss 3 (i64 n15) (i64 n14) = some FF) {T : Tm} (hT : f17L2 T v3 v13 (i64 n14) (i64 n15)) : AW Tryd.prog (f17P 4) (fun ex T' st' => ex = (.exit 0) ∧ f17L3 T' v3 ∧ st' = st) T st := by
  obtain ⟨hn, g3, g13, g14, g15⟩ := hT
  exact (gen_run (G := fun T => ([T.get 3] : List AV)) hE (f17_4_F_e v3 v13 n14 n15 st) (Ob.ok_cons.2 ⟨h1, Ob.ok_nil⟩) hn (conz g3 (conz g13 (conz g14 (one g15))))).mono fun ex T' st' ⟨q1, q2, q3, q4⟩ => by simp only [List.cons.injEq, and_true] at q3; exact ⟨q1, ⟨q2, q3⟩, q4⟩
def f17L4 (T : Tm) (a2 : AV) : Prop := T.n = 29 ∧ T.get 2 = a2
theorem f17_5_e (v3 : AV) (st : St) : ((evS Tryd.prog E0 noOv noS 100000 [] (f17P 5) ⟨29, [(3, v3)], []⟩ st []).map fun q => (q.1, q.2.1.n, ([q.2.1.get 2] : List AV), q.2.2.1, q.2.2.2.2)) = some (.ret, 29, [v3], st, []) := by kernel_rfl
theorem f17_5 {v3 : AV} {st : St}  {T : Tm} (hT : f17L3 T v3) : AW Tryd.prog (f17P 5) (fun ex T' st' => ex = .ret ∧ f17L4 T' v3 ∧ st' = st) T st := by
  obtain ⟨hn, g3⟩ := hT
  exact (gen_run (G := fun T => ([T.get 2] : List AV)) hE (f17_5_e v3 st) Ob.ok_nil hn (one g3)).mono fun ex T' st' ⟨q1, q2, q3, q4⟩ => by simp only [List.cons.injEq, and_true] at q3; exact ⟨q1, ⟨q2, q3⟩, q4⟩
noncomputable def f10P (i : Nat) : Code := match Tryd.f10.body with
  | some (.seq x0 (.seq x1 (.seq (.seq x2 (.block 0 (.loop x3))) x4))) => [x0, x1, x2, x3, x4].getD i .skip
  | _ => .skip
theorem f10body : Tryd.f10.body = some (.seq (f10P 0) (.seq (f10P 1) (.seq (.seq (f10P 2) (.block 0 (.loop (f10P 3)))) (f10P 4)))) := by kernel_rfl
def f10L0 (T : Tm) (a0 a1 : AV) : Prop := T.n = 52 ∧ T.get 0 = a0 ∧ T.get 1 = a1
theorem f10_0_e (w : Nat) (n1 : Int) (st : St) : ((evS Tryd.prog E0 noOv noS 100000 [] (f10P 0) ⟨52, [(0, (.ptr w 0)), (1, (i64 n1))], []⟩ st []).map fun q => (q.1, q.2.1.n, ([q.2.1.get 0, q.2.1.get 1] : List AV), q.2.2.1, q.2.2.2.2)) = some (.normal, 52, [(.ptr w 0), (i64 n1)], st, []) := by kernel_rfl
theorem f10_0 {w : Nat} {n1 : Int} {st : St}  {T : Tm} (hT : f10L0 T (.ptr w 0) (i64 n1)) : AW Tryd.prog (f10P 0) (fun ex T' st' => ex = .normal ∧ f10L0 T' (.ptr w 0) (i64 n1) ∧ st' = st) T st := by
  obtain ⟨hn, g0, g1⟩ := hT
  exact (gen_run (G := fun T => ([T.get 0, T.get 1] : List AV)) hE (f10_0_e w n1 st) Ob.ok_nil hn (conz g0 (one g1))).mono fun ex T' st' ⟨q1, q2, q3, q4⟩ => by simp only [List.cons.injEq, and_true] at q3; exact ⟨q1, ⟨q2, q3⟩, q4⟩
theorem f10_1_e (w p16 : Nat) (n1 : Int) (st : St) : ((evS Tryd.prog E0 noOv noS 100000 [2016] (f10P 1) ⟨52, [(0, (.ptr w 0)), (1, (i64 n1))], []⟩ st [.eff (.ptr p16 0) id]).map fun q => (q.1, q.2.1.n, ([q.2.1.get 0, q.2.1.get 1] : List AV), q.2.2.1, q.2.2.2.2)) = some (.normal, 52, [(.ptr w 0), (i64 n1)], st, [loadA E0 st 23 (.ptr w 0) = some (.ptr p16 0) ∧ st = st]) := by kernel_rfl
theorem f10_1 {w p16 : Nat} {n1 : Int} {st : St} (h1 : loadA E0 st 23 (.ptr w 0) = some (.ptr p16 0)) {T : Tm} (hT : f10L0 T (.ptr w 0) (i64 n1)) : AW Tryd.prog (f10P 1) (fun ex T' st' => ex = .normal ∧ f10L0 T' (.ptr w 0) (i64 n1) ∧ st' = st) T st := by
  obtain ⟨hn, g0, g1⟩ := hT
  exact (gen_run (G := fun T => ([T.get 0, T.get 1] : List AV)) hE (f10_1_e w p16 n1 st) (Ob.ok_cons.2 ⟨⟨h1, rfl⟩, Ob.ok_nil⟩) hn (conz g0 (one g1))).mono fun ex T' st' ⟨q1, q2, q3, q4⟩ => by simp only [List.cons.injEq, and_true] at q3; exact ⟨q1, ⟨q2, q3⟩, q4⟩
def f10L1 (T : Tm) (a0 a1 a20 a21 a22 : AV) : Prop := T.n = 52 ∧ T.get 0 = a0 ∧ T.get 1 = a1 ∧ T.get 20 = a20 ∧ T.get 21 = a21 ∧ T.get 22 = a22
theorem f10_2_e (w : Nat) (n1 n21 : Int) (st s1 : St) (v20 : AV) : ((evS Tryd.prog E0 noOv noS 100000 [6017, 7021] (f10P 2) ⟨52, [(0, (.ptr w 0)), (1, (i64 n1))], []⟩ st [.eff v20 (fun _ => s1), .av (i64 n21)]).map fun q => (q.1, q.2.1.n, ([q.2.1.get 0, q.2.1.get 1, q.2.1.get 20, q.2.1.get 21, q.2.1.get 22] : List AV), q.2.2.1, q.2.2.2.2)) = some (.normal, 52, [(.ptr w 0), (i64 n1), v20, (i64 n21), (i64 0)], s1, [obC 17 [(.ptr w 0)] st v20 s1, lenA E0 55 v20 = some (i64 n21)]) := by kernel_rfl
theorem f10_2 {w : Nat} {n1 n21 : Int} {st s1 : St} {v20 : AV} (h1 : obC 17 [(.ptr w 0)] st v20 s1) (h2 : lenA E0 55 v20 = some (i64 n21)) {T : Tm} (hT : f10L0 T (.ptr w 0) (i64 n1)) : AW Tryd.prog (f10P 2) (fun ex T' st' => ex = .normal ∧ f10L1 T' (.ptr w 0) (i64 n1) v20 (i64 n21) (i64 0) ∧ st' = s1) T st := by
  obtain ⟨hn, g0, g1⟩ := hT
  exact (gen_run (G := fun T => ([T.get 0, T.get 1, T.get 20, T.get 21, T.get 22] : List AV)) hE (f10_2_e w n1 n21 st s1 v20) (Ob.ok_cons.2 ⟨h1, (Ob.ok_cons.2 ⟨h2, Ob.ok_nil⟩)⟩) hn (conz g0 (one g1))).mono fun ex T' st' ⟨q1, q2, q3, q4⟩ => by simp only [List.cons.injEq, and_true] at q3; exact ⟨q1, ⟨q2, q3⟩, q4⟩
theorem f10_3_TT_e (w : Nat) (n1 n21 n22 n25 n51 : Int) (v20 q24 : AV) (st : St) : ((evS Tryd.prog E0 noOv noS 100000 [2025, 2034, 2045, 6018, 6026, 7023, 7024, 7028, 7035, 7049, 7051] (f10P 3) ⟨52, [(0, (.ptr w 0)), (1, (i64 n1)), (20, v20), (21, (i64 n21)), (22, (i64 n22))], []⟩ st [.av TT, .av q24, .eff (i64 n25) id, .av TT, .av (i64 n51)]).map fun q => (q.1, q.2.1.n, ([q.2.1.get 0, q.2.1.get 1, q.2.1.get 20, q.2.1.get 21, q.2.1.get 22] : List AV), q.2.2.1, q.2.2.2.2)) = some (.normal, 52, [(.ptr w 0), (i64 n1), v20, (i64 n21), (i64 n51)], st, [binA E0 .lss 3 (i64 n22) (i64 n21) = some TT, indexAddrA E0 55 v20 (i64 n22) = some q24, loadA E0 st 3 q24 = some (i64 n25) ∧ st = st, binA E0 .geq 3 (i64 n25) (i64 n1) = some TT, binA E0 .add 3 (i64 n22) (i64 1) = some (i64 n51)]) := by kernel_rfl
theorem f10_3_TT {w : Nat} {n1 n21 n22 n25 n51 : Int} {v20 q24 : AV} {st : St} (h1 : binA E0 .lss 3 (i64 n22) (i64 n21) = some TT) (h2 : indexAddrA E0 55 v20 (i64 n22) = some q24) (h3 : loadA E0 st 3 q24 = some (i64 n25)) (h4 : binA E0 .geq 3 (i64 n25) (i64 n1) = some TT) (h5 : binA E0 .add 3 (i64 n22) (i64 1) = some (i64 n51)) {T : Tm} (hT : f10L1 T (.ptr w 0) (i64 n1) v20 (i64 n21) (i64 n22)) : AW Tryd.prog (f10P 3) (fun ex T' st' => ex = .normal ∧ f10L1 T' (.ptr w 0) (i64 n1) v20 (i64 n21) (i64 n51) ∧ st' = st) T st := by
  obtain ⟨hn, g0, g1, g20, g21, g22⟩ := hT
  exact (gen_run (G := fun T => ([T.get 0, T.get 1, T.get 20, T.get 21, T.get 22] : List AV)) hE (f10_3_TT_e w n1 n21 n22 n25 n51 v20 q24 st) (Ob.ok_cons.2 ⟨h1, (Ob.ok_cons.2 ⟨h2, (Ob.ok_cons.2 ⟨⟨h3, rfl⟩, (Ob.ok_cons.2 ⟨h4, (Ob.ok_cons.2 ⟨h5, Ob.ok_nil⟩)⟩)⟩)⟩)⟩) hn (conz g0 (conz g1 (conz g20 (conz g21 (one g22)))))).mono fun ex T' st' ⟨q1, q2, q3, q4⟩ => by simp only [List.cons.injEq, and_true] at q3; exact ⟨q1, ⟨q2, q3⟩, q4⟩
theorem f10_3_TFT_e (w : Nat) (n1 n21 n22 n25 n34 n51 : Int) (v20 q24 : AV) (st : St) : ((evS Tryd.prog E0 noOv noS 100000 [2025, 2034, 2045, 6018, 6026, 7023, 7024, 7028, 7035, 7049, 7051] (f10P 3) ⟨52, [(0, (.ptr w 0)), (1, (i64 n1)), (20, v20), (21, (i64 n21)), (22, (i64 n22))], []⟩ st [.av TT, .av q24, .eff (i64 n25) id, .av FF, .eff (i64 n34) id, .av TT, .av (i64 n51)]).map fun q => (q.1, q.2.1.n, ([q.2.1.get 0, q.2.1.get 1, q.2.1.get 20, q.2.1.get 21, q.2.1.get 22] : List AV), q.2.2.1, q.2.2.2.2)) = some (.normal, 52, [(.ptr w 0), (i64 n1), v20, (i64 n21), (i64 n51)], st, [binA E0 .lss 3 (i64 n22) (i64 n21) = some TT, indexAddrA E0 55 v20 (i64 n22) = some q24, loadA E0 st 3 q24 = some (i64 n25) ∧ st = st, binA E0 .geq 3 (i64 n25) (i64 n1) = some FF, loadA E0 st 3 (.ptr w 2) = some (i64 n34) ∧ st = st, binA E0 .eql 3 (i64 n25) (i64 n34) = some TT, binA E0 .add 3 (i64 n22) (i64 1) = some (i64 n51)]) := by kernel_rfl
theorem f10_3_TFT {w : Nat} {n1 n21 n22 n25 n34 n51 : Int} {v20 q24 : AV} {st : St} (h1 : binA E0 .lss 3 (i64 n22) (i64 n21) = some TT) (h2 : indexAddrA E0 55 v20 (i64 n22) = some q24) (h3 : loadA E0 st 3 q24 = some (i64 n25)) (h4 : binA E0 .geq 3 (i64 n25) (i64 n1) = some FF) (h5 : loadA E0 st 3 (.ptr w 2) = some (i64 n34)) (h6 : binA E0 .eql 3 (i64 n25) (i64 n34) = some TT) (h7 : binA E0 .add 3 (i64 n22) (i64 1) = some (i64 n51)) {T : Tm} (hT : f10L1 T (.ptr w 0) (i64 n1) v20 (i64 n21) (i64 n22)) : AW Tryd.prog (f10P 3) (fun ex T' st' => ex = .normal ∧ f10L1 T' (.ptr w 0) (i64 n1) v20 (i64 n21) (i64 n51) ∧ st' = st) T st := by
  obtain ⟨hn, g0, g1, g20, g21, g22⟩ := hT
  exact (gen_run (G := fun T => ([T.get 0, T.get 1, T.get 20, T.get 21, T.get 22] : List AV)) hE (f10_3_TFT_e w n1 n21 n22 n25 n34 n51 v20 q24 st) (Ob.ok_cons.2 ⟨h1, (Ob.ok_cons.2 ⟨h2, (Ob.ok_cons.2 ⟨⟨h3, rfl⟩, (Ob.ok_cons.2 ⟨h4, (Ob.ok_cons.2 ⟨⟨h5, rfl⟩, (Ob.ok_cons.2 ⟨h6, (Ob.ok_cons.2 ⟨h7, Ob.ok_nil⟩)⟩)⟩)⟩)⟩)⟩)⟩) hn (conz g0 (conz g1 (conz g20 (conz g21 (one g22)))))).mono fun ex T' st' ⟨q1, q2, q3, q4⟩ => by simp only [List.cons.injEq, and_true] at q3; exact ⟨q1, ⟨q2, q3⟩, q4⟩
def f10L2 (T : Tm) (a4 : AV) : Prop := T.n = 52 ∧ T.get 4 = a4
theorem f10_3_TFFT_e (w p45 : Nat) (n1 n21 n22 n25 n34 n39b n47 : Int) (v20 q24 : AV) (st s1 s2 : St) (w39a : ByteArray) : ((evS Tryd.prog E0 noOv noS 100000 [2025, 2034, 2045, 6018, 6026, 7023, 7024, 7028, 7035, 7049, 7051] (f10P 3) ⟨52, [(0, (.ptr w 0)), (1, (i64 n1)), (20, v20), (21, (i64 n21)), (22, (i64 n22))], []⟩ st [.av TT, .av q24, .eff (i64 n25) id, .av FF, .eff (i64 n34) id, .av FF, .eff (.tup [(str w39a), (i64 n39b)]) (fun _ => s1), .eff (.ptr p45 0) id, .eff (i64 n47) (fun _ => s2), .av TT]).map fun q => (q.1, q.2.1.n, ([q.2.1.get 4] : List AV), q.2.2.1, q.2.2.2.2)) = some (.ret, 52, [(i64 n47)], s2, [binA E0 .lss 3 (i64 n22) (i64 n21) = some TT, indexAddrA E0 55 v20 (i64 n22) = some q24, loadA E0 st 3 q24 = some (i64 n25) ∧ st = st, binA E0 .geq 3 (i64 n25) (i64 n1) = some FF, loadA E0 st 3 (.ptr w 2) = some (i64 n34) ∧ st = st, binA E0 .eql 3 (i64 n25) (i64 n34) = some FF, obC 18 [(i64 n25)] st (.tup [(str w39a), (i64 n39b)]) s1, loadA E0 s1 23 (.ptr w 0) = some (.ptr p45 0) ∧ s1 = s1, obC 26 [(.ptr p45 0), (str w39a)] s1 (i64 n47) s2, binA E0 .neq 29 (i64 n47) (i64 0) = some TT]) := by kernel_rfl
theorem f10_3_TFFT {w p45 : Nat} {n1 n21 n22 n25 n34 n39b n47 : Int} {v20 q24 : AV} {st s1 s2 : St} {w39a : ByteArray} (h1 : binA E0 .lss 3 (i64 n22) (i64 n21) = some TT) (h2 : indexAddrA E0 55 v20 (i64 n22) = some q24) (h3 : loadA E0 st 3 q24 = some (i64 n25)) (h4 : binA E0 .geq 3 (i64 n25) (i64 n1) = some FF) (h5 : loadA E0 st 3 (.ptr w 2) = some (i64 n34)) (h6 : binA E0 .eql 3 (i64 n25) (i64 n34) = some FF) (h7 : obC 18 [(i64 n25)] st (.tup [(str w39a), (i64 n39b)]) s1) (h8 : loadA E0 s1 23 (.ptr w 0) = some (.ptr p45 0)) (h9 : obC 26 [(.ptr p45 0), (str w39a)] s1 (i64 n47) s2) (h10 : binA E0 .neq 29 (i64 n47) (i64 0) = some TT) {T : Tm} (hT : f10L1 T (.ptr w 0) (i64 n1) v20 (i64 n21) (i64 n22)) : AW Tryd.prog (f10P 3) (fun ex T' st' => ex = .ret ∧ f10L2 T' (i64 n47) ∧ st' = s2) T st := by
  obtain ⟨hn, g0, g1, g20, g21, g22⟩ := hT
  exact (gen_run (G := fun T => ([T.get 4] : List AV)) hE (f10_3_TFFT_e w p45 n1 n21 n22 n25 n34 n39b n47 v20 q24 st s1 s2 w39a) (Ob.ok_cons.2 ⟨h1, (Ob.ok_cons.2 ⟨h2, (Ob.ok_cons.2 ⟨⟨h3, rfl⟩, (Ob.ok_cons.2 ⟨h4, (Ob.ok_cons.2 ⟨⟨h5, rfl⟩, (Ob.ok_cons.2 ⟨h6, (Ob.ok_cons.2 ⟨h7, (Ob.ok_cons.2 ⟨⟨h8, rfl⟩, (Ob.ok_cons.2 ⟨h9, (Ob.ok_cons.2 ⟨h10, Ob.ok_nil⟩)⟩)⟩)⟩)⟩)⟩)⟩)⟩)⟩)⟩) hn (conz g0 (conz g1 (conz g20 (conz g21 (one g22)))))).mono fun ex T' st' ⟨q1, q2, q3, q4⟩ => by simp only [List.cons.injEq, and_true] at q3; exact ⟨q1, ⟨q2, q3⟩, q4⟩
theorem f10_3_TFFF_e (w p45 : Nat) (n1 n21 n22 n25 n34 n39b n47 n51 : Int) (v20 q24 : AV) (st s1 s2 : St) (w39a : ByteArray) : ((evS Tryd.prog E0 noOv noS 100000 [2025, 2034, 2045, 6018, 6026, 7023, 7024, 7028, 7035, 7049, 7051] (f10P 3) ⟨52, [(0, (.ptr w 0)), (1, (i64 n1)), (20, v20), (21, (i64 n21)), (22, (i64 n22))], []⟩ st [.av TT, .av q24, .eff (i64 n25) id, .av FF, .eff (i64 n34) id, .av FF, .eff (.tup [(str w39a), (i64 n39b)]) (fun _ => s1), .eff (.ptr p45 0) id, .eff (i64 n47) (fun _ => s2), .av FF, .av (i64 n51)]).map fun q => (q.1, q.2.1.n, ([q.2.1.get 0, q.2.1.get 1, q.2.1.get 20, q.2.1.get 21, q.2.1.get 22] : List AV), q.2.2.1, q.2.2.2.2)) = some (.normal, 52, [(.ptr w 0), (i64 n1), v20, (i64 n21), (i64 n51)], s2, [binA E0 .lss 3 (i64 n22) (i64 n21) = some TT, indexAddrA E0 55 v20 (i64 n22) = some q24, loadA E0 st 3 q24 = some (i64 n25) ∧ st = st, binA E0 .geq 3 (i64 n25) (i64 n1) = some FF, loadA E0 st 3 (.ptr w 2) = some (i64 n34) ∧ st = st, binA E0 .eql 3 (i64 n25) (i64 n34) = some FF, obC 18 [(i64 n25)] st (.tup [(str w39a), (i64 n39b)]) s1, loadA E0 s1 23 (.ptr w 0) = some (.ptr p45 0) ∧ s1 = s1, obC 26 [(.ptr p45 0), (str w39a)] s1 (i64 n47) s2, binA E0 .neq 29 (i64 n47) (i64 0) = some FF, binA E0 .add 3 (i64 n22) (i64 1) = some (i64 n51)]) := by kernel_rfl
theorem f10_3_TFFF {w p45 : Nat} {n1 n21 n22 n25 n34 n39b n47 n51 : Int} {v20 q24 : AV} {st s1 s2 : St} {w39a : ByteArray} (h1 : binA E0 .lss 3 (i64 n22) (i64 n21) = some TT) (h2 : indexAddrA E0 55 v20 (i64 n22) = some q24) (h3 : loadA E0 st 3 q24 = some (i64 n25)) (h4 : binA E0 .geq 3 (i64 n25) (i64 n1) = some FF) (h5 : loadA E0 st 3 (.ptr w 2) = some (i64 n34)) (h6 : binA E0 .eql 3 (i64 n25) (i64 n34) = some FF) (h7 : obC 18 [(i64 n25)] st (.tup [(str w39a), (i64 n39b)]) s1) (h8 : loadA E0 s1 23 (.ptr w 0) = some (.ptr p45 0)) (h9 : obC 26 [(.ptr p45 0), (str w39a)] s1 (i64 n47) s2) (h10 : binA E0 .neq 29 (i64 n47) (i64 0) = some FF) (h11 : binA E0 .add 3 (i64 n22) (i64 1) = some (i64 n51)) {T : Tm} (hT : f10L1 T (.ptr w 0) (i64 n1) v20 (i64 n21) (i64 n22)) : AW Tryd.prog (f10P 3) (fun ex T' st' => ex = .normal ∧ f10L1 T' (.ptr w 0) (i64 n1) v20 (i64 n21) (i64 n51) ∧ st' = s2) T st := by
  obtain ⟨hn, g0, g1, g20, g21, g22⟩ := hT
  exact (gen_run (G := fun T => ([T.get 0, T.get 1, T.get 20, T.get 21, T.get 22] : List AV)) hE (f10_3_TFFF_e w p45 n1 n21 n22 n25 n34 n39b n47 n51 v20 q24 st s1 s2 w39a) (Ob.ok_cons.2 ⟨h1, (Ob.ok_cons.2 ⟨h2, (Ob.ok_cons.2 ⟨⟨h3, rfl⟩, (Ob.ok_cons.2 ⟨h4, (Ob.ok_cons.2 ⟨⟨h5, rfl⟩, (Ob.ok_cons.2 ⟨h6, (Ob.ok_cons.2 ⟨h7, (Ob.ok_cons.2 ⟨⟨h8, rfl⟩, (Ob.ok_cons.2 ⟨h9, (Ob.ok_cons.2 ⟨h10, (Ob.ok_cons.2 ⟨h11, Ob.ok_nil⟩)⟩)⟩)⟩)⟩)⟩)⟩)⟩)⟩)⟩)⟩) hn (conz g0 (conz g1 (conz g20 (conz g21 (one g22)))))).mono fun ex T' st' ⟨q1, q2, q3, q4⟩ => by simp only [List.cons.injEq, and_true] at q3; exact ⟨q1, ⟨q2, q3⟩, q4⟩
def f10L3 (T : Tm) : Prop := T.n = 52
theorem f10_3_F_e (w : Nat) (n1 n21 n22 : Int) (v20 : AV) (st : St) : ((evS Tryd.prog E0 noOv noS 100000 [2025, 2034, 2045, 6018, 6026, 7023, 7024, 7028, 7035, 7049, 7051] (f10P 3) ⟨52, [(0, (.ptr w 0)), (1, (i64 n1)), (20, v20), (21, (i64 n21)), (22, (i64 n22))], []⟩ st [.av FF]).map fun q => (q.1, q.2.1.n, ([] : List AV), q.2.2.1, q.2.2.2.2)) = some ((.exit 0), 52, [], st, [binA E0 .lss 3 (i64 n22) (i64 n21) = some FF]) := by kernel_rfl
theorem f10_3_F {w : Nat} {n1 n21 n22 : Int} {v20 : AV} {st : St} (h1 : binA E0 .lss 3 (i64 n22) (i64 n21) = some FF) {T : Tm} (hT : f10L1 T (.ptr w 0) (i64 n1) v20 (i64 n21) (i64 n22)) : AW Tryd.prog (f10P 3) (fun ex T' st' => ex = (.exit 0) ∧ f10L3 T'  ∧ st' = st) T st := by
  obtain ⟨hn, g0, g1, g20, g21, g22⟩ := hT
  exact (gen_run (G := fun T => ([] : List AV)) hE (f10_3_F_e w n1 n21 n22 v20 st) (Ob.ok_cons.2 ⟨h1, Ob.ok_nil⟩) hn (conz g0 (conz g1 (conz g20 (conz g21 (one g22)))))).mono fun ex T' st' ⟨q1, q2, q3, q4⟩ => by exact ⟨q1, q2, q4⟩
theorem f10_4_e (st : St) : ((evS Tryd.prog E0 noOv noS 100000 [] (f10P 4) ⟨52, [], []⟩ st []).map fun q => (q.1, q.2.1.n, ([q.2.1.get 4] : List AV), q.2.2.1, q.2.2.2.2)) = some (.ret, 52, [(i64 0)], st, []) := by kernel_rfl
theorem f10_4 {st : St}  {T : Tm} (hT : f10L3 T ) : AW Tryd.prog (f10P 4) (fun ex T' st' => ex = .ret ∧ f10L2 T' (i64 0) ∧ st' = st) T st := by
  have hn : T.n = 52 := hT
  exact (gen_run (G := fun T => ([T.get 4] : List AV)) hE (f10_4_e st) Ob.ok_nil hn (fun q hq => by cases hq)).mono fun ex T' st' ⟨q1, q2, q3, q4⟩ => by simp only [List.cons.injEq, and_true] at q3; exact ⟨q1, ⟨q2, q3⟩, q4⟩
noncomputable def f6P (i : Nat) : Code := match Tryd.f6.body with
  | some (.seq x0 (.seq x1 (.seq x2 (.seq x3 (.seq (.seq x4 (.block 1 (.loop (.seq x5 (.seq x6 (.seq (.block 2 (.seq x7 (.seq x8 (.seq x9 (.seq x10 (.seq (.seq x11 (.block 3 (.loop x12))) x13)))))) x14)))))) x15))))) => [x0, x1, x2, x3, x4, x5, x6, x7, x8, x9, x10, x11, x12, x13, x14, x15].getD i .skip
  | _ => .skip
theorem f6body : Tryd.f6.body = some (.seq (f6P 0) (.seq (f6P 1) (.seq (f6P 2) (.seq (f6P 3) (.seq (.seq (f6P 4) (.block 1 (.loop (.seq (f6P 5) (.seq (f6P 6) (.seq (.block 2 (.seq (f6P 7) (.seq (f6P 8) (.seq (f6P 9) (.seq (f6P 10) (.seq (.seq (f6P 11) (.block 3 (.loop (f6P 12)))) (f6P 13))))))) (f6P 14))))))) (f6P 15)))))) := by kernel_rfl
def f6L0 (T : Tm) (a0 : AV) : Prop := T.n = 67 ∧ T.get 0 = a0
theorem f6_0_e (d : Nat) (st : St) : ((evS Tryd.prog E0 noOv noS 100000 [] (f6P 0) ⟨67, [(0, (.ptr d 0))], []⟩ st []).map fun q => (q.1, q.2.1.n, ([q.2.1.get 0] : List AV), q.2.2.1, q.2.2.2.2)) = some (.normal, 67, [(.ptr d 0)], st, []) := by kernel_rfl
theorem f6_0 {d : Nat} {st : St}  {T : Tm} (hT : f6L0 T (.ptr d 0)) : AW Tryd.prog (f6P 0) (fun ex T' st' => ex = .normal ∧ f6L0 T' (.ptr d 0) ∧ st' = st) T st := by
  obtain ⟨hn, g0⟩ := hT
  exact (gen_run (G := fun T => ([T.get 0] : List AV)) hE (f6_0_e d st) Ob.ok_nil hn (one g0)).mono fun ex T' st' ⟨q1, q2, q3, q4⟩ => by simp only [List.cons.injEq, and_true] at q3; exact ⟨q1, ⟨q2, q3⟩, q4⟩
def f6L1 (T : Tm) (a2 a3 a4 : AV) : Prop := T.n = 67 ∧ T.get 2 = a2 ∧ T.get 3 = a3 ∧ T.get 4 = a4
theorem f6_1_T_e (d : Nat) (st s1 : St) : ((evS Tryd.prog E0 noOv noS 100000 [6016] (f6P 1) ⟨67, [(0, (.ptr d 0))], []⟩ st [.eff TT (fun _ => s1)]).map fun q => (q.1, q.2.1.n, ([q.2.1.get 2, q.2.1.get 3, q.2.1.get 4] : List AV), q.2.2.1, q.2.2.2.2)) = some (.ret, 67, [.nilp, .nils, (i64 8)], s1, [obC 16 [(.ptr d 0)] st TT s1]) := by kernel_rfl
theorem f6_1_T {d : Nat} {st s1 : St} (h1 : obC 16 [(.ptr d 0)] st TT s1) {T : Tm} (hT : f6L0 T (.ptr d 0)) : AW Tryd.prog (f6P 1) (fun ex T' st' => ex = .ret ∧ f6L1 T' .nilp .nils (i64 8) ∧ st' = s1) T st := by
  obtain ⟨hn, g0⟩ := hT
  exact (gen_run (G := fun T => ([T.get 2, T.get 3, T.get 4] : List AV)) hE (f6_1_T_e d st s1) (Ob.ok_cons.2 ⟨h1, Ob.ok_nil⟩) hn (one g0)).mono fun ex T' st' ⟨q1, q2, q3, q4⟩ => by simp only [List.cons.injEq, and_true] at q3; exact ⟨q1, ⟨q2, q3⟩, q4⟩
theorem f6_1_F_e (d : Nat) (st s1 : St) : ((evS Tryd.prog E0 noOv noS 100000 [6016] (f6P 1) ⟨67, [(0, (.ptr d 0))], []⟩ st [.eff FF (fun _ => s1)]).map fun q => (q.1, q.2.1.n, ([q.2.1.get 0] : List AV), q.2.2.1, q.2.2.2.2)) = some (.normal, 67, [(.ptr d 0)], s1, [obC 16 [(.ptr d 0)] st FF s1]) := by kernel_rfl
theorem f6_1_F {d : Nat} {st s1 : St} (h1 : obC 16 [(.ptr d 0)] st FF s1) {T : Tm} (hT : f6L0 T (.ptr d 0)) : AW Tryd.prog (f6P 1) (fun ex T' st' => ex = .normal ∧ f6L0 T' (.ptr d 0) ∧ st' = s1) T st := by
  obtain ⟨hn, g0⟩ := hT
  exact (gen_run (G := fun T => ([T.get 0] : List AV)) hE (f6_1_F_e d st s1) (Ob.ok_cons.2 ⟨h1, Ob.ok_nil⟩) hn (one g0)).mono fun ex T' st' ⟨q1, q2, q3, q4⟩ => by simp only [List.cons.injEq, and_true] at q3; exact ⟨q1, ⟨q2, q3⟩, q4⟩
def f6L2 (T : Tm) (a0 a5 : AV) : Prop := T.n = 67 ∧ T.get 0 = a0 ∧ T.get 5 = a5
theorem f6_2_e (d a23 : Nat) (st s1 : St) (v22 : AV) : ((evS Tryd.prog E0 noOv noS 100000 [2023, 7022] (f6P 2) ⟨67, [(0, (.ptr d 0))], []⟩ st [.av v22, .eff (.ptr a23 0) (fun _ => s1)]).map fun q => (q.1, q.2.1.n, ([q.2.1.get 0, q.2.1.get 5] : List AV), q.2.2.1, q.2.2.2.2)) = some (.normal, 67, [(.ptr d 0), (.ptr a23 0)], s1, [buildA E0 54 [(0, (.ptr d 0)), (1, (i64 1))] = some v22, boxA st 54 v22 = some ((.ptr a23 0), s1)]) := by kernel_rfl
theorem f6_2 {d a23 : Nat} {st s1 : St} {v22 : AV} (h1 : buildA E0 54 [(0, (.ptr d 0)), (1, (i64 1))] = some v22) (h2 : boxA st 54 v22 = some ((.ptr a23 0), s1)) {T : Tm} (hT : f6L0 T (.ptr d 0)) : AW Tryd.prog (f6P 2) (fun ex T' st' => ex = .normal ∧ f6L2 T' (.ptr d 0) (.ptr a23 0) ∧ st' = s1) T st := by
  obtain ⟨hn, g0⟩ := hT
  exact (gen_run (G := fun T => ([T.get 0, T.get 5] : List AV)) hE (f6_2_e d a23 st s1 v22) (Ob.ok_cons.2 ⟨h1, (Ob.ok_cons.2 ⟨h2, Ob.ok_nil⟩)⟩) hn (one g0)).mono fun ex T' st' ⟨q1, q2, q3, q4⟩ => by simp only [List.cons.injEq, and_true] at q3; exact ⟨q1, ⟨q2, q3⟩, q4⟩
def f6L3 (T : Tm) (a0 a5 a6 : AV) : Prop := T.n = 67 ∧ T.get 0 = a0 ∧ T.get 5 = a5 ∧ T.get 6 = a6
theorem f6_3_e (d w : Nat) (st : St) : ((evS Tryd.prog E0 noOv noS 100000 [] (f6P 3) ⟨67, [(0, (.ptr d 0)), (5, (.ptr w 0))], []⟩ st []).map fun q => (q.1, q.2.1.n, ([q.2.1.get 0, q.2.1.get 5, q.2.1.get 6] : List AV), q.2.2.1, q.2.2.2.2)) = some (.normal, 67, [(.ptr d 0), (.ptr w 0), .nils], st, []) := by kernel_rfl
theorem f6_3 {d w : Nat} {st : St}  {T : Tm} (hT : f6L2 T (.ptr d 0) (.ptr w 0)) : AW Tryd.prog (f6P 3) (fun ex T' st' => ex = .normal ∧ f6L3 T' (.ptr d 0) (.ptr w 0) .nils ∧ st' = st) T st := by
  obtain ⟨hn, g0, g5⟩ := hT
  exact (gen_run (G := fun T => ([T.get 0, T.get 5, T.get 6] : List AV)) hE (f6_3_e d w st) Ob.ok_nil hn (conz g0 (one g5))).mono fun ex T' st' ⟨q1, q2, q3, q4⟩ => by simp only [List.cons.injEq, and_true] at q3; exact ⟨q1, ⟨q2, q3⟩, q4⟩
def f6L4 (T : Tm) (a0 a5 a6 a25 a26 a27 : AV) : Prop := T.n = 67 ∧ T.get 0 = a0 ∧ T.get 5 = a5 ∧ T.get 6 = a6 ∧ T.get 25 = a25 ∧ T.get 26 = a26 ∧ T.get 27 = a27
theorem f6_4_e (d w : Nat) (v6 v25 : AV) (st s1 : St) (n26 : Int) : ((evS Tryd.prog E0 noOv noS 100000 [6017, 7026] (f6P 4) ⟨67, [(0, (.ptr d 0)), (5, (.ptr w 0)), (6, v6)], []⟩ st [.eff v25 (fun _ => s1), .av (i64 n26)]).map fun q => (q.1, q.2.1.n, ([q.2.1.get 0, q.2.1.get 5, q.2.1.get 6, q.2.1.get 25, q.2.1.get 26, q.2.1.get 27] : List AV), q.2.2.1, q.2.2.2.2)) = some (.normal, 67, [(.ptr d 0), (.ptr w 0), v6, v25, (i64 n26), (i64 0)], s1, [obC 17 [(.ptr w 0)] st v25 s1, lenA E0 55 v25 = some (i64 n26)]) := by kernel_rfl
theorem f6_4 {d w : Nat} {v6 v25 : AV} {st s1 : St} {n26 : Int} (h1 : obC 17 [(.ptr w 0)] st v25 s1) (h2 : lenA E0 55 v25 = some (i64 n26)) {T : Tm} (hT : f6L3 T (.ptr d 0) (.ptr w 0) v6) : AW Tryd.prog (f6P 4) (fun ex T' st' => ex = .normal ∧ f6L4 T' (.ptr d 0) (.ptr w 0) v6 v25 (i64 n26) (i64 0) ∧ st' = s1) T st := by
  obtain ⟨hn, g0, g5, g6⟩ := hT
  exact (gen_run (G := fun T => ([T.get 0, T.get 5, T.get 6, T.get 25, T.get 26, T.get 27] : List AV)) hE (f6_4_e d w v6 v25 st s1 n26) (Ob.ok_cons.2 ⟨h1, (Ob.ok_cons.2 ⟨h2, Ob.ok_nil⟩)⟩) hn (conz g0 (conz g5 (one g6)))).mono fun ex T' st' ⟨q1, q2, q3, q4⟩ => by simp only [List.cons.injEq, and_true] at q3; exact ⟨q1, ⟨q2, q3⟩, q4⟩
def f6L5 (T : Tm) (a0 a5 a6 a25 a26 a27 a28 : AV) : Prop := T.n = 67 ∧ T.get 0 = a0 ∧ T.get 5 = a5 ∧ T.get 6 = a6 ∧ T.get 25 = a25 ∧ T.get 26 = a26 ∧ T.get 27 = a27 ∧ T.get 28 = a28
theorem f6_5_T_e (d w : Nat) (v6 v25 : AV) (n26 n27 : Int) (st : St) : ((evS Tryd.prog E0 noOv noS 100000 [7028] (f6P 5) ⟨67, [(0, (.ptr d 0)), (5, (.ptr w 0)), (6, v6), (25, v25), (26, (i64 n26)), (27, (i64 n27))], []⟩ st [.av TT]).map fun q => (q.1, q.2.1.n, ([q.2.1.get 0, q.2.1.get 5, q.2.1.get 6, q.2.1.get 25, q.2.1.get 26, q.2.1.get 27, q.2.1.get 28] : List AV), q.2.2.1, q.2.2.2.2)) = some (.normal, 67, [(.ptr d 0), (.ptr w 0), v6, v25, (i64 n26), (i64 n27), TT], st, [binA E0 .lss 3 (i64 n27) (i64 n26) = some TT]) := by kernel_rfl
theorem f6_5_T {d w : Nat} {v6 v25 : AV} {n26 n27 : Int} {st : St} (h1 : binA E0 .lss 3 (i64 n27) (i64 n26) = some TT) {T : Tm} (hT : f6L4 T (.ptr d 0) (.ptr w 0) v6 v25 (i64 n26) (i64 n27)) : AW Tryd.prog (f6P 5) (fun ex T' st' => ex = .normal ∧ f6L5 T' (.ptr d 0) (.ptr w 0) v6 v25 (i64 n26) (i64 n27) TT ∧ st' = st) T st := by
  obtain ⟨hn, g0, g5, g6, g25, g26, g27⟩ := hT
  exact (gen_run (G := fun T => ([T.get 0, T.get 5, T.get 6, T.get 25, T.get 26, T.get 27, T.get 28] : List AV)) hE (f6_5_T_e d w v6 v25 n26 n27 st) (Ob.ok_cons.2 ⟨h1, Ob.ok_nil⟩) hn (conz g0 (conz g5 (conz g6 (conz g25 (conz g26 (one g27))))))).mono fun ex T' st' ⟨q1, q2, q3, q4⟩ => by simp only [List.cons.injEq, and_true] at q3; exact ⟨q1, ⟨q2, q3⟩, q4⟩
theorem f6_5_F_e (d w : Nat) (v6 v25 : AV) (n26 n27 : Int) (st : St) : ((evS Tryd.prog E0 noOv noS 100000 [7028] (f6P 5) ⟨67, [(0, (.ptr d 0)), (5, (.ptr w 0)), (6, v6), (25, v25), (26, (i64 n26)), (27, (i64 n27))], []⟩ st [.av FF]).map fun q => (q.1, q.2.1.n, ([q.2.1.get 0, q.2.1.get 5, q.2.1.get 6, q.2.1.get 25, q.2.1.get 26, q.2.1.get 27, q.2.1.get 28] : List AV), q.2.2.1, q.2.2.2.2)) = some (.normal, 67, [(.ptr d 0), (.ptr w 0), v6, v25, (i64 n26), (i64 n27), FF], st, [binA E0 .lss 3 (i64 n27) (i64 n26) = some FF]) := by kernel_rfl
theorem f6_5_F {d w : Nat} {v6 v25 : AV} {n26 n27 : Int} {st : St} (h1 : binA E0 .lss 3 (i64 n27) (i64 n26) = some FF) {T : Tm} (hT : f6L4 T (.ptr d 0) (.ptr w 0) v6 v25 (i64 n26) (i64 n27)) : AW Tryd.prog (f6P 5) (fun ex T' st' => ex = .normal ∧ f6L5 T' (.ptr d 0) (.ptr w 0) v6 v25 (i64 n26) (i64 n27) FF ∧ st' = st) T st := by
  obtain ⟨hn, g0, g5, g6, g25, g26, g27⟩ := hT
  exact (gen_run (G := fun T => ([T.get 0, T.get 5, T.get 6, T.get 25, T.get 26, T.get 27, T.get 28] : List AV)) hE (f6_5_F_e d w v6 v25 n26 n27 st) (Ob.ok_cons.2 ⟨h1, Ob.ok_nil⟩) hn (conz g0 (conz g5 (conz g6 (conz g25 (conz g26 (one g27))))))).mono fun ex T' st' ⟨q1, q2, q3, q4⟩ => by simp only [List.cons.injEq, and_true] at q3; exact ⟨q1, ⟨q2, q3⟩, q4⟩
theorem f6_6_T_e (d w : Nat) (v6 v25 : AV) (n26 n27 : Int) (st : St) : ((evS Tryd.prog E0 noOv noS 100000 [] (f6P 6) ⟨67, [(0, (.ptr d 0)), (5, (.ptr w 0)), (6, v6), (25, v25), (26, (i64 n26)), (27, (i64 n27)), (28, TT)], []⟩ st []).map fun q => (q.1, q.2.1.n, ([q.2.1.get 0, q.2.1.get 5, q.2.1.get 6, q.2.1.get 25, q.2.1.get 26, q.2.1.get 27] : List AV), q.2.2.1, q.2.2.2.2)) = some (.normal, 67, [(.ptr d 0), (.ptr w 0), v6, v25, (i64 n26), (i64 n27)], st, []) := by kernel_rfl
theorem f6_6_T {d w : Nat} {v6 v25 : AV} {n26 n27 : Int} {st : St}  {T : Tm} (hT : f6L5 T (.ptr d 0) (.ptr w 0) v6 v25 (i64 n26) (i64 n27) TT) : AW Tryd.prog (f6P 6) (fun ex T' st' => ex = .normal ∧ f6L4 T' (.ptr d 0) (.ptr w 0) v6 v25 (i64 n26) (i64 n27) ∧ st' = st) T st := by
  obtain ⟨hn, g0, g5, g6, g25, g26, g27, g28⟩ := hT
  exact (gen_run (G := fun T => ([T.get 0, T.get 5, T.get 6, T.get 25, T.get 26, T.get 27] : List AV)) hE (f6_6_T_e d w v6 v25 n26 n27 st) Ob.ok_nil hn (conz g0 (conz g5 (conz g6 (conz g25 (conz g26 (conz g27 (one g28)))))))).mono fun ex T' st' ⟨q1, q2, q3, q4⟩ => by simp only [List.cons.injEq, and_true] at q3; exact ⟨q1, ⟨q2, q3⟩, q4⟩
def f6L6 (T : Tm) (a5 a6 : AV) : Prop := T.n = 67 ∧ T.get 5 = a5 ∧ T.get 6 = a6
theorem f6_6_F_e (d w : Nat) (v6 v25 : AV) (n26 n27 : Int) (st : St) : ((evS Tryd.prog E0 noOv noS 100000 [] (f6P 6) ⟨67, [(0, (.ptr d 0)), (5, (.ptr w 0)), (6, v6), (25, v25), (26, (i64 n26)), (27, (i64 n27)), (28, FF)], []⟩ st []).map fun q => (q.1, q.2.1.n, ([q.2.1.get 5, q.2.1.get 6] : List AV), q.2.2.1, q.2.2.2.2)) = some ((.exit 1), 67, [(.ptr w 0), v6], st, []) := by kernel_rfl
theorem f6_6_F {d w : Nat} {v6 v25 : AV} {n26 n27 : Int} {st : St}  {T : Tm} (hT : f6L5 T (.ptr d 0) (.ptr w 0) v6 v25 (i64 n26) (i64 n27) FF) : AW Tryd.prog (f6P 6) (fun ex T' st' => ex = (.exit 1) ∧ f6L6 T' (.ptr w 0) v6 ∧ st' = st) T st := by
  obtain ⟨hn, g0, g5, g6, g25, g26, g27, g28⟩ := hT
  exact (gen_run (G := fun T => ([T.get 5, T.get 6] : List AV)) hE (f6_6_F_e d w v6 v25 n26 n27 st) Ob.ok_nil hn (conz g0 (conz g5 (conz g6 (conz g25 (conz g26 (conz g27 (one g28)))))))).mono fun ex T' st' ⟨q1, q2, q3, q4⟩ => by simp only [List.cons.injEq, and_true] at q3; exact ⟨q1, ⟨q2, q3⟩, q4⟩
def f6L7 (T : Tm) (a0 a5 a6 a8 a25 a26 a27 : AV) : Prop := T.n = 67 ∧ T.get 0 = a0 ∧ T.get 5 = a5 ∧ T.get 6 = a6 ∧ T.get 8 = a8 ∧ T.get 25 = a25 ∧ T.get 26 = a26 ∧ T.get 27 = a27
theorem f6_7_e (d w : Nat) (v6 v25 q29 : AV) (n26 n27 n30 : Int) (st : St) : ((evS Tryd.prog E0 noOv noS 100000 [2030, 7029] (f6P 7) ⟨67, [(0, (.ptr d 0)), (5, (.ptr w 0)), (6, v6), (25, v25), (26, (i64 n26)), (27, (i64 n27))], []⟩ st [.av q29, .eff (i64 n30) id]).map fun q => (q.1, q.2.1.n, ([q.2.1.get 0, q.2.1.get 5, q.2.1.get 6, q.2.1.get 8, q.2.1.get 25, q.2.1.get 26, q.2.1.get 27] : List AV), q.2.2.1, q.2.2.2.2)) = some (.normal, 67, [(.ptr d 0), (.ptr w 0), v6, (i64 n30), v25, (i64 n26), (i64 n27)], st, [indexAddrA E0 55 v25 (i64 n27) = some q29, loadA E0 st 3 q29 = some (i64 n30) ∧ st = st]) := by kernel_rfl
theorem f6_7 {d w : Nat} {v6 v25 q29 : AV} {n26 n27 n30 : Int} {st : St} (h1 : indexAddrA E0 55 v25 (i64 n27) = some q29) (h2 : loadA E0 st 3 q29 = some (i64 n30)) {T : Tm} (hT : f6L4 T (.ptr d 0) (.ptr w 0) v6 v25 (i64 n26) (i64 n27)) : AW Tryd.prog (f6P 7) (fun ex T' st' => ex = .normal ∧ f6L7 T' (.ptr d 0) (.ptr w 0) v6 (i64 n30) v25 (i64 n26) (i64 n27) ∧ st' = st) T st := by
  obtain ⟨hn, g0, g5, g6, g25, g26, g27⟩ := hT
  exact (gen_run (G := fun T => ([T.get 0, T.get 5, T.get 6, T.get 8, T.get 25, T.get 26, T.get 27] : List AV)) hE (f6_7_e d w v6 v25 q29 n26 n27 n30 st) (Ob.ok_cons.2 ⟨h1, (Ob.ok_cons.2 ⟨⟨h2, rfl⟩, Ob.ok_nil⟩)⟩) hn (conz g0 (conz g5 (conz g6 (conz g25 (conz g26 (one g27))))))).mono fun ex T' st' ⟨q1, q2, q3, q4⟩ => by simp only [List.cons.injEq, and_true] at q3; exact ⟨q1, ⟨q2, q3⟩, q4⟩
def f6L8 (T : Tm) (a0 a5 a6 a8 a9 a25 a26 a27 : AV) : Prop := T.n = 67 ∧ T.get 0 = a0 ∧ T.get 5 = a5 ∧ T.get 6 = a6 ∧ T.get 8 = a8 ∧ T.get 9 = a9 ∧ T.get 25 = a25 ∧ T.get 26 = a26 ∧ T.get 27 = a27
theorem f6_8_e (d w : Nat) (v6 v25 : AV) (n8 n26 n27 n33b : Int) (st s1 : St) (w33a : ByteArray) : ((evS Tryd.prog E0 noOv noS 100000 [6018] (f6P 8) ⟨67, [(0, (.ptr d 0)), (5, (.ptr w 0)), (6, v6), (8, (i64 n8)), (25, v25), (26, (i64 n26)), (27, (i64 n27))], []⟩ st [.eff (.tup [(str w33a), (i64 n33b)]) (fun _ => s1)]).map fun q => (q.1, q.2.1.n, ([q.2.1.get 0, q.2.1.get 5, q.2.1.get 6, q.2.1.get 8, q.2.1.get 9, q.2.1.get 25, q.2.1.get 26, q.2.1.get 27] : List AV), q.2.2.1, q.2.2.2.2)) = some (.normal, 67, [(.ptr d 0), (.ptr w 0), v6, (i64 n8), (str w33a), v25, (i64 n26), (i64 n27)], s1, [obC 18 [(i64 n8)] st (.tup [(str w33a), (i64 n33b)]) s1]) := by kernel_rfl
theorem f6_8 {d w : Nat} {v6 v25 : AV} {n8 n26 n27 n33b : Int} {st s1 : St} {w33a : ByteArray} (h1 : obC 18 [(i64 n8)] st (.tup [(str w33a), (i64 n33b)]) s1) {T : Tm} (hT : f6L7 T (.ptr d 0) (.ptr w 0) v6 (i64 n8) v25 (i64 n26) (i64 n27)) : AW Tryd.prog (f6P 8) (fun ex T' st' => ex = .normal ∧ f6L8 T' (.ptr d 0) (.ptr w 0) v6 (i64 n8) (str w33a) v25 (i64 n26) (i64 n27) ∧ st' = s1) T st := by
  obtain ⟨hn, g0, g5, g6, g8, g25, g26, g27⟩ := hT
  exact (gen_run (G := fun T => ([T.get 0, T.get 5, T.get 6, T.get 8, T.get 9, T.get 25, T.get 26, T.get 27] : List AV)) hE (f6_8_e d w v6 v25 n8 n26 n27 n33b st s1 w33a) (Ob.ok_cons.2 ⟨h1, Ob.ok_nil⟩) hn (conz g0 (conz g5 (conz g6 (conz g8 (conz g25 (conz g26 (one g27)))))))).mono fun ex T' st' ⟨q1, q2, q3, q4⟩ => by simp only [List.cons.injEq, and_true] at q3; exact ⟨q1, ⟨q2, q3⟩, q4⟩
def f6L9 (T : Tm) (a0 a5 a6 a8 a11 a12 a25 a26 a27 : AV) : Prop := T.n = 67 ∧ T.get 0 = a0 ∧ T.get 5 = a5 ∧ T.get 6 = a6 ∧ T.get 8 = a8 ∧ T.get 11 = a11 ∧ T.get 12 = a12 ∧ T.get 25 = a25 ∧ T.get 26 = a26 ∧ T.get 27 = a27
theorem f6_9_e (d w : Nat) (v6 v25 v39a : AV) (n8 n26 n27 n39b : Int) (w9 : ByteArray) (st s1 : St) : ((evS Tryd.prog E0 noOv noS 100000 [6019] (f6P 9) ⟨67, [(0, (.ptr d 0)), (5, (.ptr w 0)), (6, v6), (8, (i64 n8)), (9, (str w9)), (25, v25), (26, (i64 n26)), (27, (i64 n27))], []⟩ st [.eff (.tup [v39a, (i64 n39b)]) (fun _ => s1)]).map fun q => (q.1, q.2.1.n, ([q.2.1.get 0, q.2.1.get 5, q.2.1.get 6, q.2.1.get 8, q.2.1.get 11, q.2.1.get 12, q.2.1.get 25, q.2.1.get 26, q.2.1.get 27] : List AV), q.2.2.1, q.2.2.2.2)) = some (.normal, 67, [(.ptr d 0), (.ptr w 0), v6, (i64 n8), v39a, (i64 n39b), v25, (i64 n26), (i64 n27)], s1, [obC 19 [(.ptr d 0), (str w9)] st (.tup [v39a, (i64 n39b)]) s1]) := by kernel_rfl
theorem f6_9 {d w : Nat} {v6 v25 v39a : AV} {n8 n26 n27 n39b : Int} {w9 : ByteArray} {st s1 : St} (h1 : obC 19 [(.ptr d 0), (str w9)] st (.tup [v39a, (i64 n39b)]) s1) {T : Tm} (hT : f6L8 T (.ptr d 0) (.ptr w 0) v6 (i64 n8) (str w9) v25 (i64 n26) (i64 n27)) : AW Tryd.prog (f6P 9) (fun ex T' st' => ex = .normal ∧ f6L9 T' (.ptr d 0) (.ptr w 0) v6 (i64 n8) v39a (i64 n39b) v25 (i64 n26) (i64 n27) ∧ st' = s1) T st := by
  obtain ⟨hn, g0, g5, g6, g8, g9, g25, g26, g27⟩ := hT
  exact (gen_run (G := fun T => ([T.get 0, T.get 5, T.get 6, T.get 8, T.get 11, T.get 12, T.get 25, T.get 26, T.get 27] : List AV)) hE (f6_9_e d w v6 v25 v39a n8 n26 n27 n39b w9 st s1) (Ob.ok_cons.2 ⟨h1, Ob.ok_nil⟩) hn (conz g0 (conz g5 (conz g6 (conz g8 (conz g9 (conz g25 (conz g26 (one g27))))))))).mono fun ex T' st' ⟨q1, q2, q3, q4⟩ => by simp only [List.cons.injEq, and_true] at q3; exact ⟨q1, ⟨q2, q3⟩, q4⟩
theorem f6_10_T_e (d w : Nat) (v6 v11 v25 : AV) (n8 n12 n26 n27 : Int) (st : St) : ((evS Tryd.prog E0 noOv noS 100000 [7043] (f6P 10) ⟨67, [(0, (.ptr d 0)), (5, (.ptr w 0)), (6, v6), (8, (i64 n8)), (11, v11), (12, (i64 n12)), (25, v25), (26, (i64 n26)), (27, (i64 n27))], []⟩ st [.av TT]).map fun q => (q.1, q.2.1.n, ([q.2.1.get 2, q.2.1.get 3, q.2.1.get 4] : List AV), q.2.2.1, q.2.2.2.2)) = some (.ret, 67, [.nilp, .nils, (i64 n12)], st, [binA E0 .neq 29 (i64 n12) (i64 0) = some TT]) := by kernel_rfl
theorem f6_10_T {d w : Nat} {v6 v11 v25 : AV} {n8 n12 n26 n27 : Int} {st : St} (h1 : binA E0 .neq 29 (i64 n12) (i64 0) = some TT) {T : Tm} (hT : f6L9 T (.ptr d 0) (.ptr w 0) v6 (i64 n8) v11 (i64 n12) v25 (i64 n26) (i64 n27)) : AW Tryd.prog (f6P 10) (fun ex T' st' => ex = .ret ∧ f6L1 T' .nilp .nils (i64 n12) ∧ st' = st) T st := by
  obtain ⟨hn, g0, g5, g6, g8, g11, g12, g25, g26, g27⟩ := hT
  exact (gen_run (G := fun T => ([T.get 2, T.get 3, T.get 4] : List AV)) hE (f6_10_T_e d w v6 v11 v25 n8 n12 n26 n27 st) (Ob.ok_cons.2 ⟨h1, Ob.ok_nil⟩) hn (conz g0 (conz g5 (conz g6 (conz g8 (conz g11 (conz g12 (conz g25 (conz g26 (one g27)))))))))).mono fun ex T' st' ⟨q1, q2, q3, q4⟩ => by simp only [List.cons.injEq, and_true] at q3; exact ⟨q1, ⟨q2, q3⟩, q4⟩
def f6L10 (T : Tm) (a0 a5 a6 a8 a11 a25 a26 a27 : AV) : Prop := T.n = 67 ∧ T.get 0 = a0 ∧ T.get 5 = a5 ∧ T.get 6 = a6 ∧ T.get 8 = a8 ∧ T.get 11 = a11 ∧ T.get 25 = a25 ∧ T.get 26 = a26 ∧ T.get 27 = a27
theorem f6_10_F_e (d w : Nat) (v6 v11 v25 : AV) (n8 n12 n26 n27 : Int) (st : St) : ((evS Tryd.prog E0 noOv noS 100000 [7043] (f6P 10) ⟨67, [(0, (.ptr d 0)), (5, (.ptr w 0)), (6, v6), (8, (i64 n8)), (11, v11), (12, (i64 n12)), (25, v25), (26, (i64 n26)), (27, (i64 n27))], []⟩ st [.av FF]).map fun q => (q.1, q.2.1.n, ([q.2.1.get 0, q.2.1.get 5, q.2.1.get 6, q.2.1.get 8, q.2.1.get 11, q.2.1.get 25, q.2.1.get 26, q.2.1.get 27] : List AV), q.2.2.1, q.2.2.2.2)) = some (.normal, 67, [(.ptr d 0), (.ptr w 0), v6, (i64 n8), v11, v25, (i64 n26), (i64 n27)], st, [binA E0 .neq 29 (i64 n12) (i64 0) = some FF]) := by kernel_rfl
theorem f6_10_F {d w : Nat} {v6 v11 v25 : AV} {n8 n12 n26 n27 : Int} {st : St} (h1 : binA E0 .neq 29 (i64 n12) (i64 0) = some FF) {T : Tm} (hT : f6L9 T (.ptr d 0) (.ptr w 0) v6 (i64 n8) v11 (i64 n12) v25 (i64 n26) (i64 n27)) : AW Tryd.prog (f6P 10) (fun ex T' st' => ex = .normal ∧ f6L10 T' (.ptr d 0) (.ptr w 0) v6 (i64 n8) v11 v25 (i64 n26) (i64 n27) ∧ st' = st) T st := by
  obtain ⟨hn, g0, g5, g6, g8, g11, g12, g25, g26, g27⟩ := hT
  exact (gen_run (G := fun T => ([T.get 0, T.get 5, T.get 6, T.get 8, T.get 11, T.get 25, T.get 26, T.get 27] : List AV)) hE (f6_10_F_e d w v6 v11 v25 n8 n12 n26 n27 st) (Ob.ok_cons.2 ⟨h1, Ob.ok_nil⟩) hn (conz g0 (conz g5 (conz g6 (conz g8 (conz g11 (conz g12 (conz g25 (conz g26 (one g27)))))))))).mono fun ex T' st' ⟨q1, q2, q3, q4⟩ => by simp only [List.cons.injEq, and_true] at q3; exact ⟨q1, ⟨q2, q3⟩, q4⟩
def f6L11 (T : Tm) (a0 a5 a6 a8 a25 a26 a27 a46 a47 a48 : AV) : Prop := T.n = 67 ∧ T.get 0 = a0 ∧ T.get 5 = a5 ∧ T.get 6 = a6 ∧ T.get 8 = a8 ∧ T.get 25 = a25 ∧ T.get 26 = a26 ∧ T.get 27 = a27 ∧ T.get 46 = a46 ∧ T.get 47 = a47 ∧ T.get 48 = a48
theorem f6_11_e (d w : Nat) (v6 v11 v25 v46 : AV) (n8 n26 n27 n47 : Int) (st s1 : St) : ((evS Tryd.prog E0 noOv noS 100000 [6020, 7047] (f6P 11) ⟨67, [(0, (.ptr d 0)), (5, (.ptr w 0)), (6, v6), (8, (i64 n8)), (11, v11), (25, v25), (26, (i64 n26)), (27, (i64 n27))], []⟩ st [.eff v46 (fun _ => s1), .av (i64 n47)]).map fun q => (q.1, q.2.1.n, ([q.2.1.get 0, q.2.1.get 5, q.2.1.get 6, q.2.1.get 8, q.2.1.get 25, q.2.1.get 26, q.2.1.get 27, q.2.1.get 46, q.2.1.get 47, q.2.1.get 48] : List AV), q.2.2.1, q.2.2.2.2)) = some (.normal, 67, [(.ptr d 0), (.ptr w 0), v6, (i64 n8), v25, (i64 n26), (i64 n27), v46, (i64 n47), (i64 0)], s1, [obC 20 [v11] st v46 s1, lenA E0 22 v46 = some (i64 n47)]) := by kernel_rfl
theorem f6_11 {d w : Nat} {v6 v11 v25 v46 : AV} {n8 n26 n27 n47 : Int} {st s1 : St} (h1 : obC 20 [v11] st v46 s1) (h2 : lenA E0 22 v46 = some (i64 n47)) {T : Tm} (hT : f6L10 T (.ptr d 0) (.ptr w 0) v6 (i64 n8) v11 v25 (i64 n26) (i64 n27)) : AW Tryd.prog (f6P 11) (fun ex T' st' => ex = .normal ∧ f6L11 T' (.ptr d 0) (.ptr w 0) v6 (i64 n8) v25 (i64 n26) (i64 n27) v46 (i64 n47) (i64 0) ∧ st' = s1) T st := by
  obtain ⟨hn, g0, g5, g6, g8, g11, g25, g26, g27⟩ := hT
  exact (gen_run (G := fun T => ([T.get 0, T.get 5, T.get 6, T.get 8, T.get 25, T.get 26, T.get 27, T.get 46, T.get 47, T.get 48] : List AV)) hE (f6_11_e d w v6 v11 v25 v46 n8 n26 n27 n47 st s1) (Ob.ok_cons.2 ⟨h1, (Ob.ok_cons.2 ⟨h2, Ob.ok_nil⟩)⟩) hn (conz g0 (conz g5 (conz g6 (conz g8 (conz g11 (conz g25 (conz g26 (one g27))))))))).mono fun ex T' st' ⟨q1, q2, q3, q4⟩ => by simp only [List.cons.injEq, and_true] at q3; exact ⟨q1, ⟨q2, q3⟩, q4⟩
theorem f6_12_T_e (d w : Nat) (v6 v25 v46 q50 v51 v55 v56 v57 : AV) (n8 n26 n27 n47 n48 n58 : Int) (st s1 s2 : St) : ((evS Tryd.prog E0 noOv noS 100000 [2051, 2056, 2057, 7049, 7050, 7055, 7058] (f6P 12) ⟨67, [(0, (.ptr d 0)), (5, (.ptr w 0)), (6, v6), (8, (i64 n8)), (25, v25), (26, (i64 n26)), (27, (i64 n27)), (46, v46), (47, (i64 n47)), (48, (i64 n48))], []⟩ st [.av TT, .av q50, .eff v51 id, .av v55, .eff v56 (fun _ => s1), .eff v57 (fun _ => s2), .av (i64 n58)]).map fun q => (q.1, q.2.1.n, ([q.2.1.get 0, q.2.1.get 5, q.2.1.get 6, q.2.1.get 8, q.2.1.get 25, q.2.1.get 26, q.2.1.get 27, q.2.1.get 46, q.2.1.get 47, q.2.1.get 48] : List AV), q.2.2.1, q.2.2.2.2)) = some (.normal, 67, [(.ptr d 0), (.ptr w 0), v57, (i64 n8), v25, (i64 n26), (i64 n27), v46, (i64 n47), (i64 n58)], s2, [binA E0 .lss 3 (i64 n48) (i64 n47) = some TT, indexAddrA E0 22 v46 (i64 n48) = some q50, loadA E0 st 33 q50 = some v51 ∧ st = st, buildA E0 39 [(0, (i64 n8)), (1, v51)] = some v55, buildSliceA E0 st 28 1 [(0, v55)] = some (v56, s1), appendA E0 s1 28 28 v6 v56 = some (v57, s2), binA E0 .add 3 (i64 n48) (i64 1) = some (i64 n58)]) := by kernel_rfl
theorem f6_12_T {d w : Nat} {v6 v25 v46 q50 v51 v55 v56 v57 : AV} {n8 n26 n27 n47 n48 n58 : Int} {st s1 s2 : St} (h1 : binA E0 .lss 3 (i64 n48) (i64 n47) = some TT) (h2 : indexAddrA E0 22 v46 (i64 n48) = some q50) (h3 : loadA E0 st 33 q50 = some v51) (h4 : buildA E0 39 [(0, (i64 n8)), (1, v51)] = some v55) (h5 : buildSliceA E0 st 28 1 [(0, v55)] = some (v56, s1)) (h6 : appendA E0 s1 28 28 v6 v56 = some (v57, s2)) (h7 : binA E0 .add 3 (i64 n48) (i64 1) = some (i64 n58)) {T : Tm} (hT : f6L11 T (.ptr d 0) (.ptr w 0) v6 (i64 n8) v25 (i64 n26) (i64 n27) v46 (i64 n47) (i64 n48)) : AW Tryd.prog (f6P 12) (fun ex T' st' => ex = .normal ∧ f6L11 T' (.ptr d 0) (.ptr w 0) v57 (i64 n8) v25 (i64 n26) (i64 n27) v46 (i64 n47) (i64 n58) ∧ st' = s2) T st := by
  obtain ⟨hn, g0, g5, g6, g8, g25, g26, g27, g46, g47, g48⟩ := hT
  exact (gen_run (G := fun T => ([T.get 0, T.get 5, T.get 6, T.get 8, T.get 25, T.get 26, T.get 27, T.get 46, T.get 47, T.get 48] : List AV)) hE (f6_12_T_e d w v6 v25 v46 q50 v51 v55 v56 v57 n8 n26 n27 n47 n48 n58 st s1 s2) (Ob.ok_cons.2 ⟨h1, (Ob.ok_cons.2 ⟨h2, (Ob.ok_cons.2 ⟨⟨h3, rfl⟩, (Ob.ok_cons.2 ⟨h4, (Ob.ok_cons.2 ⟨h5, (Ob.ok_cons.2 ⟨h6, (Ob.ok_cons.2 ⟨h7, Ob.ok_nil⟩)⟩)⟩)⟩)⟩)⟩)⟩) hn (conz g0 (conz g5 (conz g6 (conz g8 (conz g25 (conz g26 (conz g27 (conz g46 (conz g47 (one g48))))))))))).mono fun ex T' st' ⟨q1, q2, q3, q4⟩ => by simp only [List.cons.injEq, and_true] at q3; exact ⟨q1, ⟨q2, q3⟩, q4⟩
theorem f6_12_F_e (d w : Nat) (v6 v25 v46 : AV) (n8 n26 n27 n47 n48 : Int) (st : St) : ((evS Tryd.prog E0 noOv noS 100000 [2051, 2056, 2057, 7049, 7050, 7055, 7058] (f6P 12) ⟨67, [(0, (.ptr d 0)), (5, (.ptr w 0)), (6, v6), (8, (i64 n8)), (25, v25), (26, (i64 n26)), (27, (i64 n27)), (46, v46), (47, (i64 n47)), (48, (i64 n48))], []⟩ st [.av FF]).map fun q => (q.1, q.2.1.n, ([q.2.1.get 0, q.2.1.get 5, q.2.1.get 6, q.2.1.get 8, q.2.1.get 25, q.2.1.get 26, q.2.1.get 27] : List AV), q.2.2.1, q.2.2.2.2)) = some ((.exit 3), 67, [(.ptr d 0), (.ptr w 0), v6, (i64 n8), v25, (i64 n26), (i64 n27)], st, [binA E0 .lss 3 (i64 n48) (i64 n47) = some FF]) := by kernel_rfl
theorem f6_12_F {d w : Nat} {v6 v25 v46 : AV} {n8 n26 n27 n47 n48 : Int} {st : St} (h1 : binA E0 .lss 3 (i64 n48) (i64 n47) = some FF) {T : Tm} (hT : f6L11 T (.ptr d 0) (.ptr w 0) v6 (i64 n8) v25 (i64 n26) (i64 n27) v46 (i64 n47) (i64 n48)) : AW Tryd.prog (f6P 12) (fun ex T' st' => ex = (.exit 3) ∧ f6L7 T' (.ptr d 0) (.ptr w 0) v6 (i64 n8) v25 (i64 n26) (i64 n27) ∧ st' = st) T st := by
  obtain ⟨hn, g0, g5, g6, g8, g25, g26, g27, g46, g47, g48⟩ := hT
  exact (gen_run (G := fun T => ([T.get 0, T.get 5, T.get 6, T.get 8, T.get 25, T.get 26, T.get 27] : List AV)) hE (f6_12_F_e d w v6 v25 v46 n8 n26 n27 n47 n48 st) (Ob.ok_cons.2 ⟨h1, Ob.ok_nil⟩) hn (conz g0 (conz g5 (conz g6 (conz g8 (conz g25 (conz g26 (conz g27 (conz g46 (conz g47 (one g48))))))))))).mono fun ex T' st' ⟨q1, q2, q3, q4⟩ => by simp only [List.cons.injEq, and_true] at q3; exact ⟨q1, ⟨q2, q3⟩, q4⟩
theorem f6_13_e (d w : Nat) (v6 v25 : AV) (n8 n26 n27 n61 : Int) (st s1 : St) : ((evS Tryd.prog E0 noOv noS 100000 [5000, 7061] (f6P 13) ⟨67, [(0, (.ptr d 0)), (5, (.ptr w 0)), (6, v6), (8, (i64 n8)), (25, v25), (26, (i64 n26)), (27, (i64 n27))], []⟩ st [.av (i64 n61), .eff .undef (fun _ => s1)]).map fun q => (q.1, q.2.1.n, ([q.2.1.get 0, q.2.1.get 5, q.2.1.get 6, q.2.1.get 25, q.2.1.get 26, q.2.1.get 27] : List AV), q.2.2.1, q.2.2.2.2)) = some (.normal, 67, [(.ptr d 0), (.ptr w 0), v6, v25, (i64 n26), (i64 n27)], s1, [binA E0 .add 3 (i64 n8) (i64 1) = some (i64 n61), storeA E0 st 3 (.ptr w 1) (i64 n61) = some s1]) := by kernel_rfl
theorem f6_13 {d w : Nat} {v6 v25 : AV} {n8 n26 n27 n61 : Int} {st s1 : St} (h1 : binA E0 .add 3 (i64 n8) (i64 1) = some (i64 n61)) (h2 : storeA E0 st 3 (.ptr w 1) (i64 n61) = some s1) {T : Tm} (hT : f6L7 T (.ptr d 0) (.ptr w 0) v6 (i64 n8) v25 (i64 n26) (i64 n27)) : AW Tryd.prog (f6P 13) (fun ex T' st' => ex = .normal ∧ f6L4 T' (.ptr d 0) (.ptr w 0) v6 v25 (i64 n26) (i64 n27) ∧ st' = s1) T st := by
  obtain ⟨hn, g0, g5, g6, g8, g25, g26, g27⟩ := hT
  exact (gen_run (G := fun T => ([T.get 0, T.get 5, T.get 6, T.get 25, T.get 26, T.get 27] : List AV)) hE (f6_13_e d w v6 v25 n8 n26 n27 n61 st s1) (Ob.ok_cons.2 ⟨h1, (Ob.ok_cons.2 ⟨h2, Ob.ok_nil⟩)⟩) hn (conz g0 (conz g5 (conz g6 (conz g8 (conz g25 (conz g26 (one g27)))))))).mono fun ex T' st' ⟨q1, q2, q3, q4⟩ => by simp only [List.cons.injEq, and_true] at q3; exact ⟨q1, ⟨q2, q3⟩, q4⟩
theorem f6_14_e (d w : Nat) (v6 v25 : AV) (n26 n27 n64 : Int) (st : St) : ((evS Tryd.prog E0 noOv noS 100000 [7064] (f6P 14) ⟨67, [(0, (.ptr d 0)), (5, (.ptr w 0)), (6, v6), (25, v25), (26, (i64 n26)), (27, (i64 n27))], []⟩ st [.av (i64 n64)]).map fun q => (q.1, q.2.1.n, ([q.2.1.get 0, q.2.1.get 5, q.2.1.get 6, q.2.1.get 25, q.2.1.get 26, q.2.1.get 27] : List AV), q.2.2.1, q.2.2.2.2)) = some (.normal, 67, [(.ptr d 0), (.ptr w 0), v6, v25, (i64 n26), (i64 n64)], st, [binA E0 .add 3 (i64 n27) (i64 1) = some (i64 n64)]) := by kernel_rfl
theorem f6_14 {d w : Nat} {v6 v25 : AV} {n26 n27 n64 : Int} {st : St} (h1 : binA E0 .add 3 (i64 n27) (i64 1) = some (i64 n64)) {T : Tm} (hT : f6L4 T (.ptr d 0) (.ptr w 0) v6 v25 (i64 n26) (i64 n27)) : AW Tryd.prog (f6P 14) (fun ex T' st' => ex = .normal ∧ f6L4 T' (.ptr d 0) (.ptr w 0) v6 v25 (i64 n26) (i64 n64) ∧ st' = st) T st := by
  obtain ⟨hn, g0, g5, g6, g25, g26, g27⟩ := hT
  exact (gen_run (G := fun T => ([T.get 0, T.get 5, T.get 6, T.get 25, T.get 26, T.get 27] : List AV)) hE (f6_14_e d w v6 v25 n26 n27 n64 st) (Ob.ok_cons.2 ⟨h1, Ob.ok_nil⟩) hn (conz g0 (conz g5 (conz g6 (conz g25 (conz g26 (one g27))))))).mono fun ex T' st' ⟨q1, q2, q3, q4⟩ => by simp only [List.cons.injEq, and_true] at q3; exact ⟨q1, ⟨q2, q3⟩, q4⟩
theorem f6_15_e (w : Nat) (v6 : AV) (st : St) : ((evS Tryd.prog E0 noOv noS 100000 [] (f6P 15) ⟨67, [(5, (.ptr w 0)), (6, v6)], []⟩ st []).map fun q => (q.1, q.2.1.n, ([q.2.1.get 2, q.2.1.get 3, q.2.1.get 4] : List AV), q.2.2.1, q.2.2.2.2)) = some (.ret, 67, [(.ptr w 0), v6, (i64 0)], st, []) := by kernel_rfl
theorem f6_15 {w : Nat} {v6 : AV} {st : St}  {T : Tm} (hT : f6L6 T (.ptr w 0) v6) : AW Tryd.prog (f6P 15) (fun ex T' st' => ex = .ret ∧ f6L1 T' (.ptr w 0) v6 (i64 0) ∧ st' = st) T st := by
  obtain ⟨hn, g5, g6⟩ := hT
  exact (gen_run (G := fun T => ([T.get 2, T.get 3, T.get 4] : List AV)) hE (f6_15_e w v6 st) Ob.ok_nil hn (conz g5 (one g6))).mono fun ex T' st' ⟨q1, q2, q3, q4⟩ => by simp only [List.cons.injEq, and_true] at q3; exact ⟨q1, ⟨q2, q3⟩, q4⟩
end
section
set_option maxRecDepth 4000
/-- the program's log over its disk -/
structure WA (st : St) (w d m : Nat) (s : PS) (nx op ct : Nat) : Prop where
  disk : PDs st d m s
  row : st.get w = some (.row [.ptr d 0, i64 nx, i64 op, i64 ct] 54)
  wf : st.wf
  lock : st.lock = []
theorem p23 {vs : List AV} {off : Nat} {a : AV} (h : vs[off]? = some a) : partA E0 23 vs off = some a := by
  have : (E0.ty 23).map (fun i => isAggD i.desc) = some false := by kernel_rfl
  obtain ⟨i, h1, h2⟩ := Option.map_eq_some_iff.1 this
  exact plainT h1 h2 h
theorem WA.wd {st : St} {w d m nx op ct : Nat} {s : PS} (h : WA st w d m s nx op ct) : w ≠ d := fun e => by
  have := h.disk.row; rw [← e, h.row] at this
  simp at this
theorem WA.wm {st : St} {w d m nx op ct : Nat} {s : PS} (h : WA st w d m s nx op ct) : w ≠ m := fun e => by
  obtain ⟨_, _, hm⟩ := h.disk.map
  rw [← e, h.row] at hm; cases hm
section
variable {st : St} {w d m nx op ct : Nat} {s : PS}
theorem WA.l0 (h : WA st w d m s nx op ct) : loadA E0 st 23 (.ptr w 0) = some (.ptr d 0) := load_row h.row (p23 rfl)
theorem WA.l1 (h : WA st w d m s nx op ct) : loadA E0 st 3 (.ptr w 1) = some (i64 nx) := load_row h.row (p3 rfl)
theorem WA.l2 (h : WA st w d m s nx op ct) : loadA E0 st 3 (.ptr w 2) = some (i64 op) := load_row h.row (p3 rfl)
theorem WA.l3 (h : WA st w d m s nx op ct) : loadA E0 st 3 (.ptr w 3) = some (i64 ct) := load_row h.row (p3 rfl)
theorem WA.rest {st' : St} (h : WA st w d m s nx op ct) (hr : Rest st st' []) : WA st' w d m s nx op ct :=
  ⟨PD.rest h.disk hr, hr.keep _ _ (by simp) h.row, hr.wf, hr.lock.trans h.lock⟩
theorem WA.disk' {st' : St} {s' : PS} (h : WA st w d m s nx op ct) (hp : PDs st' d m s') (hr : Rest st st' [d, m]) : WA st' w d m s' nx op ct :=
  ⟨hp, hr.keep _ _ (by simp [h.wd, h.wm]) h.row, hr.wf, hr.lock.trans h.lock⟩
theorem storeWl {st : St} {w : Nat} {vs : List AV} {ty : Nat} (hg : st.get w = some (.row vs ty)) (hl : st.lock = []) {k : Nat} (hk : k < vs.length) (x : Int) : storeA E0 st 3 (.ptr w k) (i64 x) = some (st.set w (.row (vs.set k (i64 x)) ty)) := by
  have hwg := St.wget_of hg (show w ∉ st.lock by rw [hl]; simp)
  have : vs.take k ++ i64 x :: vs.drop (k + 1) = vs.set k (i64 x) := by rw [List.set_eq_take_append_cons_drop, if_pos hk]
  simp [storeA, avCells, oneA, size3, hwg, this]
  omega
theorem WA.set {vs : List AV} {nx' op' ct' : Nat} (h : WA st w d m s nx op ct) (e : vs = [.ptr d 0, i64 nx', i64 op', i64 ct']) : WA (st.set w (.row vs 54)) w d m s nx' op' ct' ∧ Rest st (st.set w (.row vs 54)) [w] := by
  have hr : Rest st (st.set w (.row vs 54)) [w] := Rest.set h.wf (h.wf _ _ h.row) _ (by simp)
  obtain ⟨bs, c, hm⟩ := h.disk.map
  exact ⟨⟨⟨hr.keep _ _ (by simp [h.wd.symm]) h.disk.row, bs, c, hr.keep _ _ (by simp [h.wm.symm]) hm⟩, by rw [St.get_set, if_pos rfl, e], hr.wf, hr.lock.trans h.lock⟩, hr⟩
def wSync (s : PS) (op : Nat) : Int × PS := if op = 0 then (0, s) else pSync s (nm op)
theorem wsync_ok (h : WA st w d m s nx op ct) (hg : Good s) (ho : op ≤ 9) : ∃ st', obC 9 [.ptr w 0] st (i64 (wSync s op).1) st' ∧ WA st' w d m (wSync s op).2 nx op ct ∧ Rest st st' [d, m] := by
  unfold wSync
  by_cases h0 : op = 0
  · rw [if_pos h0]
    exact ⟨st, f9_T h.l0 h.l2 (eqlT (by omega)), h, Rest.refl h.wf _⟩
  · rw [if_neg h0]
    obtain ⟨s1, r1, k1⟩ := name_ok (k := op) (by omega) h.wf
    have h1 := h.rest k1
    obtain ⟨s2, r2, p2, k2⟩ := sync_ok h1.disk h1.wf h1.lock hg (nm op)
    exact ⟨s2, f9_F h.l0 h.l2 (eqlF (by omega)) h.l2 r1 h1.l0 r2, h1.disk' p2 k2, (k1.weak (by simp)).trans k2⟩
theorem begin_ok (h : WA st w d m s nx op ct) (hf : 0 ≤ s.fu ∧ s.fu ≤ 9223372036854775807) (hn : 1 ≤ nx ∧ nx ≤ 9) : ∃ st', obC 23 [.ptr w 0] st (i64 (pCreate s (nm nx)).1) st' ∧ (((pCreate s (nm nx)).1 = 0 ∧ WA st' w d m (pCreate s (nm nx)).2 (nx + 1) nx 0) ∨ ((pCreate s (nm nx)).1 ≠ 0 ∧ WA st' w d m (pCreate s (nm nx)).2 nx op ct)) ∧ Rest st st' [d, m, w] := by
  obtain ⟨s1, r1, k1⟩ := name_ok hn h.wf
  have h1 := h.rest k1
  obtain ⟨s2, r2, p2, k2⟩ := create_ok h1.disk h1.wf h1.lock hf (nm nx)
  have h2 := h1.disk' p2 k2
  have k12 : Rest st s2 [d, m, w] := (k1.weak (by simp)).trans (k2.weak (by simp))
  by_cases he : (pCreate s (nm nx)).1 = 0
  · rw [he] at r2
    obtain ⟨h3, k3⟩ := h2.set (vs := [.ptr d 0, i64 nx, i64 op, i64 ct].set 2 (i64 nx)) rfl
    obtain ⟨h4, k4⟩ := h3.set (vs := ([.ptr d 0, i64 nx, i64 nx, i64 ct] : List AV).set 3 (i64 (0 : Nat))) rfl
    obtain ⟨h5, k5⟩ := h4.set (vs := ([.ptr d 0, i64 nx, i64 nx, i64 (0 : Nat)] : List AV).set 1 (i64 (nx + 1 : Nat))) rfl
    refine ⟨_, ?_, .inl ⟨he, h5⟩, ((k12.trans (k3.weak (by simp))).trans (k4.weak (by simp))).trans (k5.weak (by simp))⟩
    rw [he]
    exact f23_FF h.l1 r1 (neqF rfl) h1.l0 r2 (neqF rfl) h2.l1 (storeWl h2.row h2.lock (by simp) _) (storeWl h3.row h3.lock (by simp) _) h4.l1 (add64 (by omega)) (storeWl h4.row h4.lock (by simp) _)
  · exact ⟨s2, f23_FT h.l1 r1 (neqF rfl) h1.l0 r2 (neqT he), .inr ⟨he, h2⟩, k12⟩
end
end
section
set_option maxRecDepth 4000
/-! ### what the disk's calls keep -/
structure Fine (s : PS) (U : Nat) : Prop where
  good : Good s
  used : usedL s.L ≤ U
  q : 0 ≤ s.q ∧ s.q ≤ 9223372036854775807
theorem burnN_range {fu : Int} (h : 0 ≤ fu ∧ fu ≤ 9223372036854775807) : 0 ≤ burnN fu ∧ burnN fu ≤ 9223372036854775807 := by
  unfold burnN; split <;> omega
theorem Fine.burnt {s : PS} {U : Nat} (h : Fine s U) : Fine (burnt s) U := ⟨⟨h.good.dv, burnN_range h.good.fu⟩, h.used, h.q⟩
theorem Fine.le {s : PS} {U V : Nat} (h : Fine s U) (hv : U ≤ V) : Fine s V := ⟨h.good, Nat.le_trans h.used hv, h.q⟩
theorem usedL_cons (f : PF) (L : List PF) : usedL (f :: L) = f.bytes.length + usedL L := by simp [usedL]
theorem usedL_append (L M : List PF) : usedL (L ++ M) = usedL L + usedL M := by simp [usedL]
theorem usedL_put : ∀ {L : List PF} {k : Nat} {f f' : PF}, L[k]? = some f → usedL (L.set k f') + f.bytes.length = usedL L + f'.bytes.length
  | [], k, f, f', h => by simp at h
  | g :: r, 0, f, f', h => by
    simp only [List.getElem?_cons_zero, Option.some.injEq] at h; subst h
    rw [List.set_cons_zero, usedL_cons, usedL_cons]; omega
  | g :: r, k + 1, f, f', h => by
    rw [List.getElem?_cons_succ] at h
    rw [List.set_cons_succ, usedL_cons, usedL_cons]
    have := usedL_put (f' := f') h
    omega
theorem mem_put {L : List PF} {k : Nat} {f' g : PF} (h : g ∈ L.set k f') : g = f' ∨ g ∈ L := by
  rcases List.mem_or_eq_of_mem_set h with h | h
  · exact .inr h
  · exact .inl h
theorem Fine.create {s : PS} {U : Nat} (h : Fine s U) (n : ByteArray) : Fine (pCreate s n).2 U := by
  unfold pCreate
  split
  · exact h
  split
  · exact h
  split
  · exact h.burnt
  · refine ⟨⟨fun f hf => ?_, burnN_range h.good.fu⟩, ?_, h.q⟩
    · show DV f ∧ _
      have hf : f ∈ putL s.L ⟨n, .nils, [], 0⟩ := hf
      have hz : DV (⟨n, .nils, [], 0⟩ : PF) ∧ (0 : Nat) ≤ ([] : List Int).length := ⟨.inl ⟨rfl, rfl⟩, Nat.le_refl _⟩
      unfold putL at hf
      split at hf
      · rcases mem_put hf with rfl | hf
        · exact hz
        · exact h.good.dv f hf
      · rcases List.mem_append.1 hf with hf | hf
        · exact h.good.dv f hf
        · rw [List.mem_singleton.1 hf]; exact hz
    · show usedL (putL s.L ⟨n, .nils, [], 0⟩) ≤ U
      have := h.used
      unfold putL
      split
      · rename_i k hk
        obtain ⟨f, h1, _⟩ := find_some hk
        have := usedL_put (f' := ⟨n, .nils, [], 0⟩) h1
        simp only [List.length_nil] at this
        omega
      · rw [usedL_append]; simp [usedL] at *; omega
theorem Fine.sync {s : PS} {U : Nat} (h : Fine s U) (n : ByteArray) : Fine (pSync s n).2 U := by
  unfold pSync
  split
  · exact h
  split
  · exact h.burnt
  split
  · rename_i k hk
    split
    · rename_i f hf
      refine ⟨⟨fun g hg => ?_, burnN_range h.good.fu⟩, ?_, h.q⟩
      · have hg : g ∈ s.L.set k { f with last := f.bytes.length } := hg
        rcases mem_put hg with rfl | hg
        · exact ⟨(h.good.dv f (List.mem_of_getElem? hf)).1, Nat.le_refl _⟩
        · exact h.good.dv g hg
      · show usedL (s.L.set k { f with last := f.bytes.length }) ≤ U
        have := usedL_put (f' := { f with last := f.bytes.length }) hf
        have := h.used
        simp only at *
        omega
    · exact h.burnt
  · exact h.burnt
theorem Fine.app {s s' : PS} {U : Nat} (h : Fine s U) {n : ByteArray} {c : List Int} (ha : AppS s n c s') : Fine s' (U + c.length) := by
  unfold AppS at ha
  split at ha
  · subst ha; exact h.le (by omega)
  split at ha
  · subst ha; exact h.le (by omega)
  split at ha
  · subst ha; exact h.burnt.le (by omega)
  · obtain ⟨k, f, dv, h1, h2, h3, h4, rfl⟩ := ha
    refine ⟨⟨fun g hg => ?_, burnN_range h.good.fu⟩, ?_, h.q⟩
    · have hg : g ∈ s.L.set k ⟨n, dv, f.bytes ++ c, f.last⟩ := hg
      rcases mem_put hg with rfl | hg
      · refine ⟨h4, ?_⟩
        have := (h.good.dv f (List.mem_of_getElem? h2)).2
        show f.last ≤ (f.bytes ++ c).length
        rw [List.length_append]; omega
      · exact h.good.dv g hg
    · show usedL (s.L.set k ⟨n, dv, f.bytes ++ c, f.last⟩) ≤ _
      have := usedL_put (f' := ⟨n, dv, f.bytes ++ c, f.last⟩) h2
      have := h.used
      simp only [List.length_append] at *
      omega
theorem Fine.wsync {s : PS} {U : Nat} (h : Fine s U) (op : Nat) : Fine (wSync s op).2 U := by
  unfold wSync; split
  · exact h
  · exact h.sync _
end
section
set_option maxRecDepth 4000
theorem crcMoreI_ok (c : Int) (len : Nat) (full : Bool) (st : St) (cells : List AV) (xs : List Int) (hlen : len = xs.length) (hl0 : len < 1000000000)
    (hxs : ∀ i, i < len → cells[i]? = some (.val (.int .u8 (xs.getD i 0)))) :
    ACalls Tryd.prog 55 [.val (.int .u32 c), .imm 1 len full cells] (fun r st' => (r, st') = (.val (.int .u32 (crcMore c xs)), st)) st := by
  have hE := envOf_ok (P := Tryd.prog) rfl
  refine ACalls.body (E := E0) hE Tryd.func55 rfl ?_
  have step : ∀ {id : Nat} {ops : Array Oper} {y : Code} {Q : Exit → Tm → St → Prop} {T : Tm} {st : St}, AOps Tryd.prog E0 ops (thenA (AW Tryd.prog y Q) Q) ops.toList T st → AW Tryd.prog (.seq (.region id ops false) y) Q T st := fun h => .seq (.region hE h)
  have f81 : Tryd.f55.ntmps = 33 := rfl
  have hla : lenA E0 33 (.imm 1 len full cells) = some (.val (.int .i64 (len : Nat))) := by
    unfold lenA; rw [ty28]
  refine step ?_
  simp [AOps, wantedA, evOp, pureA, Tm.eval, cv, cv0, thenA, enterT, zipT, Tm.fits]
  refine step ?_
  simp [AOps, wantedA, evOp, pureA, Tm.eval, thenA, Tm.fits, Tm.put, Tm.get, E.look, u_xor]
  refine .seq (step ?_)
  simp [AOps, wantedA, evOp, pureA, Tm.eval, cv, cv0, thenA, Tm.fits, Tm.put, Tm.get, E.look, hla]
  refine .block (.loop (fun n T' st' => st' = st ∧ T'.n = 33 ∧ T'.get 10 = .imm 1 len full cells ∧ T'.get 11 = .val (.int .i64 (len : Nat)) ∧
      ∃ k : Nat, k ≤ len ∧ n = len - k ∧ T'.get 12 = .val (.int .i64 (k : Nat)) ∧ T'.get 5 = .val (.int .u32 ((xs.take k).foldl crcByte (valI (Op.intBits .xor .u32 IntKind.u32.max c))))) len ?_ ?_)
  · exact ⟨rfl, rfl, rfl, rfl, 0, Nat.zero_le _, rfl, rfl, rfl⟩
  · rintro n T' st' ⟨rfl, hTn, hT10, hT11, k, hk, rfl, hT12, hT5⟩
    refine step ?_
    simp [AOps, wantedA, evOp, pureA, Tm.eval, hT12, hT11, b_lss, Tm.fits, hTn, thenA]
    by_cases hlt : k < len
    · refine .seq (.cond (b := true) (by simp [Tm.eval, hlt]) ?_)
      simp only [if_true]
      refine .skip ?_
      simp only [thenA]
      have hx := hxs k hlt
      refine .seq (.block (step ?_))
      have hload : loadA E0 st' 5 (.iptr (cells.drop k)) = some (.val (.int .u8 (xs.getD k 0))) := by
        simp only [loadA, partA, ty5, isAggD, Bool.false_eq_true, if_false, List.getElem?_drop]
        exact hx
      simp [-List.getD_eq_getElem?_getD, AOps, wantedA, evOp, pureA, Tm.eval, hT12, hT10, Tm.fits, hTn, thenA, indexAddrA, ty28, tySize, ty5, hlt, hload]
      refine step ?_
      simp [-List.getD_eq_getElem?_getD, AOps, wantedA, evOp, pureA, Tm.eval, hT5, Tm.fits, hTn, thenA, ty5, ty88, b_xor]
      refine step ?_
      simp [-List.getD_eq_getElem?_getD, AOps, wantedA, evOp, pureA, Tm.eval, cv, cv0, Tm.fits, hTn, thenA]
      generalize hnk : (List.foldl crcByte (valI (Op.intBits BinOp.xor IntKind.u32 IntKind.u32.max c)) (List.take k xs)) = nk
      refine .block (.loop (fun m T2 st2 => st2 = st' ∧ T2.n = 33 ∧ T2.get 10 = .imm 1 len full cells ∧ T2.get 11 = .val (.int .i64 (len : Nat)) ∧ T2.get 12 = .val (.int .i64 (k : Nat)) ∧
        ∃ (v : Int) (j : Nat), j ≤ 8 ∧ m = 8 - j ∧ T2.get 20 = .val (.int .i64 (j : Nat)) ∧ T2.get 5 = .val (.int .u32 v) ∧ iter8 crcBit (8 - j) v = crcByte nk (xs.getD k 0)) 8 ?_ ?_)
      · exact ⟨rfl, hTn, hT10, hT11, hT12, _, 0, by omega, rfl, rfl, rfl, rfl⟩
      · rintro m T2 st2 ⟨rfl, hn2, h10, h11, h12, v, j, hj, rfl, h20, h5, hit⟩
        refine step ?_
        simp [-List.getD_eq_getElem?_getD, AOps, wantedA, evOp, pureA, Tm.eval, cv, cv0, h20, b_lss, Tm.fits, hn2, thenA]
        by_cases hj8 : j < 8
        · refine .seq (.cond (b := true) (by simp [Tm.eval]; omega) ?_)
          simp only [if_true]
          refine .skip ?_
          simp only [thenA]
          refine .seq (.block (.region hE ?_))
          simp [-List.getD_eq_getElem?_getD, AOps, wantedA, evOp, pureA, Tm.eval, cv, cv0, h5, b_xor, b_and, b_shr, u_neg, Tm.fits, hn2, thenA, blockA]
          refine .region hE ?_
          have hadd : binA E0 .add 3 (.val (.int .i64 (j : Nat))) (.val (.int .i64 1)) = some (.val (.int .i64 ((j + 1 : Nat) : Int))) := b_add j 1 (by omega)
          simp [-List.getD_eq_getElem?_getD, -Int.natCast_add, AOps, wantedA, evOp, pureA, Tm.eval, cv, cv0, h20, hadd, Tm.fits, hn2, thenA]
          refine ⟨8 - (j + 1), by omega, h10, h11, h12, _, j + 1, by omega, rfl, by simp, rfl, ?_⟩
          rw [← hit, show 8 - j = (8 - (j + 1)) + 1 by omega]
          rfl
        · refine .seq (.cond (b := false) (by simp [Tm.eval]; omega) ?_)
          simp only [Bool.false_eq_true, if_false]
          refine .exit ?_
          obtain rfl : j = 8 := by omega
          simp only [Nat.sub_self, iter8] at hit
          simp only [thenA, blockA, if_true]
          refine .region hE ?_
          have hadd : binA E0 .add 3 (.val (.int .i64 (k : Nat))) (.val (.int .i64 1)) = some (.val (.int .i64 ((k + 1 : Nat) : Int))) := b_add k 1 (by omega)
          simp [-List.getD_eq_getElem?_getD, -Int.natCast_add, AOps, wantedA, evOp, pureA, Tm.eval, cv, cv0, h12, hadd, Tm.fits, hn2, thenA]
          refine ⟨len - (k + 1), by omega, h10, h11, k + 1, by omega, rfl, by simp, ?_⟩
          rw [h5, hit, List.take_add_one, List.foldl_append, hnk]
          rw [List.getD_eq_getElem?_getD]
          have : k < xs.length := by omega
          rw [List.getElem?_eq_getElem this]
          rfl
    · refine .seq (.cond (b := false) (by simp [Tm.eval, hlt]) ?_)
      simp only [Bool.false_eq_true, if_false]
      refine .exit ?_
      simp only [thenA, blockA, if_true]
      obtain rfl : k = len := by omega
      refine step ?_
      simp [AOps, wantedA, evOp, pureA, Tm.eval, Tm.fits, thenA, hTn, hT5, u_xor]
      refine .ret ?_
      refine ⟨[_], rfl, ?_⟩
      simp only [oneOrTup]
      have : xs.take k = xs := by rw [hlen]; exact List.take_length
      rw [this]
      exact ⟨rfl, trivial⟩

end
section
set_option maxRecDepth 100000
abbrev u32 (n : Int) : AV := .val (.int .u32 n)
abbrev u64 (n : Int) : AV := .val (.int .u64 n)
def ltU (a b : Int) : Bool := boolI (binOp .lss 84 (.int .u64 a) (.int .u64 b))
def gtU (a b : Int) : Bool := boolI (binOp .gtr 84 (.int .u64 a) (.int .u64 b))
def neU (a b : Int) : Bool := boolI (binOp .neq 84 (.int .u64 a) (.int .u64 b))
def shlU (a b : Int) : Int := valI (binOp .shl 84 (.int .u64 a) (.int .u64 b))
def orU (a b : Int) : Int := valI (binOp .or 84 (.int .u64 a) (.int .u64 b))
def shrU (a b : Int) : Int := valI (binOp .shr 84 (.int .u64 a) (.int .u64 b))
def foldN (l : List Int) : Int := l.foldl (fun n b => orU (shlU n 8) (IntKind.u64.wrap b)) 0
def sitesT : Nat → List Nat
  | 22 => [1006, 1010, 2031, 6037, 6036]
  | 37 => [1014, 2036]
  | 34 => [6035, 2037, 41]
  | 35 => [2015, 2020, 2021, 2026, 2028, 5000]
  | 52 => [2007]
  | 53 => [2012, 2023, 1015, 1018]
  | _ => []
noncomputable def takeEv (r : Nat) (n : Int) (st : St) (x : List Or) := (evCallS Tryd.prog E0 noOv sitesT 100000 35 [.ptr r 0, i64 n] st x).map fun q => (q.1, q.2.1, q.2.2.2)
theorem takeRun (r idb off len : Nat) (full : Bool) (n m : Int) (st : St) (a7 : AV) (f1 f2 f3 : St → St) (lf : AV) : takeEv r n st [.eff TT id, FF, .eff (.sl idb 1 off len full) id, FF, .eff a7 f1, .eff (.sl idb 1 off len full) id, .eff (i64 m) f2, .eff (.sl idb 1 off len full) id, .eff lf id, .eff (.tup []) f3]
   = some (.tup [a7, i64 0], f3 (f2 (f1 st)), [obL st 4 (.ptr r 1) TT, bo (ltN n 0) = FF, obL st 33 (.ptr r 0) (.sl idb 1 off len full), bo (gtN n len) = FF, makeSliceA E0 st 33 (i64 n) (i64 n) = some (a7, f1 st), obL (f1 st) 33 (.ptr r 0) (.sl idb 1 off len full),
     copyA E0 (f1 st) 33 33 a7 (.sl idb 1 off len full) = some (i64 m, f2 (f1 st)), obL (f2 (f1 st)) 33 (.ptr r 0) (.sl idb 1 off len full), sliceA E0 (f2 (f1 st)) 33 (.sl idb 1 off len full) (some (i64 n)) none none = some lf ∧ f2 (f1 st) = f2 (f1 st), storeA E0 (f2 (f1 st)) 33 (.ptr r 0) lf = some (f3 (f2 (f1 st)))]) := by kernel_rfl
theorem takeShort (r idb off len : Nat) (full : Bool) (n : Int) (st : St) : takeEv r n st [.eff TT id, FF, .eff (.sl idb 1 off len full) id, TT] = some (.tup [.nils, i64 4], st, [obL st 4 (.ptr r 1) TT, bo (ltN n 0) = FF, obL st 33 (.ptr r 0) (.sl idb 1 off len full), bo (gtN n len) = TT]) := by kernel_rfl
theorem takeShortI (r : Nat) (full : Bool) (n : Int) (st : St) : takeEv r n st [.eff TT id, FF, .eff (.imm 1 0 full []) id, TT] = some (.tup [.nils, i64 4], st, [obL st 4 (.ptr r 1) TT, bo (ltN n 0) = FF, obL st 33 (.ptr r 0) (.imm 1 0 full []), bo (gtN n 0) = TT]) := by kernel_rfl
theorem takeShortN (r : Nat) (n : Int) (st : St) : takeEv r n st [.eff TT id, FF, .eff .nils id, TT] = some (.tup [.nils, i64 4], st, [obL st 4 (.ptr r 1) TT, bo (ltN n 0) = FF, obL st 33 (.ptr r 0) .nils, bo (gtN n 0) = TT]) := by kernel_rfl
noncomputable def numEv (r : Nat) (st : St) (x : List Or) := (evCallS Tryd.prog E0 noOv sitesT 100000 34 [.ptr r 0, i64 4] st x).map fun q => (q.1, q.2.1, q.2.2.2)
/-- ready(0) in it -/
def obR_w (st : St) (r : Nat) (left : AV) (len : Int) : Ob := [obL st 4 (.ptr r 1) TT, bo (ltN 0 0) = FF, obL st 33 (.ptr r 0) left, bo (gtN 0 len) = FF]
theorem numRun (r idb off len new : Nat) (full : Bool) (st : St) (f : St → St) (b0 b1 b2 b3 s : Int) : numEv r st [.eff TT id, FF, .eff (.sl idb 1 off len full) id, FF, .eff (.tup [.sl new 1 0 4 true, i64 0]) f, .eff (u8 b0) id, .eff (u8 b1) id, .eff (u8 b2) id, .eff (u8 b3) id, u64 s]
   = some (.tup [u64 s, i64 0], f st, obR_w st r (.sl idb 1 off len full) len ++ [obC 35 [.ptr r 0, i64 4] st (.tup [.sl new 1 0 4 true, i64 0]) (f st), obL (f st) 5 (.ptr new 0) (u8 b0), obL (f st) 5 (.ptr new 1) (u8 b1), obL (f st) 5 (.ptr new 2) (u8 b2), obL (f st) 5 (.ptr new 3) (u8 b3), u64 (foldN [b0, b1, b2, b3]) = u64 s]) := by kernel_rfl
theorem numShort (r idb off len : Nat) (full : Bool) (st : St) : numEv r st [.eff TT id, FF, .eff (.sl idb 1 off len full) id, FF, .eff (.tup [.nils, i64 4]) id]
   = some (.tup [u64 0, i64 4], st, obR_w st r (.sl idb 1 off len full) len ++ [obC 35 [.ptr r 0, i64 4] st (.tup [.nils, i64 4]) st]) := by kernel_rfl
theorem numShortI (r : Nat) (full : Bool) (st : St) : numEv r st [.eff TT id, FF, .eff (.imm 1 0 full []) id, FF, .eff (.tup [.nils, i64 4]) id]
   = some (.tup [u64 0, i64 4], st, obR_w st r (.imm 1 0 full []) 0 ++ [obC 35 [.ptr r 0, i64 4] st (.tup [.nils, i64 4]) st]) := by kernel_rfl
theorem numShortN (r : Nat) (st : St) : numEv r st [.eff TT id, FF, .eff .nils id, FF, .eff (.tup [.nils, i64 4]) id]
   = some (.tup [u64 0, i64 4], st, obR_w st r .nils 0 ++ [obC 35 [.ptr r 0, i64 4] st (.tup [.nils, i64 4]) st]) := by kernel_rfl
end
section
set_option maxRecDepth 4000
/-! ### operations on bytes, at any store -/
theorem el24 : elemA E0 33 = some (5, ⟨.int .u8, 1, 1, some (.int .u8 0)⟩, [u8 0]) := by kernel_rfl
theorem str24 : isStrTy E0 33 = false := by kernel_rfl
theorem size5 : tySize E0 5 = some 1 := by kernel_rfl
theorem make_ok (st : St) (n : Nat) (h : n ≤ 140737488355328) : makeSliceA E0 st 33 (i64 n) (i64 n) = some (.sl st.next 1 0 n true, st.push (.row (zerosA [u8 0] n) 5)) := by
  simp only [makeSliceA, el24]
  rw [if_pos ⟨by omega, by omega, by omega, by omega⟩]
  simp
theorem part24 {vs : List AV} {off : Nat} {a : AV} (h : vs[off]? = some a) : partA E0 33 vs off = some a := by
  simp only [partA, ty28, isAggD, Bool.false_eq_true, if_false, h]
theorem part4 {vs : List AV} {off : Nat} {a : AV} (h : vs[off]? = some a) : partA E0 4 vs off = some a := by
  simp only [partA, ty4, isAggD, Bool.false_eq_true, if_false, h]
theorem part5 {vs : List AV} {off : Nat} {a : AV} (h : vs[off]? = some a) : partA E0 5 vs off = some a := by
  simp only [partA, ty5, isAggD, Bool.false_eq_true, if_false, h]
theorem zeros_len (n : Nat) : (zerosA [u8 0] n).length = n := by simp [zerosA]
theorem cells_sl {st : St} {id off len : Nat} {full : Bool} {A : List AV} {ty : Nat} (hg : st.get id = some (.row A ty)) (h : off + len ≤ A.length) : sliceCells st (.sl id 1 off len full) = some (len, (A.drop off).take len) := by
  simp only [sliceCells, hg, Nat.mul_one]
  rw [if_pos h]
theorem src_of {st : St} {x : AV} : srcA E0 st 33 x = sliceCells st x := by simp only [srcA, ty28]
theorem copy_ok {st : St} {i idb off len n : Nat} {f2 full : Bool} {A Z : List AV} {ty : Nat} (hi : st.get i = some (.row Z 5)) (hz : Z.length = n) (hl : i ∉ st.lock) (hb : st.get idb = some (.row A ty)) (ho : off + len ≤ A.length) (hn : n ≤ len) :
    copyA E0 st 33 33 (.sl i 1 0 n f2) (.sl idb 1 off len full) = some (i64 n, st.set i (.row ((A.drop off).take n) 5)) := by
  simp only [copyA, el24, src_of, cells_sl hb ho, str24, St.wget_of hi hl]
  have hlen : ((A.drop off).take len).length = len := by simp; omega
  rw [if_pos ⟨by rw [hlen]; omega, fun h => by cases h⟩, if_pos ⟨trivial, by omega⟩]
  have h1 : min len n = n := by omega
  have h2 : List.take n (List.take len (List.drop off A)) = List.take n (List.drop off A) := by rw [List.take_take, Nat.min_eq_left hn]
  have h3 : (List.take n (List.drop off A)).length = n := by simp; omega
  simp only [h1, Nat.mul_one, h2, List.take_zero, List.nil_append, h3, Nat.zero_add]
  have h4 : List.drop n Z = [] := List.drop_eq_nil_of_le (by omega)
  rw [h4, List.append_nil]
theorem slice_ok (st : St) (id off len n : Nat) (full : Bool) (hn : n ≤ len) : sliceA E0 st 33 (.sl id 1 off len full) (some (i64 n)) none none = some (if n = len then .imm 1 0 false [] else .sl id 1 (off + n) (len - n) full) := by
  have e1 : natLe (i64 n) len = some n := by
    show (if 0 ≤ (n : Int) ∧ (n : Int) ≤ len then some (n : Int).toNat else none) = some n
    rw [if_pos ⟨by omega, by omega⟩]; rfl
  have hb : boundsA len len (some (i64 n)) none none = some (n, len, len) := by
    delta boundsA
    simp only [e1]
  simp only [sliceA, ty28, size5, hb, if_true, Nat.mul_one, fullOf]
  by_cases h : n = len
  · rw [if_pos h.symm, if_pos h]
  · rw [if_neg fun e => h e.symm, if_neg h]; simp
theorem store_ok {st : St} {r : Nat} {v w b : AV} {ty : Nat} (hg : st.get r = some (.row [v, b] ty)) (hl : r ∉ st.lock) (hw : avCells w = some [w]) : storeA E0 st 33 (.ptr r 0) w = some (st.set r (.row [w, b] ty)) := by
  simp only [storeA, hw, St.wget_of hg hl, size28]
  simp
end
section
set_option maxRecDepth 4000
theorem run_of {o : Option (AV × St × List Or × Ob)} {a : AV} {st' : St} {ob : Ob} (h : (o.map fun q => (q.1, q.2.1, q.2.2.2)) = some (a, st', ob)) : ∃ x, o = some (a, st', x, ob) := by
  obtain ⟨⟨a1, s1, x1, o1⟩, h1, h2⟩ := Option.map_eq_some_iff.1 h
  simp only [Prod.mk.injEq] at h2
  obtain ⟨rfl, rfl, rfl⟩ := h2
  exact ⟨x1, h1⟩
theorem take_run {r : Nat} {n : Int} {st st' : St} {x : List Or} {a : AV} {ob : Ob} (h : takeEv r n st x = some (a, st', ob)) (hob : ob.ok) : obC 35 [.ptr r 0, i64 n] st a st' := by
  obtain ⟨x1, h1⟩ := run_of h
  exact ACalls.run hE (ov := noOv) noOv_ok h1 hob
theorem num_run {r : Nat} {st st' : St} {x : List Or} {a : AV} {ob : Ob} (h : numEv r st x = some (a, st', ob)) (hob : ob.ok) : obC 34 [.ptr r 0, i64 4] st a st' := by
  obtain ⟨x1, h1⟩ := run_of h
  exact ACalls.run hE (ov := noOv) noOv_ok h1 hob
/-- a reader's bytes: what is left -/
def LeftR (st : St) (v : AV) (bs : List AV) : Prop :=
  (bs = [] ∧ (v = .nils ∨ ∃ f, v = .imm 1 0 f [])) ∨ (bs ≠ [] ∧ ∃ id off full, ∃ B : List Int, v = .sl id 1 off bs.length full ∧ st.get id = some (.row (B.map u8) 5) ∧ (B.map u8).drop off = bs)
def takeSt (st : St) (r : Nat) (ty : Nat) (bs : List AV) (n : Nat) (lf : AV) : St := ((st.push (.row (zerosA [u8 0] n) 5)).set st.next (.row (bs.take n) 5)).set r (.row [lf, TT] ty)
theorem take_ok {st : St} {r ty : Nat} {left : AV} {bs : List AV} {n : Nat} (hw : st.wf) (hl : st.lock = []) (hr : st.get r = some (.row [left, TT] ty)) (hL : LeftR st left bs) (h0 : 0 < n) (hn : n ≤ bs.length) (hb : n ≤ 1000000) (hty : ty ≠ 5) :
    ∃ lf, obC 35 [.ptr r 0, i64 n] st (.tup [.sl st.next 1 0 n true, i64 0]) (takeSt st r ty bs n lf) ∧ LeftR (takeSt st r ty bs n lf) lf (bs.drop n) ∧ ∀ i sz o l f, lf = .sl i sz o l f → i < st.next := by
  rcases hL with ⟨rfl, _⟩ | ⟨hne, id, off, full, B, rfl, hg, hd⟩
  · simp at hn; omega
  have hav : ∀ a : AV, (a = .imm 1 0 false [] ∨ ∃ i o l f, a = .sl i 1 o l f) → avCells a = some [a] := by
    rintro a (rfl | ⟨i, o, l, f, rfl⟩) <;> rfl
  generalize hA : B.map u8 = A at hg hd
  have hlen : off + bs.length ≤ A.length := by
    have := congrArg List.length hd
    simp at this
    have : 0 < bs.length := List.length_pos_iff.2 hne
    omega
  have hid := hw _ _ hg
  have hrl := hw _ _ hr
  have hrid : r ≠ id := fun e => by
    rw [e, hg] at hr
    simp only [Option.some.injEq, AObj.row.injEq] at hr
    exact hty hr.2.symm
  refine ⟨if n = bs.length then .imm 1 0 false [] else .sl id 1 (off + n) (bs.length - n) full, ?_, ?_, ?_⟩
  · refine take_run (takeRun r id off bs.length full n n st (.sl st.next 1 0 n true) (fun s => s.push (.row (zerosA [u8 0] n) 5)) (fun s => s.set st.next (.row (bs.take n) 5)) (fun s => s.set r (.row [if n = bs.length then .imm 1 0 false [] else .sl id 1 (off + n) (bs.length - n) full, TT] ty)) (if n = bs.length then .imm 1 0 false [] else .sl id 1 (off + n) (bs.length - n) full)) ?_
    have g1 : (st.push (.row (zerosA [u8 0] n) 5)).get r = some (.row [.sl id 1 off bs.length full, TT] ty) := by rw [St.get_push, if_neg (by omega)]; exact hr
    have g2 : (st.push (.row (zerosA [u8 0] n) 5)).get id = some (.row A 5) := by rw [St.get_push, if_neg (by omega)]; exact hg
    have g3 : (st.push (.row (zerosA [u8 0] n) 5)).get st.next = some (.row (zerosA [u8 0] n) 5) := by rw [St.get_push, if_pos rfl]
    have g4 : ((st.push (.row (zerosA [u8 0] n) 5)).set st.next (.row (bs.take n) 5)).get r = some (.row [.sl id 1 off bs.length full, TT] ty) := by rw [St.get_set, if_neg (by omega)]; exact g1
    simp only [Ob.ok_cons, Ob.ok_nil, and_true]
    refine ⟨⟨load_row hr (part4 rfl), rfl⟩, lt_F (by omega), ⟨load_row hr (part24 rfl), rfl⟩, gt_F (by omega), make_ok st n (by omega), ⟨load_row g1 (part24 rfl), rfl⟩, ?_, ⟨load_row g4 (part24 rfl), rfl⟩, slice_ok _ id off bs.length n full hn, ?_⟩
    · have := copy_ok (f2 := true) (full := full) g3 (zeros_len n) (by rw [St.lock_push, hl]; simp) g2 hlen hn
      rw [hd] at this
      exact this
    · exact store_ok g4 (by simp [hl]) (by split <;> rfl)
  · by_cases he : n = bs.length
    · rw [if_pos he]
      exact .inl ⟨by rw [he]; exact List.drop_length, .inr ⟨false, rfl⟩⟩
    · rw [if_neg he]
      refine .inr ⟨fun e => ?_, id, off + n, full, B, by rw [List.length_drop], ?_, by rw [hA, ← hd, List.drop_drop]⟩
      · have := congrArg List.length e
        simp at this; omega
      · unfold takeSt
        rw [St.get_set, if_neg (fun e => hrid e.symm), St.get_set, if_neg (by omega), St.get_push, if_neg (by omega)]
        rw [hA]; exact hg
  · intro i sz o l f e
    split at e
    · cases e
    · cases e; exact hid
theorem take_short {st : St} {r ty : Nat} {left : AV} {bs : List AV} {n : Nat} (hr : st.get r = some (.row [left, TT] ty)) (hL : LeftR st left bs) (hn : bs.length < n) :
    obC 35 [.ptr r 0, i64 n] st (.tup [.nils, i64 4]) st := by
  rcases hL with ⟨rfl, rfl | ⟨f, rfl⟩⟩ | ⟨hne, id, off, full, A, rfl, hg, hd⟩
  · refine take_run (takeShortN r n st) ?_
    simp only [Ob.ok_cons, Ob.ok_nil, and_true]
    exact ⟨⟨load_row hr (part4 rfl), rfl⟩, lt_F (by omega), ⟨load_row hr (part24 rfl), rfl⟩, gt_T (by simp at hn; omega)⟩
  · refine take_run (takeShortI r f n st) ?_
    simp only [Ob.ok_cons, Ob.ok_nil, and_true]
    exact ⟨⟨load_row hr (part4 rfl), rfl⟩, lt_F (by omega), ⟨load_row hr (part24 rfl), rfl⟩, gt_T (by simp at hn; omega)⟩
  · refine take_run (takeShort r id off bs.length full n st) ?_
    simp only [Ob.ok_cons, Ob.ok_nil, and_true]
    exact ⟨⟨load_row hr (part4 rfl), rfl⟩, lt_F (by omega), ⟨load_row hr (part24 rfl), rfl⟩, gt_T (by omega)⟩
theorem takeSt_get {st : St} {r ty : Nat} {bs : List AV} {n : Nat} {lf : AV} (i : Nat) : (takeSt st r ty bs n lf).get i = if i = r then some (.row [lf, TT] ty) else if i = st.next then some (.row (bs.take n) 5) else st.get i := by
  unfold takeSt
  rw [St.get_set, St.get_set, St.get_push]
  by_cases h : i = r
  · rw [if_pos h, if_pos h]
  · rw [if_neg h, if_neg h]
    by_cases h2 : i = st.next
    · rw [if_pos h2, if_pos h2]
    · rw [if_neg h2, if_neg h2, if_neg h2]
def num4 (bs : List Int) : Int := foldN (bs.take 4)
theorem num_ok {st : St} {r ty : Nat} {left : AV} {bs : List Int} (hw : st.wf) (hl : st.lock = []) (hr : st.get r = some (.row [left, TT] ty)) (hL : LeftR st left (bs.map u8)) (hn : 4 ≤ bs.length) (hty : ty ≠ 5) :
    ∃ lf, obC 34 [.ptr r 0, i64 4] st (.tup [u64 (num4 bs), i64 0]) (takeSt st r ty (bs.map u8) 4 lf) ∧ LeftR (takeSt st r ty (bs.map u8) 4 lf) lf ((bs.drop 4).map u8) ∧ ∀ i sz o l f, lf = .sl i sz o l f → i < st.next := by
  obtain ⟨lf, k1, k2, k3⟩ := take_ok (n := 4) hw hl hr hL (by omega) (by simpa using hn) (by omega) hty
  rw [← List.map_drop] at k2
  refine ⟨lf, ?_, k2, k3⟩
  rcases hL with ⟨h, _⟩ | ⟨hne, id, off, full, A, rfl, hg, hd⟩
  · simp at h; rw [h] at hn; simp at hn
  match bs, hn with
  | b0 :: b1 :: b2 :: b3 :: rest, _ =>
  have hrn := hw _ _ hr
  have g : (takeSt st r ty ((b0 :: b1 :: b2 :: b3 :: rest).map u8) 4 lf).get st.next = some (.row [u8 b0, u8 b1, u8 b2, u8 b3] 5) := by
    rw [takeSt_get, if_neg (by omega), if_pos rfl]; simp
  refine num_run (numRun r id off ((b0 :: b1 :: b2 :: b3 :: rest).map u8).length st.next full st (fun s => takeSt s r ty ((b0 :: b1 :: b2 :: b3 :: rest).map u8) 4 lf) b0 b1 b2 b3 (num4 (b0 :: b1 :: b2 :: b3 :: rest))) ?_
  simp only [obR_w, List.cons_append, List.nil_append, Ob.ok_cons, Ob.ok_nil, and_true]
  exact ⟨⟨load_row hr (part4 rfl), rfl⟩, lt_F (by omega), ⟨load_row hr (part24 rfl), rfl⟩, gt_F (by omega), k1, ⟨load_row g (part5 rfl), rfl⟩, ⟨load_row g (part5 rfl), rfl⟩, ⟨load_row g (part5 rfl), rfl⟩, ⟨load_row g (part5 rfl), rfl⟩, rfl⟩
theorem num_short {st : St} {r ty : Nat} {left : AV} {bs : List AV} (hr : st.get r = some (.row [left, TT] ty)) (hL : LeftR st left bs) (hn : bs.length < 4) :
    obC 34 [.ptr r 0, i64 4] st (.tup [u64 0, i64 4]) st := by
  have k := take_short (n := 4) hr hL hn
  rcases hL with ⟨rfl, rfl | ⟨f, rfl⟩⟩ | ⟨hne, id, off, full, A, rfl, hg, hd⟩
  · refine num_run (numShortN r st) ?_
    simp only [obR_w, List.cons_append, List.nil_append, Ob.ok_cons, Ob.ok_nil, and_true]
    exact ⟨⟨load_row hr (part4 rfl), rfl⟩, lt_F (by omega), ⟨load_row hr (part24 rfl), rfl⟩, gt_F (by omega), k⟩
  · refine num_run (numShortI r f st) ?_
    simp only [obR_w, List.cons_append, List.nil_append, Ob.ok_cons, Ob.ok_nil, and_true]
    exact ⟨⟨load_row hr (part4 rfl), rfl⟩, lt_F (by omega), ⟨load_row hr (part24 rfl), rfl⟩, gt_F (by omega), k⟩
  · refine num_run (numShort r id off bs.length full st) ?_
    simp only [obR_w, List.cons_append, List.nil_append, Ob.ok_cons, Ob.ok_nil, and_true]
    exact ⟨⟨load_row hr (part4 rfl), rfl⟩, lt_F (by omega), ⟨load_row hr (part24 rfl), rfl⟩, gt_F (by omega), k⟩
end
section
set_option maxRecDepth 100000
noncomputable def splC : Nat → Code := fun i => match Tryd.f20.body with
  | some (.seq r0 (.scope (.seq r1 (.seq r2 (.seq lab (.seq (.block 0 (.loop c)) (.seq r10 _))))))) => [r0, r1, r2, lab, c, r10].getD i .skip
  | _ => .skip
theorem body5 : Tryd.f20.body = some (.seq (splC 0) (.scope (.seq (splC 1) (.seq (splC 2) (.seq (splC 3) (.seq (.block 0 (.loop (splC 4))) (.seq (splC 5) .ret))))))) := by kernel_rfl
def ssS : List Nat := [6033, 6034, 6035, 6036, 20, 24, 36, 47, 2052]
noncomputable def splEv (i : Nat) (l : List (Nat × AV)) (st : St) (x : List Or) := (evS Tryd.prog E0 noOv sitesT 100000 ssS (splC i) ⟨54, l, []⟩ st x).map fun q => (q.1, q.2.1.n, [q.2.1.get 2, q.2.1.get 3, q.2.1.get 4], q.2.2.1, q.2.2.2.2)
def e4 (n : Int) : AV := .tup [u64 n, i64 0]
def eS : AV := .tup [u64 0, i64 4]
section
variable (l l' : AV) (r : Nat) (st : St) (n s m c : Int) (new : Nat) (f1 f2 f3 f4 : St → St)
theorem spA : splEv 4 [(3, l), (4, .ptr r 0)] st [.eff eS id] = some (.exit 0, 54, [.undef, l, .ptr r 0], st, [obC 34 [.ptr r 0, i64 4] st eS st]) := by kernel_rfl
theorem spB : splEv 4 [(3, l), (4, .ptr r 0)] st [.eff (e4 n) f1, TT] = some (.exit 0, 54, [.undef, l, .ptr r 0], f1 st, [obC 34 [.ptr r 0, i64 4] st (e4 n) (f1 st), bo (ltU n 1) = TT]) := by kernel_rfl
theorem spB2 : splEv 4 [(3, l), (4, .ptr r 0)] st [.eff (e4 n) f1, FF, TT] = some (.exit 0, 54, [.undef, l, .ptr r 0], f1 st, [obC 34 [.ptr r 0, i64 4] st (e4 n) (f1 st), bo (ltU n 1) = FF, bo (gtU n 4096) = TT]) := by kernel_rfl
theorem spC : splEv 4 [(3, l), (4, .ptr r 0)] st [.eff (e4 n) f1, FF, FF, .eff eS id] = some (.exit 0, 54, [.undef, l, .ptr r 0], f1 st, [obC 34 [.ptr r 0, i64 4] st (e4 n) (f1 st), bo (ltU n 1) = FF, bo (gtU n 4096) = FF, obC 34 [.ptr r 0, i64 4] (f1 st) eS (f1 st)]) := by kernel_rfl
theorem spD : splEv 4 [(3, l), (4, .ptr r 0)] st [.eff (e4 n) f1, FF, FF, .eff (e4 s) f2, i64 m, .eff (.tup [.nils, i64 4]) id] = some (.exit 0, 54, [.undef, l, .ptr r 0], f2 (f1 st), [obC 34 [.ptr r 0, i64 4] st (e4 n) (f1 st), bo (ltU n 1) = FF, bo (gtU n 4096) = FF, obC 34 [.ptr r 0, i64 4] (f1 st) (e4 s) (f2 (f1 st)), i64 (IntKind.i64.wrap n) = i64 m, obC 35 [.ptr r 0, i64 m] (f2 (f1 st)) (.tup [.nils, i64 4]) (f2 (f1 st))]) := by kernel_rfl
def dS (new : Nat) (k : Nat) : AV := .sl new 1 0 k true
theorem spE (k : Nat) : splEv 4 [(3, l), (4, .ptr r 0)] st [.eff (e4 n) f1, FF, FF, .eff (e4 s) f2, i64 m, .eff (.tup [dS new k, i64 0]) f3, .eff (u32 c) id, TT] = some (.exit 0, 54, [.undef, l, .ptr r 0], f3 (f2 (f1 st)), [obC 34 [.ptr r 0, i64 4] st (e4 n) (f1 st), bo (ltU n 1) = FF, bo (gtU n 4096) = FF, obC 34 [.ptr r 0, i64 4] (f1 st) (e4 s) (f2 (f1 st)), i64 (IntKind.i64.wrap n) = i64 m, obC 35 [.ptr r 0, i64 m] (f2 (f1 st)) (.tup [dS new k, i64 0]) (f3 (f2 (f1 st))), obC 36 [dS new k] (f3 (f2 (f1 st))) (u32 c) (f3 (f2 (f1 st))), bo (neU (IntKind.u64.wrap c) s) = TT]) := by kernel_rfl
theorem spF (k : Nat) : splEv 4 [(3, l), (4, .ptr r 0)] st [.eff (e4 n) f1, FF, FF, .eff (e4 s) f2, i64 m, .eff (.tup [dS new k, i64 0]) f3, .eff (u32 c) id, FF, .eff l' f4] = some (.normal, 54, [.undef, l', .ptr r 0], f4 ((f3 (f2 (f1 st))).push (.row [dS new k] 33)), [obC 34 [.ptr r 0, i64 4] st (e4 n) (f1 st), bo (ltU n 1) = FF, bo (gtU n 4096) = FF, obC 34 [.ptr r 0, i64 4] (f1 st) (e4 s) (f2 (f1 st)), i64 (IntKind.i64.wrap n) = i64 m, obC 35 [.ptr r 0, i64 m] (f2 (f1 st)) (.tup [dS new k, i64 0]) (f3 (f2 (f1 st))), obC 36 [dS new k] (f3 (f2 (f1 st))) (u32 c) (f3 (f2 (f1 st))), bo (neU (IntKind.u64.wrap c) s) = FF, appendA E0 ((f3 (f2 (f1 st))).push (.row [dS new k] 33)) 22 22 l (.sl (f3 (f2 (f1 st))).next 1 0 1 true) = some (l', f4 ((f3 (f2 (f1 st))).push (.row [dS new k] 33)))]) := by kernel_rfl
theorem sp0 : splEv 0 [] st [] = some (.normal, 54, [.nils, .undef, .undef], st, []) := by kernel_rfl
theorem sp1 : splEv 1 [] st [] = some (.normal, 54, [.undef, .nils, .undef], st, []) := by kernel_rfl
theorem sp2 (b : AV) : splEv 2 [(0, b), (3, .nils)] st [.eff (.ptr r 0) f1] = some (.normal, 54, [.undef, .nils, .ptr r 0], f1 st, [obC 33 [b] st (.ptr r 0) (f1 st)]) := by kernel_rfl
theorem sp3 : splEv 3 [(3, .nils), (4, .ptr r 0)] st [] = some (.normal, 54, [.undef, .nils, .ptr r 0], st, []) := by kernel_rfl
theorem sp5 : splEv 5 [(3, l)] st [] = some (.normal, 54, [l, l, .undef], st, []) := by kernel_rfl
noncomputable def sumEv (x : AV) (st : St) (o : List Or) := (evCallS Tryd.prog E0 noOv (fun | 36 => [6055] | _ => []) 100000 36 [x] st o).map fun q => (q.1, q.2.1, q.2.2.2)
theorem sumRun (x : AV) : sumEv x st [.eff (u32 c) id] = some (u32 c, st, [obC 55 [u32 0, x] st (u32 c) st]) := by kernel_rfl
noncomputable def newEv (x : AV) (st : St) (o : List Or) := (evCallS Tryd.prog E0 noOv sitesT 100000 33 [x] st o).map fun q => (q.1, q.2.1, q.2.2.2)
theorem newRun (i off len j nb : Nat) (full : Bool) : newEv (.sl i 1 off len full) st [.eff (.sl j 1 0 nb false) f1] = some (.ptr (f1 (st.push (.row [] 5))).next 0, (f1 (st.push (.row [] 5))).push (.row [.sl j 1 0 nb false, TT] 112), [appendA E0 (st.push (.row [] 5)) 33 33 (.sl st.next 1 0 0 true) (.sl i 1 off len full) = some (.sl j 1 0 nb false, f1 (st.push (.row [] 5)))]) := by kernel_rfl
theorem newRunN : newEv .nils st [] = some (.ptr st.next 0, st.push (.row [.nils, TT] 112), []) := by kernel_rfl
end
end
section
set_option maxRecDepth 4000
theorem ty22 : E0.ty 22 = some ⟨.slice 33, 1, 24, some (.slice none 0 0)⟩ := by kernel_rfl
theorem el22 : elemA E0 22 = some (33, ⟨.slice 5, 1, 24, some (.slice none 0 0)⟩, [.nils]) := by kernel_rfl
theorem str22 : isStrTy E0 22 = false := by kernel_rfl
theorem src22 {st : St} {x : AV} : srcA E0 st 22 x = sliceCells st x := by simp only [srcA, ty22]
/-- append of bytes behind a slice that has no room -/
theorem app_full_w {st : St} {id off len n : Nat} {vs c : List AV} {x : AV} (hg : st.get id = some (.row vs 5)) (ho : off + len ≤ vs.length) (hx : sliceCells st x = some (n, c)) (hc : c.length = n) (h0 : n ≠ 0) (hb : len + n ≤ 1000000) :
    appendA E0 st 33 33 (.sl id 1 off len true) x = some (.sl st.next 1 0 (len + n) false, st.push (.row ((vs.drop off).take len ++ c) 5)) := by
  simp only [appendA, el24, src_of, hx, str24, hg, Nat.mul_one]
  rw [if_pos ⟨hc, fun h => by cases h⟩, if_neg (fun h => h rfl), if_neg h0, if_pos ⟨by omega, by omega⟩, if_pos ⟨trivial, ho⟩, if_pos trivial]
/-- append of bytes behind a whole row -/
theorem app_row_w {st : St} {id len n : Nat} {vs c : List AV} {x : AV} (hg : st.get id = some (.row vs 5)) (hl : st.lock = []) (ho : len = vs.length) (hx : sliceCells st x = some (n, c)) (hc : c.length = n) (h0 : n ≠ 0) (hb : len + n ≤ 1000000) :
    appendA E0 st 33 33 (.sl id 1 0 len false) x = some (.sl st.next 1 0 (len + n) false, (st.del id).push (.row (vs ++ c) 5)) := by
  simp only [appendA, el24, src_of, hx, str24, hg, Nat.mul_one]
  rw [if_pos ⟨hc, fun h => by cases h⟩, if_neg (fun h => h rfl), if_neg h0, if_pos ⟨by omega, by omega⟩, if_pos ⟨trivial, by omega⟩, if_neg (by simp), if_pos ⟨by omega, by rw [hl]; simp⟩, List.drop_zero]
theorem app_nil_w {st : St} {n : Nat} {c : List AV} {x : AV} (hx : sliceCells st x = some (n, c)) (hc : c.length = n) (h0 : n ≠ 0) (hb : n ≤ 1000000) :
    appendA E0 st 33 33 .nils x = some (.sl st.next 1 0 n false, st.push (.row c 5)) := by
  simp only [appendA, el24, src_of, hx, str24, Nat.mul_one]
  rw [if_pos ⟨hc, fun h => by cases h⟩, if_neg h0, if_pos ⟨by omega, by omega⟩]
/-- the same for lists of slices -/
theorem lapp_nil {st : St} {n : Nat} {c : List AV} {x : AV} (hx : sliceCells st x = some (n, c)) (hc : c.length = n) (h0 : n ≠ 0) (hb : n ≤ 1000000) :
    appendA E0 st 22 22 .nils x = some (.sl st.next 1 0 n false, st.push (.row c 33)) := by
  simp only [appendA, el22, src22, hx, str22, Nat.mul_one]
  rw [if_pos ⟨hc, fun h => by cases h⟩, if_neg h0, if_pos ⟨by omega, by omega⟩]
theorem lapp_row {st : St} {id len n : Nat} {vs c : List AV} {x : AV} (hg : st.get id = some (.row vs 33)) (hl : st.lock = []) (ho : len = vs.length) (hx : sliceCells st x = some (n, c)) (hc : c.length = n) (h0 : n ≠ 0) (hb : len + n ≤ 1000000) :
    appendA E0 st 22 22 (.sl id 1 0 len false) x = some (.sl st.next 1 0 (len + n) false, (st.del id).push (.row (vs ++ c) 33)) := by
  simp only [appendA, el22, src22, hx, str22, hg, Nat.mul_one]
  rw [if_pos ⟨hc, fun h => by cases h⟩, if_neg (fun h => h rfl), if_neg h0, if_pos ⟨by omega, by omega⟩, if_pos ⟨trivial, by omega⟩, if_neg (by simp), if_pos ⟨by omega, by rw [hl]; simp⟩, List.drop_zero]
end
section
set_option maxRecDepth 4000
def crcU (d : List Int) : Int := IntKind.u64.wrap (crcMore 0 d)
/-- the first record of a segment's bytes, and what is left -/
def parse1 (bs : List Int) : Option (List Int × List Int) :=
  if bs.length < 4 then none else
  if num4 bs < 1 then none else
  if 4096 < num4 bs then none else
  if (bs.drop 4).length < 4 then none else
  if (bs.drop 8).length < (num4 bs).toNat then none else
  if crcU ((bs.drop 8).take (num4 bs).toNat) ≠ num4 (bs.drop 4) then none else
  some ((bs.drop 8).take (num4 bs).toNat, (bs.drop 8).drop (num4 bs).toNat)
def splitN : Nat → List Int → List (List Int)
  | 0, _ => []
  | k + 1, bs => match parse1 bs with
    | none => []
    | some p => p.1 :: splitN k p.2
theorem parse1_len {bs : List Int} {p : List Int × List Int} (h : parse1 bs = some p) : p.2.length + 8 < bs.length ∧ p.1.length + p.2.length + 8 = bs.length := by
  unfold parse1 at h
  split at h
  · cases h
  split at h
  · cases h
  split at h
  · cases h
  split at h
  · cases h
  split at h
  · cases h
  split at h
  · cases h
  cases h
  simp only [List.length_drop, List.length_take] at *
  omega
theorem splitN_more : ∀ (k j : Nat) (bs : List Int), bs.length ≤ k → bs.length ≤ j → splitN k bs = splitN j bs
  | 0, 0, _, _, _ => rfl
  | 0, j + 1, bs, h, _ => by
    have : bs = [] := List.eq_nil_of_length_eq_zero (by omega)
    subst this
    simp [splitN, parse1]
  | k + 1, 0, bs, _, h => by
    have : bs = [] := List.eq_nil_of_length_eq_zero (by omega)
    subst this
    simp [splitN, parse1]
  | k + 1, j + 1, bs, h1, h2 => by
    simp only [splitN]
    cases hp : parse1 bs with
    | none => rfl
    | some p =>
      have := parse1_len hp
      show p.1 :: splitN k p.2 = p.1 :: splitN j p.2
      rw [splitN_more k j p.2 (by omega) (by omega)]
def recA (d : List Int) : AV := .imm 1 d.length true (d.map u8)
/-- an object without places in it -/
def Plain (o : AObj) : Prop := ∀ id vs, frzO id vs o = o
def Keep (st st' : St) : Prop := ∀ i o, st.get i = some o → Plain o → st'.get i = some o
theorem Keep.refl (st : St) : Keep st st := fun _ _ h _ => h
theorem Keep.trans {a b c : St} (h : Keep a b) (k : Keep b c) : Keep a c := fun i o ho hp => k i o (h i o ho hp) hp
/-- a list of records -/
def LR (st : St) (l : AV) (R : List (List Int)) : Prop := (R = [] ∧ l = .nils) ∨ (R ≠ [] ∧ ∃ id, l = .sl id 1 0 R.length false ∧ st.get id = some (.row (R.map recA) 33))
theorem frz_rec (id : Nat) (vs : List AV) (d : List Int) : frz id vs (recA d) = recA d := by
  simp only [recA, frz, frz_u8]
theorem frz_recs (id : Nat) (vs : List AV) (R : List (List Int)) : frzL id vs (R.map recA) = R.map recA := by
  rw [frzL_eq, List.map_map]
  apply List.map_congr_left
  intro d _
  exact frz_rec id vs d
theorem plain_u8 (d : List Int) (ty : Nat) : Plain (.row (d.map u8) ty) := fun id vs => by simp only [frzO, frz_u8]
theorem ltU_eq (a b : Int) : ltU a b = decide (a < b) := rfl
theorem gtU_eq (a b : Int) : gtU a b = decide (a > b) := rfl
theorem neU_eq (a b : Int) : neU a b = (a != b) := rfl
theorem sum_ok {st : St} {id n : Nat} {f : Bool} {d : List Int} (hg : st.get id = some (.row (d.map u8) 5)) (hn : n = d.length) (hb : n < 1000000000) : obC 36 [.sl id 1 0 n f] st (u32 (crcMore 0 d)) st := by
  obtain ⟨x1, h1⟩ := run_of (sumRun st (crcMore 0 d) (.sl id 1 0 n f))
  refine ACalls.run hE (ov := noOv) noOv_ok h1 ?_
  simp only [Ob.ok_cons, Ob.ok_nil, and_true]
  refine (crcMore_ok 0 id 1 0 n f st (d.map u8) 5 d rfl hg hn hb fun i hi => ?_).mono fun a s e => ?_
  · rw [Nat.zero_add, List.getElem?_map, List.getD_eq_getElem?_getD, List.getElem?_eq_getElem (by omega)]; rfl
  · cases e; exact ⟨rfl, rfl⟩
theorem sum_imm (st : St) {n : Nat} {f : Bool} {d : List Int} (hn : n = d.length) (hb : n < 1000000000) : obC 36 [.imm 1 n f (d.map u8)] st (u32 (crcMore 0 d)) st := by
  obtain ⟨x1, h1⟩ := run_of (sumRun st (crcMore 0 d) (.imm 1 n f (d.map u8)))
  refine ACalls.run hE (ov := noOv) noOv_ok h1 ?_
  simp only [Ob.ok_cons, Ob.ok_nil, and_true]
  refine (crcMoreI_ok 0 n f st (d.map u8) d hn hb fun i hi => ?_).mono fun a s e => ?_
  · rw [List.getElem?_map, List.getD_eq_getElem?_getD, List.getElem?_eq_getElem (by omega)]; rfl
  · cases e; exact ⟨rfl, rfl⟩
/-- what a run of a piece gives -/
theorem spl_run {i : Nat} {l : List (Nat × AV)} {st st1 : St} {x : List Or} {e : Exit} {n : Nat} {a2 a3 a4 : AV} {ob : Ob} (h : splEv i l st x = some (e, n, [a2, a3, a4], st1, ob)) (hob : ob.ok) {T : Tm} (hn : T.n = 54) (hT : ∀ p ∈ l, T.get p.1 = p.2) :
    AW Tryd.prog (splC i) (fun e' T' st' => e' = e ∧ T'.n = n ∧ T'.get 2 = a2 ∧ T'.get 3 = a3 ∧ T'.get 4 = a4 ∧ st' = st1) T st := by
  obtain ⟨⟨e1, T1, s1, x1, o1⟩, h1, h2⟩ := Option.map_eq_some_iff.1 h
  simp only [Prod.mk.injEq, List.cons.injEq] at h2
  obtain ⟨rfl, h3, ⟨h4, h5, h6, _⟩, rfl, rfl⟩ := h2
  refine (AW.run hE (ov := noOv) noOv_ok h1 hob hn hT).mono fun e' T' st' hp => ?_
  obtain ⟨rfl, rfl, rfl⟩ := hp
  exact ⟨rfl, h3, h4, h5, h6, rfl⟩
structure SplI (A : List Int) (st0 : St) (r : Nat) (R : List (List Int)) (bs : List Int) (T : Tm) (st : St) : Prop where
  n : T.n = 54
  r4 : T.get 4 = .ptr r 0
  rd : ∃ left, st.get r = some (.row [left, TT] 112) ∧ LeftR st left (bs.map u8)
  ls : LR st (T.get 3) R
  lock : st.lock = []
  keep : Keep st0 st
  next : st0.next ≤ st.next
  law : R ++ splitN bs.length bs = splitN A.length A
  len : R.length + bs.length ≤ A.length
  lid : ∀ i sz o k f, T.get 3 = .sl i sz o k f → st0.next ≤ i
theorem keep_take {st0 st : St} (hk : Keep st0 st) (hn : st0.next ≤ st.next) (hw0 : st0.wf) {r ty n : Nat} {bs : List AV} {lf : AV} (hr : st0.next ≤ r) : Keep st0 (takeSt st r ty bs n lf) := fun i o ho hp => by
  have := hw0 _ _ ho
  rw [takeSt_get, if_neg (by omega), if_neg (by omega)]
  exact hk i o ho hp
end
section
set_option maxRecDepth 4000
structure DoneI (A : List Int) (st0 : St) (T : Tm) (st : St) : Prop where
  n : T.n = 54
  ls : LR st (T.get 3) (splitN A.length A)
  lock : st.lock = []
  keep : Keep st0 st
  next : st0.next ≤ st.next
theorem lt_FU {a b : Int} (h : b ≤ a) : bo (ltU a b) = FF := ob_F (by rw [ltU_eq]; simp; omega)
theorem lt_TU {a b : Int} (h : a < b) : bo (ltU a b) = TT := ob_T (by rw [ltU_eq]; simp; omega)
theorem gt_FU {a b : Int} (h : a ≤ b) : bo (gtU a b) = FF := ob_F (by rw [gtU_eq]; simp; omega)
theorem gt_TU {a b : Int} (h : b < a) : bo (gtU a b) = TT := ob_T (by rw [gtU_eq]; simp; omega)
theorem split_none {bs : List Int} (h : parse1 bs = none) : splitN bs.length bs = [] := by
  cases hb : bs.length with
  | zero => rfl
  | succ k => simp only [splitN, h]
theorem split_some {bs : List Int} {p : List Int × List Int} (h : parse1 bs = some p) : splitN bs.length bs = p.1 :: splitN p.2.length p.2 := by
  have hl := parse1_len h
  cases hb : bs.length with
  | zero => omega
  | succ k =>
    simp only [splitN, h]
    rw [splitN_more k p.2.length p.2 (by omega) (Nat.le_refl _)]
theorem SplI.done {A : List Int} {st0 : St} {r : Nat} {R : List (List Int)} {bs : List Int} {T : Tm} {st : St} (h : SplI A st0 r R bs T st) (hp : parse1 bs = none) {T' : Tm} {st' : St} (hn : T'.n = 54) (h3 : T'.get 3 = T.get 3)
    (hls : ∀ l, LR st l R → LR st' l R) (hl : st'.lock = []) (hk : Keep st0 st') (hx : st0.next ≤ st'.next) : DoneI A st0 T' st' :=
  ⟨hn, by
    have := h.law
    rw [split_none hp, List.append_nil] at this
    rw [← this, h3]; exact hls _ h.ls, hl, hk, hx⟩
theorem LR_take {st : St} {l : AV} {R : List (List Int)} (h : LR st l R) {left : AV} {r : Nat} (hr : st.get r = some (.row [left, TT] 112)) (hw : st.wf) (bs : List AV) (n : Nat) (lf : AV) : LR (takeSt st r 112 bs n lf) l R := by
  rcases h with ⟨rfl, rfl⟩ | ⟨hne, id, rfl, hg⟩
  · exact .inl ⟨rfl, rfl⟩
  · refine .inr ⟨hne, id, rfl, ?_⟩
    have := hw _ _ hg
    rw [takeSt_get, if_neg (fun e => ?_), if_neg (by omega)]
    · exact hg
    · rw [e, hr] at hg
      simp only [Option.some.injEq, AObj.row.injEq] at hg
      exact absurd hg.2 (by decide)
theorem takeSt_wf {st : St} (hw : st.wf) {r ty n : Nat} {bs : List AV} {lf : AV} (hr : r < st.next) : (takeSt st r ty bs n lf).wf := fun i o ho => by
  rw [takeSt_get] at ho
  show i < st.next + 1
  split at ho
  · omega
  · split at ho
    · omega
    · have := hw _ _ ho; omega
theorem takeSt_lock {st : St} {r ty n : Nat} {bs : List AV} {lf : AV} : (takeSt st r ty bs n lf).lock = st.lock := rfl
theorem takeSt_next {st : St} {r ty n : Nat} {bs : List AV} {lf : AV} : (takeSt st r ty bs n lf).next = st.next + 1 := rfl
theorem takeSt_r {st : St} {r ty n : Nat} {bs : List AV} {lf : AV} : (takeSt st r ty bs n lf).get r = some (.row [lf, TT] ty) := by rw [takeSt_get, if_pos rfl]
/-- a record more -/
theorem app_rec {st3 : St} {l : AV} {R : List (List Int)} (hls : LR st3 l R) (hw : st3.wf) (hl : st3.lock = []) (hb : R.length + 1 ≤ 1000000) (x : AV) :
    ∃ st5, appendA E0 (st3.push (.row [x] 33)) 22 22 l (.sl st3.next 1 0 1 true) = some (.sl (st3.next + 1) 1 0 (R.length + 1) false, st5) ∧ st5.get (st3.next + 1) = some (.row (R.map recA ++ [x]) 33) ∧ st5.lock = [] ∧ st5.next = st3.next + 2 ∧
      ∀ i o, st3.get i = some o → l ≠ .sl i 1 0 R.length false → st5.get i = some o := by
  have hx : sliceCells (st3.push (.row [x] 33)) (.sl st3.next 1 0 1 true) = some (1, [x]) := by
    rw [cells_sl (by rw [St.get_push, if_pos rfl]) (by simp)]
    rfl
  rcases hls with ⟨rfl, rfl⟩ | ⟨hne, id, rfl, hg⟩
  · refine ⟨_, lapp_nil hx rfl (by omega) (by omega), ?_, by simpa using hl, rfl, fun i o ho _ => ?_⟩
    · rw [St.get_push, if_pos (by simp)]; rfl
    · have := hw _ _ ho
      rw [St.get_push, if_neg (by rw [St.next_push]; omega), St.get_push, if_neg (by omega)]; exact ho
  · have hid := hw _ _ hg
    have hg' : (st3.push (.row [x] 33)).get id = some (.row (R.map recA) 33) := by rw [St.get_push, if_neg (by omega)]; exact hg
    refine ⟨_, lapp_row hg' (by simpa using hl) (by simp) hx rfl (by omega) hb, ?_, by simpa using hl, rfl, fun i o ho hne' => ?_⟩
    · rw [St.get_push, if_pos (by simp)]
    · have := hw _ _ ho
      rw [St.get_push, if_neg (by rw [St.next_del, St.next_push]; omega), St.get_del, if_neg (fun e => hne' (by rw [e])), St.get_push, if_neg (by omega)]; exact ho
theorem spl_turn {A : List Int} {st0 : St} {r : Nat} {R : List (List Int)} {bs : List Int} {T : Tm} {st : St} (hI : SplI A st0 r R bs T st) (hA : A.length ≤ 1000000) (hw0 : st0.wf) (hr0 : st0.next ≤ r) :
    AW Tryd.prog (splC 4) (fun e T' st' => (e = .exit 0 ∧ DoneI A st0 T' st') ∨ (e = .normal ∧ ∃ R' bs', bs'.length < bs.length ∧ SplI A st0 r R' bs' T' st')) T st := by
  refine AW.wf fun hw => ?_
  obtain ⟨left, hrd, hL⟩ := hI.rd
  have hrn := hw _ _ hrd
  have hT : ∀ p ∈ [(3, T.get 3), (4, AV.ptr r 0)], T.get p.1 = p.2 := fun p hp => by
    rcases List.mem_cons.1 hp with rfl | hp
    · rfl
    · obtain rfl := List.mem_singleton.1 hp; exact hI.r4
  by_cases h4 : bs.length < 4
  · have hp : parse1 bs = none := by unfold parse1; rw [if_pos h4]
    refine (spl_run (spA (T.get 3) r st) ?_ hI.n hT).mono fun e T' st' ⟨he, hn, _, k3, _, hs⟩ => ?_
    · simp only [Ob.ok_cons, Ob.ok_nil, and_true]
      exact num_short hrd hL (by simpa using h4)
    · subst hs
      exact .inl ⟨he, hI.done hp hn k3 (fun _ h => h) hI.lock hI.keep hI.next⟩
  obtain ⟨lf1, c1, L1, i1⟩ := num_ok hw hI.lock hrd hL (by omega) (by decide)
  have w1 := takeSt_wf (ty := 112) (n := 4) (bs := bs.map u8) (lf := lf1) hw hrn
  have r1 := takeSt_r (st := st) (r := r) (ty := 112) (n := 4) (bs := bs.map u8) (lf := lf1)
  have ls1 := fun l (h : LR st l R) => LR_take h hrd hw (bs.map u8) 4 lf1
  have k1 : Keep st0 (takeSt st r 112 (bs.map u8) 4 lf1) := keep_take hI.keep hI.next hw0 hr0
  have x1 : st0.next ≤ (takeSt st r 112 (bs.map u8) 4 lf1).next := by rw [takeSt_next]; have := hI.next; omega
  have lk1 : (takeSt st r 112 (bs.map u8) 4 lf1).lock = [] := by rw [takeSt_lock]; exact hI.lock
  have rn1 : r < (takeSt st r 112 (bs.map u8) 4 lf1).next := by rw [takeSt_next]; omega
  have hnx1 : (takeSt st r 112 (bs.map u8) 4 lf1).next = st.next + 1 := takeSt_next
  generalize hs1 : takeSt st r 112 (bs.map u8) 4 lf1 = st1 at *
  by_cases hn1 : num4 bs < 1
  · have hp : parse1 bs = none := by unfold parse1; rw [if_neg h4, if_pos hn1]
    refine (spl_run (spB (T.get 3) r st (num4 bs) (fun _ => st1)) ?_ hI.n hT).mono fun e T' st' ⟨he, hn, _, k3, _, hs⟩ => ?_
    · simp only [Ob.ok_cons, Ob.ok_nil, and_true]
      exact ⟨c1, lt_TU (by omega)⟩
    · subst hs
      exact .inl ⟨he, hI.done hp hn k3 ls1 lk1 k1 x1⟩
  by_cases hn2 : 4096 < num4 bs
  · have hp : parse1 bs = none := by unfold parse1; rw [if_neg h4, if_neg hn1, if_pos hn2]
    refine (spl_run (spB2 (T.get 3) r st (num4 bs) (fun _ => st1)) ?_ hI.n hT).mono fun e T' st' ⟨he, hn, _, k3, _, hs⟩ => ?_
    · simp only [Ob.ok_cons, Ob.ok_nil, and_true]
      exact ⟨c1, lt_FU (by omega), gt_TU (by omega)⟩
    · subst hs
      exact .inl ⟨he, hI.done hp hn k3 ls1 lk1 k1 x1⟩
  by_cases h8 : (bs.drop 4).length < 4
  · have hp : parse1 bs = none := by unfold parse1; rw [if_neg h4, if_neg hn1, if_neg hn2, if_pos h8]
    refine (spl_run (spC (T.get 3) r st (num4 bs) (fun _ => st1)) ?_ hI.n hT).mono fun e T' st' ⟨he, hn, _, k3, _, hs⟩ => ?_
    · simp only [Ob.ok_cons, Ob.ok_nil, and_true]
      exact ⟨c1, lt_FU (by omega), gt_FU (by omega), num_short r1 L1 (by simpa using h8)⟩
    · subst hs
      exact .inl ⟨he, hI.done hp hn k3 ls1 lk1 k1 x1⟩
  have hd8 : (bs.drop 4).drop 4 = bs.drop 8 := by rw [List.drop_drop]
  obtain ⟨lf2, c2, L2, i2⟩ := num_ok w1 lk1 r1 L1 (by omega) (by decide)
  rw [hd8] at L2
  have w2 := takeSt_wf (ty := 112) (n := 4) (bs := (bs.drop 4).map u8) (lf := lf2) w1 rn1
  have r2 := takeSt_r (st := st1) (r := r) (ty := 112) (n := 4) (bs := (bs.drop 4).map u8) (lf := lf2)
  have ls2 := fun l (h : LR st1 l R) => LR_take h r1 w1 ((bs.drop 4).map u8) 4 lf2
  have k2 : Keep st0 (takeSt st1 r 112 ((bs.drop 4).map u8) 4 lf2) := keep_take k1 x1 hw0 hr0
  have x2 : st0.next ≤ (takeSt st1 r 112 ((bs.drop 4).map u8) 4 lf2).next := by rw [takeSt_next]; omega
  have lk2 : (takeSt st1 r 112 ((bs.drop 4).map u8) 4 lf2).lock = [] := by rw [takeSt_lock]; exact lk1
  have rn2 : r < (takeSt st1 r 112 ((bs.drop 4).map u8) 4 lf2).next := by rw [takeSt_next]; omega
  generalize hs2 : takeSt st1 r 112 ((bs.drop 4).map u8) 4 lf2 = st2 at *
  obtain ⟨n, hn⟩ : ∃ n : Nat, num4 bs = (n : Int) := ⟨(num4 bs).toNat, by omega⟩
  have hnt : (num4 bs).toNat = n := by rw [hn]; rfl
  have hwr : i64 (IntKind.i64.wrap (num4 bs)) = i64 (n : Int) := by rw [hn, IntWalk.i64_in _ (by omega)]
  by_cases hsh : (bs.drop 8).length < n
  · have hp : parse1 bs = none := by unfold parse1; rw [if_neg h4, if_neg hn1, if_neg hn2, if_neg h8, if_pos (by rw [hnt]; exact hsh)]
    refine (spl_run (spD (T.get 3) r st (num4 bs) (num4 (bs.drop 4)) n (fun _ => st1) (fun _ => st2)) ?_ hI.n hT).mono fun e T' st' ⟨he, hn, _, k3, _, hs⟩ => ?_
    · simp only [Ob.ok_cons, Ob.ok_nil, and_true]
      exact ⟨c1, lt_FU (by omega), gt_FU (by omega), c2, hwr, take_short r2 L2 (by simpa using hsh)⟩
    · subst hs
      exact .inl ⟨he, hI.done hp hn k3 (fun l h => ls2 l (ls1 l h)) lk2 k2 x2⟩
  obtain ⟨lf3, c3, L3, i3⟩ := take_ok (n := n) w2 lk2 r2 L2 (by omega) (by simpa using hsh) (by omega) (by decide)
  rw [← List.map_drop] at L3
  have w3 := takeSt_wf (ty := 112) (n := n) (bs := (bs.drop 8).map u8) (lf := lf3) w2 rn2
  have r3 := takeSt_r (st := st2) (r := r) (ty := 112) (n := n) (bs := (bs.drop 8).map u8) (lf := lf3)
  have ls3 := fun l (h : LR st2 l R) => LR_take h r2 w2 ((bs.drop 8).map u8) n lf3
  have k3 : Keep st0 (takeSt st2 r 112 ((bs.drop 8).map u8) n lf3) := keep_take k2 x2 hw0 hr0
  have x3 : st0.next ≤ (takeSt st2 r 112 ((bs.drop 8).map u8) n lf3).next := by rw [takeSt_next]; omega
  have lk3 : (takeSt st2 r 112 ((bs.drop 8).map u8) n lf3).lock = [] := by rw [takeSt_lock]; exact lk2
  have rn3 : r < (takeSt st2 r 112 ((bs.drop 8).map u8) n lf3).next := by rw [takeSt_next]; omega
  have g3 : (takeSt st2 r 112 ((bs.drop 8).map u8) n lf3).get st2.next = some (.row (((bs.drop 8).take n).map u8) 5) := by
    rw [takeSt_get, if_neg (by omega), if_pos rfl, List.map_take]
  have hnx3 : (takeSt st2 r 112 ((bs.drop 8).map u8) n lf3).next = st2.next + 1 := takeSt_next
  generalize hs3 : takeSt st2 r 112 ((bs.drop 8).map u8) n lf3 = st3 at *
  have hdl : ((bs.drop 8).take n).length = n := by rw [List.length_take]; omega
  have c4 := sum_ok (f := true) g3 hdl.symm (by omega)
  by_cases hcr : crcU ((bs.drop 8).take n) ≠ num4 (bs.drop 4)
  · have hp : parse1 bs = none := by unfold parse1; rw [if_neg h4, if_neg hn1, if_neg hn2, if_neg h8, if_neg (by rw [hnt]; exact hsh), if_pos (by rw [hnt]; exact hcr)]
    refine (spl_run (spE (T.get 3) r st (num4 bs) (num4 (bs.drop 4)) n (crcMore 0 ((bs.drop 8).take n)) st2.next (fun _ => st1) (fun _ => st2) (fun _ => st3) n) ?_ hI.n hT).mono fun e T' st' ⟨he, hn, _, k3', _, hs⟩ => ?_
    · simp only [Ob.ok_cons, Ob.ok_nil, and_true]
      exact ⟨c1, lt_FU (by omega), gt_FU (by omega), c2, hwr, c3, c4, ob_T (by rw [neU_eq]; simpa [crcU] using hcr)⟩
    · subst hs
      exact .inl ⟨he, hI.done hp hn k3' (fun l h => ls3 l (ls2 l (ls1 l h))) lk3 k3 x3⟩
  have hp : parse1 bs = some ((bs.drop 8).take n, (bs.drop 8).drop n) := by
    unfold parse1; rw [if_neg h4, if_neg hn1, if_neg hn2, if_neg h8, if_neg (by rw [hnt]; exact hsh), if_neg (by rw [hnt]; exact hcr), hnt]
  have hlen := parse1_len hp
  simp only at hlen
  have l3 : LR st3 (T.get 3) R := ls3 _ (ls2 _ (ls1 _ hI.ls))
  have hlen2 := hI.len
  obtain ⟨st5, ha, g5, lk5, nx5, kp5⟩ := app_rec l3 w3 lk3 (by omega) (dS st2.next n)
  refine AW.freeze (spl_run (spF (T.get 3) (.sl (st3.next + 1) 1 0 (R.length + 1) false) r st (num4 bs) (num4 (bs.drop 4)) n (crcMore 0 ((bs.drop 8).take n)) st2.next (fun _ => st1) (fun _ => st2) (fun _ => st3) (fun _ => st5) n) ?_ hI.n hT) ?_
  · simp only [Ob.ok_cons, Ob.ok_nil, and_true]
    exact ⟨c1, lt_FU (by omega), gt_FU (by omega), c2, hwr, c3, c4, ob_F (by rw [neU_eq]; simpa [crcU] using hcr), ha⟩
  rintro e T' st' ⟨rfl, hn', _, t3, t4, rfl⟩ _ hw5
  have hF := frzSt_ok (id := st2.next) (vs := ((bs.drop 8).take n).map u8) hw5
  have nl : ∀ (i : Nat) (o : AObj) (vs : List AV) (ty : Nat), st3.get i = some (.row vs ty) → ty ≠ 33 → T.get 3 ≠ .sl i 1 0 R.length false := fun i o vs ty hg hty e => by
    rcases l3 with ⟨_, h⟩ | ⟨_, id, h, hg'⟩
    · rw [h] at e; cases e
    · rw [h] at e; cases e
      rw [hg] at hg'
      simp only [Option.some.injEq, AObj.row.injEq] at hg'
      exact hty hg'.2
  have gd : st'.get st2.next = some (.row (((bs.drop 8).take n).map u8) 5) := kp5 _ _ g3 (nl _ (.siter default 0) _ _ g3 (by decide))
  have gr : st'.get r = some (.row [lf3, TT] 112) := kp5 _ _ r3 (nl _ (.siter default 0) _ _ r3 (by decide))
  have hrn3 : r ≠ st2.next := by omega
  have hfl : frz st2.next (((bs.drop 8).take n).map u8) lf3 = lf3 := by
    rcases L3 with ⟨_, h | ⟨f, h⟩⟩ | ⟨_, id, off, full, B, h, _⟩
    · rw [h]; rfl
    · rw [h]; simp [frz, frzL]
    · rw [h]
      have := i3 _ _ _ _ _ h
      simp only [frz]
      rw [if_neg (by omega)]
  refine ⟨st2.next, _, 5, gd, lk5, .inr ⟨rfl, R ++ [(bs.drop 8).take n], (bs.drop 8).drop n, by omega, ?_⟩⟩
  have t3' : (frzT st2.next (((bs.drop 8).take n).map u8) T').get 3 = .sl (st3.next + 1) 1 0 (R.length + 1) false := by
    rw [frzT_get, t3]
    simp only [frz]
    rw [if_neg (by omega)]
  refine ⟨hn', by rw [frzT_get, t4]; rfl, ⟨lf3, ?_, ?_⟩, .inr ⟨by simp, st3.next + 1, ?_, ?_⟩, lk5, fun i o ho hp => ?_, ?_, ?_, ?_, fun i sz o k f e => ?_⟩
  · rw [hF.get, if_neg hrn3, gr]
    simp only [Option.map_some, frzO, frzL, hfl, frz]
  · rcases L3 with h | ⟨hne, id, off, full, B, h, hg, hd⟩
    · exact .inl h
    · refine .inr ⟨hne, id, off, full, B, h, ?_, hd⟩
      have hi := i3 _ _ _ _ _ h
      rw [hF.get, if_neg (by omega), kp5 _ _ hg (nl _ (.siter default 0) _ _ hg (by decide))]
      simp only [Option.map_some, frzO, frz_u8]
  · rw [t3']; simp
  · rw [hF.get, if_neg (by omega), g5]
    simp only [Option.map_some, frzO]
    rw [frzL_eq, List.map_append, ← frzL_eq, frz_recs, List.map_append]
    congr 3
    simp only [List.map_cons, List.map_nil, dS, frz, if_true, recA, hdl, Nat.mul_one, Nat.zero_add, List.length_map, List.drop_zero, Nat.le_refl]
    rw [List.take_of_length_le (by rw [List.length_map, hdl]; exact Nat.le_refl _)]
  · have hi := hw0 _ _ ho
    have hst3 := k3 i o ho hp
    rw [hF.get, if_neg (by omega)]
    have : st'.get i = some o := kp5 i o hst3 fun e => ?_
    · rw [this, Option.map_some, show frzO _ _ o = o from hp _ _]
    · have := hI.lid _ _ _ _ _ e; omega
  · show st0.next ≤ st'.next
    omega
  · rw [← hI.law, split_some hp]
    simp
  · simp only [List.length_append, List.length_cons, List.length_nil]
    omega
  · rw [t3'] at e; cases e; omega
end
section
set_option maxRecDepth 4000
/-- bytes that a call is given -/
def BytesR (st : St) (b : AV) (A : List Int) : Prop := (A = [] ∧ b = .nils) ∨ (A ≠ [] ∧ ∃ i full, b = .sl i 1 0 A.length full ∧ st.get i = some (.row (A.map u8) 5))
theorem new_ok_w {st : St} {b : AV} {A : List Int} (hw : st.wf) (hb : BytesR st b A) (hA : A.length ≤ 1000000) :
    ∃ r left st', obC 33 [b] st (.ptr r 0) st' ∧ st.next ≤ r ∧ st'.get r = some (.row [left, TT] 112) ∧ LeftR st' left (A.map u8) ∧ Keep st st' ∧ st'.lock = st.lock ∧ st.next ≤ st'.next := by
  rcases hb with ⟨rfl, rfl⟩ | ⟨hne, i, full, rfl, hg⟩
  · obtain ⟨x1, h1⟩ := run_of (newRunN st)
    refine ⟨st.next, .nils, _, ACalls.run hE (ov := noOv) noOv_ok h1 Ob.ok_nil, Nat.le_refl _, by rw [St.get_push, if_pos rfl], .inl ⟨rfl, .inl rfl⟩, fun i o ho _ => ?_, rfl, by simp⟩
    have := hw _ _ ho
    rw [St.get_push, if_neg (by omega)]; exact ho
  · have hi := hw _ _ hg
    have h0 : 0 < A.length := List.length_pos_iff.2 hne
    have hg' : (st.push (.row [] 5)).get i = some (.row (A.map u8) 5) := by rw [St.get_push, if_neg (by omega)]; exact hg
    have ha : appendA E0 (st.push (.row [] 5)) 33 33 (.sl st.next 1 0 0 true) (.sl i 1 0 A.length full) = some (.sl (st.next + 1) 1 0 A.length false, (st.push (.row [] 5)).push (.row (A.map u8) 5)) := by
      have := app_full_w (st := st.push (.row [] 5)) (id := st.next) (off := 0) (len := 0) (n := A.length) (vs := []) (c := A.map u8) (x := .sl i 1 0 A.length full) (by rw [St.get_push, if_pos rfl]) (by simp)
        (by rw [cells_sl hg' (by simp), List.drop_zero, List.take_of_length_le (by simp)]) (by simp) (by omega) (by omega)
      simpa using this
    obtain ⟨x1, h1⟩ := run_of (newRun st (fun _ => (st.push (.row [] 5)).push (.row (A.map u8) 5)) i 0 A.length (st.next + 1) A.length full)
    refine ⟨st.next + 2, .sl (st.next + 1) 1 0 A.length false, _, ACalls.run hE (ov := noOv) noOv_ok h1 ?_, by omega, by rw [St.get_push, if_pos (by simp)], .inr ⟨by simpa using hne, st.next + 1, 0, false, A, by simp, ?_, by simp⟩, fun j o ho _ => ?_, rfl, ?_⟩
    · simp only [Ob.ok_cons, Ob.ok_nil, and_true]
      exact ha
    · rw [St.get_push, if_neg (by simp), St.get_push, if_pos (by simp)]
    · have := hw _ _ ho
      rw [St.get_push, if_neg (by simp; omega), St.get_push, if_neg (by simp; omega), St.get_push, if_neg (by omega)]; exact ho
    · simp; omega
theorem loop_spl {A : List Int} {st0 : St} {r : Nat} (hA : A.length ≤ 1000000) (hw0 : st0.wf) (hr0 : st0.next ≤ r) {T : Tm} {st : St} {bs : List Int} {R : List (List Int)} (h : SplI A st0 r R bs T st) :
    AW Tryd.prog (.loop (splC 4)) (fun e T' st' => e = .exit 0 ∧ DoneI A st0 T' st') T st := by
  refine .loop (fun n T st => ∃ R bs, bs.length = n ∧ SplI A st0 r R bs T st) bs.length ⟨R, bs, rfl, h⟩ fun n T st hI => ?_
  obtain ⟨R, bs, rfl, hI⟩ := hI
  refine (spl_turn hI hA hw0 hr0).mono fun e T' st' hp => ?_
  rcases hp with ⟨rfl, hd⟩ | ⟨rfl, R', bs', hlt, hI'⟩
  · exact ⟨rfl, hd⟩
  · exact ⟨bs'.length, hlt, R', bs', rfl, hI'⟩
noncomputable def splEv0 (i : Nat) (l : List (Nat × AV)) (st : St) (x : List Or) := (evS Tryd.prog E0 noOv sitesT 100000 ssS (splC i) ⟨54, l, []⟩ st x).map fun q => (q.1, q.2.1.n, [q.2.1.get 0, q.2.1.get 3, q.2.1.get 4], q.2.2.1, q.2.2.2.2)
set_option maxRecDepth 100000 in
theorem sq0 (b : AV) (st : St) : splEv0 0 [(0, b)] st [] = some (.normal, 54, [b, .undef, .undef], st, []) := by kernel_rfl
set_option maxRecDepth 100000 in
theorem sq1 (b : AV) (st : St) : splEv0 1 [(0, b)] st [] = some (.normal, 54, [b, .nils, .undef], st, []) := by kernel_rfl
set_option maxRecDepth 100000 in
theorem sq2 (b : AV) (st : St) (r : Nat) (f1 : St → St) : splEv0 2 [(0, b), (3, .nils)] st [.eff (.ptr r 0) f1] = some (.normal, 54, [b, .nils, .ptr r 0], f1 st, [obC 33 [b] st (.ptr r 0) (f1 st)]) := by kernel_rfl
theorem spl_run0 {i : Nat} {l : List (Nat × AV)} {st st1 : St} {x : List Or} {e : Exit} {n : Nat} {a0 a3 a4 : AV} {ob : Ob} (h : splEv0 i l st x = some (e, n, [a0, a3, a4], st1, ob)) (hob : ob.ok) {T : Tm} (hn : T.n = 54) (hT : ∀ p ∈ l, T.get p.1 = p.2) :
    AW Tryd.prog (splC i) (fun e' T' st' => e' = e ∧ T'.n = n ∧ T'.get 0 = a0 ∧ T'.get 3 = a3 ∧ T'.get 4 = a4 ∧ st' = st1) T st := by
  obtain ⟨⟨e1, T1, s1, x1, o1⟩, h1, h2⟩ := Option.map_eq_some_iff.1 h
  simp only [Prod.mk.injEq, List.cons.injEq] at h2
  obtain ⟨rfl, h3, ⟨h4, h5, h6, _⟩, rfl, rfl⟩ := h2
  refine (AW.run hE (ov := noOv) noOv_ok h1 hob hn hT).mono fun e' T' st' hp => ?_
  obtain ⟨rfl, rfl, rfl⟩ := hp
  exact ⟨rfl, h3, h4, h5, h6, rfl⟩
theorem split_ok {st : St} {b : AV} {A : List Int} (hl : st.lock = []) (hb : BytesR st b A) (hA : A.length ≤ 1000000) :
    ACalls Tryd.prog 20 [b] (fun a st' => LR st' a (splitN A.length A) ∧ Keep st st' ∧ st'.lock = [] ∧ st.next ≤ st'.next) st := by
  refine ACalls.wf fun hw => ACalls.body (E := E0) hE Tryd.func20 body5 ?_
  obtain ⟨r, left, st1, hnew, hr0, hrd, hL, hk, hlk, hnx⟩ := new_ok_w hw hb hA
  have one : ∀ {P : Nat × AV → Prop} {p : Nat × AV}, P p → ∀ q ∈ [p], P q := fun h q hq => by obtain rfl := List.mem_singleton.1 hq; exact h
  have two : ∀ {P : Nat × AV → Prop} {p p' : Nat × AV}, P p → P p' → ∀ q ∈ [p, p'], P q := fun h h' q hq => by
    rcases List.mem_cons.1 hq with rfl | hq
    · exact h
    · obtain rfl := List.mem_singleton.1 hq; exact h'
  refine .seq ((spl_run0 (sq0 b st) Ob.ok_nil rfl (one rfl)).mono fun e T1 s1 ⟨he, n1, b0, _, _, hs⟩ => ?_)
  subst he; subst hs
  simp only [thenA]
  refine .scope (.seq ((spl_run0 (sq1 b s1) Ob.ok_nil n1 (one b0)).mono fun e T2 s2 ⟨he, n2, c0, c3, _, hs⟩ => ?_))
  subst he; subst hs
  simp only [thenA]
  refine .seq ((spl_run0 (sq2 b s2 r (fun _ => st1)) (by simp only [Ob.ok_cons, Ob.ok_nil, and_true]; exact hnew) n2 (two c0 c3)).mono fun e T3 s3 ⟨he, n3, _, d3, d4, hs⟩ => ?_)
  subst he; subst hs
  simp only [thenA]
  refine .seq ((spl_run (sp3 r s3) Ob.ok_nil n3 (two d3 d4)).mono fun e T4 s4 ⟨he, n4, _, e3, e4, hs⟩ => ?_)
  subst he; subst hs
  simp only [thenA]
  refine .seq (.block ((loop_spl hA hw hr0 (R := []) (bs := A) ⟨n4, e4, ⟨left, hrd, hL⟩, .inl ⟨rfl, e3⟩, by rw [hlk]; exact hl, hk, hnx, rfl, by simp, fun i sz o k f h => by rw [e3] at h; cases h⟩).mono fun e T5 s5 ⟨he, hd⟩ => ?_))
  subst he
  simp only [blockA, if_true, thenA]
  refine .seq ((spl_run (sp5 (T5.get 3) s5) Ob.ok_nil hd.n (one rfl)).mono fun e T6 s6 ⟨he, n6, f2, _, _, hs⟩ => ?_)
  subst he; subst hs
  simp only [thenA]
  refine .ret ⟨fun l h => (by cases h), [T6.get 2], rfl, ?_⟩
  simp only [oneOrTup]
  rw [f2]
  exact ⟨hd.ls, hd.keep, hd.lock, hd.next⟩
end
section
set_option maxRecDepth 100000
def byteAt (n c : Int) : Int := IntKind.u8.wrap (shrU n c)
def be4 (n : Int) : List Int := [byteAt n 24, byteAt n 16, byteAt n 8, byteAt n 0]
def sitesF : Nat → List Nat
  | 22 => [1006, 1010, 2031, 6037, 6036]
  | 37 => [1014, 2036]
  | 52 => [2007]
  | _ => []
noncomputable def wnumEv (b : AV) (n : Int) (st : St) (o : List Or) := (evCallS Tryd.prog E0 noOv sitesF 100000 37 [b, u64 n, i64 4] st o).map fun q => (q.1, q.2.1, q.2.2.2)
def apP (st : St) (s x a : AV) (st' : St) : Prop := appendA E0 st 33 33 s x = some (a, st')
section
variable (n : Int) (st : St) (i1 i2 i3 i4 i5 m1 m2 m3 m4 m5 : Nat) (g1 g2 g3 g4 g5 : St → St)
def pu (st : St) (b : Int) : St := st.push (.row [u8 b] 5)
def S4 (i m : Nat) : AV := .sl i 1 0 m false
theorem wnumN : wnumEv .nils n st [FF, .eff (S4 i1 m1) g1, .eff (S4 i2 m2) g2, .eff (S4 i3 m3) g3, .eff (S4 i4 m4) g4] = some (.tup [S4 i4 m4, i64 0], g4 (pu (g3 (pu (g2 (pu (g1 (pu st (byteAt n 24))) (byteAt n 16))) (byteAt n 8))) (byteAt n 0)),
   [bo (gtU n 4294967295) = FF, apP (pu st (byteAt n 24)) .nils (.sl st.next 1 0 1 true) (S4 i1 m1) (g1 (pu st (byteAt n 24))),
    apP (pu (g1 (pu st (byteAt n 24))) (byteAt n 16)) (S4 i1 m1) (.sl (g1 (pu st (byteAt n 24))).next 1 0 1 true) (S4 i2 m2) (g2 (pu (g1 (pu st (byteAt n 24))) (byteAt n 16))),
    apP (pu (g2 (pu (g1 (pu st (byteAt n 24))) (byteAt n 16))) (byteAt n 8)) (S4 i2 m2) (.sl (g2 (pu (g1 (pu st (byteAt n 24))) (byteAt n 16))).next 1 0 1 true) (S4 i3 m3) (g3 (pu (g2 (pu (g1 (pu st (byteAt n 24))) (byteAt n 16))) (byteAt n 8))),
    apP (pu (g3 (pu (g2 (pu (g1 (pu st (byteAt n 24))) (byteAt n 16))) (byteAt n 8))) (byteAt n 0)) (S4 i3 m3) (.sl (g3 (pu (g2 (pu (g1 (pu st (byteAt n 24))) (byteAt n 16))) (byteAt n 8))).next 1 0 1 true) (S4 i4 m4) (g4 (pu (g3 (pu (g2 (pu (g1 (pu st (byteAt n 24))) (byteAt n 16))) (byteAt n 8))) (byteAt n 0)))]) := by kernel_rfl
theorem wnumS (j mj : Nat) (fl : Bool) : wnumEv (.sl j 1 0 mj fl) n st [FF, .eff (S4 i5 m5) g5, .eff (S4 i1 m1) g1, .eff (S4 i2 m2) g2, .eff (S4 i3 m3) g3, .eff (S4 i4 m4) g4] = some (.tup [S4 i4 m4, i64 0], g4 (pu (g3 (pu (g2 (pu (g1 (pu (g5 (st.push (.row [] 5))) (byteAt n 24))) (byteAt n 16))) (byteAt n 8))) (byteAt n 0)),
   [bo (gtU n 4294967295) = FF, apP (st.push (.row [] 5)) (.sl st.next 1 0 0 true) (.sl j 1 0 mj fl) (S4 i5 m5) (g5 (st.push (.row [] 5))),
    apP (pu (g5 (st.push (.row [] 5))) (byteAt n 24)) (S4 i5 m5) (.sl (g5 (st.push (.row [] 5))).next 1 0 1 true) (S4 i1 m1) (g1 (pu (g5 (st.push (.row [] 5))) (byteAt n 24))),
    apP (pu (g1 (pu (g5 (st.push (.row [] 5))) (byteAt n 24))) (byteAt n 16)) (S4 i1 m1) (.sl (g1 (pu (g5 (st.push (.row [] 5))) (byteAt n 24))).next 1 0 1 true) (S4 i2 m2) (g2 (pu (g1 (pu (g5 (st.push (.row [] 5))) (byteAt n 24))) (byteAt n 16))),
    apP (pu (g2 (pu (g1 (pu (g5 (st.push (.row [] 5))) (byteAt n 24))) (byteAt n 16))) (byteAt n 8)) (S4 i2 m2) (.sl (g2 (pu (g1 (pu (g5 (st.push (.row [] 5))) (byteAt n 24))) (byteAt n 16))).next 1 0 1 true) (S4 i3 m3) (g3 (pu (g2 (pu (g1 (pu (g5 (st.push (.row [] 5))) (byteAt n 24))) (byteAt n 16))) (byteAt n 8))),
    apP (pu (g3 (pu (g2 (pu (g1 (pu (g5 (st.push (.row [] 5))) (byteAt n 24))) (byteAt n 16))) (byteAt n 8))) (byteAt n 0)) (S4 i3 m3) (.sl (g3 (pu (g2 (pu (g1 (pu (g5 (st.push (.row [] 5))) (byteAt n 24))) (byteAt n 16))) (byteAt n 8))).next 1 0 1 true) (S4 i4 m4) (g4 (pu (g3 (pu (g2 (pu (g1 (pu (g5 (st.push (.row [] 5))) (byteAt n 24))) (byteAt n 16))) (byteAt n 8))) (byteAt n 0)))]) := by kernel_rfl
noncomputable def frameEv (x : AV) (st : St) (o : List Or) := (evCallS Tryd.prog E0 noOv sitesF 100000 22 [x] st o).map fun q => (q.1, q.2.1, q.2.2.2)
theorem frN : frameEv .nils st [TT] = some (.tup [.nils, i64 1], st, [bo (eqN 0 0) = TT]) := by kernel_rfl
theorem fr0 (k : Nat) (fl : Bool) (cells : List AV) : frameEv (.imm 1 k fl cells) st [TT] = some (.tup [.nils, i64 1], st, [bo (eqN k 0) = TT]) := by kernel_rfl
theorem fr1 (k : Nat) (fl : Bool) (cells : List AV) : frameEv (.imm 1 k fl cells) st [FF, TT] = some (.tup [.nils, i64 3], st, [bo (eqN k 0) = FF, bo (gtN k 4096) = TT]) := by kernel_rfl
theorem fr2 (k : Nat) (fl : Bool) (cells : List AV) (c : Int) : frameEv (.imm 1 k fl cells) st [FF, FF, .eff (.tup [S4 i1 m1, i64 0]) g1, .eff (u32 c) id, .eff (.tup [S4 i2 m2, i64 0]) g2, .eff (S4 i3 m3) g3] = some (.tup [S4 i3 m3, i64 0], g3 (g2 (g1 st)),
  [bo (eqN k 0) = FF, bo (gtN k 4096) = FF, obC 37 [.nils, u64 (IntKind.u64.wrap k), i64 4] st (.tup [S4 i1 m1, i64 0]) (g1 st), obC 36 [.imm 1 k fl cells] (g1 st) (u32 c) (g1 st), obC 37 [S4 i1 m1, u64 (IntKind.u64.wrap c), i64 4] (g1 st) (.tup [S4 i2 m2, i64 0]) (g2 (g1 st)), apP (g2 (g1 st)) (S4 i2 m2) (.imm 1 k fl cells) (S4 i3 m3) (g3 (g2 (g1 st)))]) := by kernel_rfl
end
end
section
set_option maxRecDepth 4000
def KeepA (st st' : St) : Prop := ∀ i o, st.get i = some o → st'.get i = some o
/-- bytes that grow -/
def BR (st : St) (s : AV) (B : List Int) : Prop := (B = [] ∧ s = .nils) ∨ (B ≠ [] ∧ ∃ i, s = S4 i B.length ∧ st.get i = some (.row (B.map u8) 5))
theorem del_wf {st : St} (hw : st.wf) (id : Nat) : (st.del id).wf := fun i p h => by
  rw [St.get_del] at h
  split at h
  · cases h
  · exact hw _ _ h
theorem app_bytes {st : St} {s x : AV} {B c : List Int} (hB : BR st s B) (hw : st.wf) (hl : st.lock = []) (hx : sliceCells st x = some (c.length, c.map u8)) (hc : c ≠ []) (hb : B.length + c.length ≤ 1000000) :
    ∃ st', apP st s x (S4 st.next (B.length + c.length)) st' ∧ st'.get st.next = some (.row ((B ++ c).map u8) 5) ∧ st'.lock = [] ∧ st'.next = st.next + 1 ∧ (∀ j o, st.get j = some o → s ≠ S4 j B.length → st'.get j = some o) ∧ st'.wf := by
  have h0 : c.length ≠ 0 := fun e => hc (List.eq_nil_of_length_eq_zero e)
  rcases hB with ⟨rfl, rfl⟩ | ⟨hne, i, rfl, hg⟩
  · refine ⟨st.push (.row (c.map u8) 5), ?_, ?_, by simpa using hl, rfl, fun j o ho _ => ?_, push_wf hw _⟩
    · have := app_nil_w (st := st) hx (by simp) h0 (by simp at hb; omega)
      simpa [apP, S4] using this
    · rw [St.get_push, if_pos rfl]; simp
    · have := hw _ _ ho
      rw [St.get_push, if_neg (by omega)]; exact ho
  · refine ⟨_, app_row_w hg hl (by simp) hx (by simp) h0 hb, ?_, by simpa using hl, rfl, fun j o ho hj => ?_, push_wf (del_wf hw _) _⟩
    · rw [St.get_push, if_pos (by simp)]; simp
    · have := hw _ _ ho
      rw [St.get_push, if_neg (by simp; omega), St.get_del, if_neg (fun e => hj (by rw [e]))]; exact ho
theorem app_byte {st : St} {s : AV} {B : List Int} (hB : BR st s B) (hw : st.wf) (hl : st.lock = []) (b : Int) (hb : B.length + 1 ≤ 1000000) :
    ∃ st', apP (pu st b) s (.sl st.next 1 0 1 true) (S4 (st.next + 1) (B.length + 1)) st' ∧ st'.get (st.next + 1) = some (.row ((B ++ [b]).map u8) 5) ∧ st'.lock = [] ∧ st'.next = st.next + 2 ∧ (∀ j o, st.get j = some o → s ≠ S4 j B.length → st'.get j = some o) ∧ st'.wf := by
  have hp : ∀ j o, st.get j = some o → (pu st b).get j = some o := fun j o ho => by
    have := hw _ _ ho
    show (st.push _).get j = _
    rw [St.get_push, if_neg (by omega)]; exact ho
  have hB' : BR (pu st b) s B := by
    rcases hB with h | ⟨hne, i, rfl, hg⟩
    · exact .inl h
    · exact .inr ⟨hne, i, rfl, hp _ _ hg⟩
  have hx : sliceCells (pu st b) (.sl st.next 1 0 1 true) = some ([b].length, [b].map u8) := by
    rw [cells_sl (A := [u8 b]) (ty := 5) (by show (st.push _).get _ = _; rw [St.get_push, if_pos rfl]) (by simp)]
    rfl
  obtain ⟨st', h1, h2, h3, h4, h5, h6⟩ := app_bytes hB' (push_wf hw _) (by show (st.push _).lock = _; simpa using hl) hx (by simp) hb
  exact ⟨st', h1, h2, h3, h4, fun j o ho hj => h5 j o (hp _ _ ho) hj, h6⟩
theorem wnum_run {b a : AV} {n : Int} {st st' : St} {x : List Or} {ob : Ob} (h : wnumEv b n st x = some (a, st', ob)) (hob : ob.ok) : obC 37 [b, u64 n, i64 4] st a st' := by
  obtain ⟨x1, h1⟩ := run_of h
  exact ACalls.run hE (ov := noOv) noOv_ok h1 hob
theorem be4_ne (n : Int) : be4 n ≠ [] := by simp [be4]
/-- four bytes behind a fresh slice -/
theorem four {st : St} {s : AV} {B : List Int} (hB : BR st s B) (hw : st.wf) (hl : st.lock = []) (n : Int) (hb : B.length + 4 ≤ 1000000) :
    ∃ (i1 i2 i3 i4 : Nat) (s1 s2 s3 s4 : St), apP (pu st (byteAt n 24)) s (.sl st.next 1 0 1 true) (S4 i1 (B.length + 1)) s1 ∧ apP (pu s1 (byteAt n 16)) (S4 i1 (B.length + 1)) (.sl s1.next 1 0 1 true) (S4 i2 (B.length + 2)) s2 ∧
      apP (pu s2 (byteAt n 8)) (S4 i2 (B.length + 2)) (.sl s2.next 1 0 1 true) (S4 i3 (B.length + 3)) s3 ∧ apP (pu s3 (byteAt n 0)) (S4 i3 (B.length + 3)) (.sl s3.next 1 0 1 true) (S4 i4 (B.length + 4)) s4 ∧
      s4.get i4 = some (.row ((B ++ be4 n).map u8) 5) ∧ s4.lock = [] ∧ st.next ≤ i4 ∧ i4 < s4.next ∧ st.next ≤ s4.next ∧ (∀ j o, st.get j = some o → s ≠ S4 j B.length → s4.get j = some o) ∧ s4.wf := by
  obtain ⟨s1, a1, g1, l1, n1, k1, w1⟩ := app_byte hB hw hl (byteAt n 24) (by omega)
  obtain ⟨s2, a2, g2, l2, n2, k2, w2⟩ := app_byte (s := S4 (st.next + 1) (B.length + 1)) (B := B ++ [byteAt n 24]) (.inr ⟨by simp, st.next + 1, by simp, g1⟩) w1 l1 (byteAt n 16) (by simp; omega)
  obtain ⟨s3, a3, g3, l3, n3, k3, w3⟩ := app_byte (s := S4 (s1.next + 1) (B.length + 2)) (B := B ++ [byteAt n 24] ++ [byteAt n 16]) (.inr ⟨by simp, s1.next + 1, by simp, g2⟩) w2 l2 (byteAt n 8) (by simp; omega)
  obtain ⟨s4, a4, g4, l4, n4, k4, w4⟩ := app_byte (s := S4 (s2.next + 1) (B.length + 3)) (B := B ++ [byteAt n 24] ++ [byteAt n 16] ++ [byteAt n 8]) (.inr ⟨by simp, s2.next + 1, by simp, g3⟩) w3 l3 (byteAt n 0) (by simp; omega)
  refine ⟨st.next + 1, s1.next + 1, s2.next + 1, s3.next + 1, s1, s2, s3, s4, a1, by simpa using a2, by simpa using a3, by simpa using a4, by simpa [be4] using g4, l4, by omega, by omega, by omega, fun j o ho hj => ?_, w4⟩
  have := hw _ _ ho
  refine k4 j o (k3 j o (k2 j o (k1 j o ho hj) ?_) ?_) ?_ <;> (intro e; simp only [S4, AV.sl.injEq] at e; omega)
theorem numW_ok {st : St} {s : AV} {B : List Int} (hB : BR st s B) (hw : st.wf) (hl : st.lock = []) {n : Int} (hn : 0 ≤ n ∧ n ≤ 4294967295) (hb : B.length + 4 ≤ 1000000) :
    ∃ i st', obC 37 [s, u64 n, i64 4] st (.tup [S4 i (B.length + 4), i64 0]) st' ∧ st'.get i = some (.row ((B ++ be4 n).map u8) 5) ∧ st'.lock = [] ∧ st.next ≤ i ∧ st.next ≤ st'.next ∧ KeepA st st' ∧ st'.wf := by
  have hg : bo (gtU n 4294967295) = FF := ob_F (by rw [gtU_eq]; simp; omega)
  rcases hB with ⟨rfl, rfl⟩ | ⟨hne, j, rfl, hg0⟩
  · obtain ⟨i1, i2, i3, i4, s1, s2, s3, s4, a1, a2, a3, a4, g, l, x1, x2, x3, k, w⟩ := four (st := st) (B := []) (.inl ⟨rfl, rfl⟩) hw hl n hb
    refine ⟨i4, s4, wnum_run (wnumN n st i1 i2 i3 i4 1 2 3 4 (fun _ => s1) (fun _ => s2) (fun _ => s3) (fun _ => s4)) ?_, g, l, x1, x3, fun j o ho => k j o ho (by intro e; cases e), w⟩
    simp only [Ob.ok_cons, Ob.ok_nil, and_true]
    exact ⟨hg, a1, a2, a3, a4⟩
  · have hj := hw _ _ hg0
    have hx : sliceCells (st.push (.row [] 5)) (S4 j B.length) = some (B.length, B.map u8) := by
      unfold S4
      rw [cells_sl (A := B.map u8) (ty := 5) (by rw [St.get_push, if_neg (by omega)]; exact hg0) (by simp), List.drop_zero, List.take_of_length_le (by simp)]
    have h0 : B.length ≠ 0 := fun e => hne (List.eq_nil_of_length_eq_zero e)
    have ha : apP (st.push (.row [] 5)) (.sl st.next 1 0 0 true) (S4 j B.length) (S4 (st.next + 1) B.length) ((st.push (.row [] 5)).push (.row (B.map u8) 5)) := by
      have := app_full_w (st := st.push (.row [] 5)) (id := st.next) (off := 0) (len := 0) (n := B.length) (vs := []) (c := B.map u8) (x := S4 j B.length) (by rw [St.get_push, if_pos rfl]) (by simp) hx (by simp) h0 (by omega)
      simpa [apP, S4] using this
    have hw' := push_wf (push_wf hw (.row [] 5)) (.row (B.map u8) 5)
    have hl' : ((st.push (.row [] 5)).push (.row (B.map u8) 5)).lock = [] := by simpa using hl
    have hB' : BR ((st.push (.row [] 5)).push (.row (B.map u8) 5)) (S4 (st.next + 1) B.length) B := .inr ⟨hne, st.next + 1, rfl, by rw [St.get_push, if_pos (by simp)]⟩
    obtain ⟨i1, i2, i3, i4, s1, s2, s3, s4, a1, a2, a3, a4, g, l, x1, x2, x3, k, w⟩ := four hB' hw' hl' n hb
    have hnx : ((st.push (.row [] 5)).push (.row (B.map u8) 5)).next = st.next + 2 := rfl
    refine ⟨i4, s4, wnum_run (wnumS n st i1 i2 i3 i4 (st.next + 1) (B.length + 1) (B.length + 2) (B.length + 3) (B.length + 4) B.length (fun _ => s1) (fun _ => s2) (fun _ => s3) (fun _ => s4) (fun _ => (st.push (.row [] 5)).push (.row (B.map u8) 5)) j B.length false) ?_, g, l, by omega, by omega, fun j o ho => ?_, w⟩
    · simp only [Ob.ok_cons, Ob.ok_nil, and_true]
      exact ⟨hg, ha, a1, a2, a3, a4⟩
    · have := hw _ _ ho
      refine k j o ?_ (by intro e; simp only [S4, AV.sl.injEq] at e; omega)
      rw [St.get_push, if_neg (by simp; omega), St.get_push, if_neg (by omega)]; exact ho
end
section
set_option maxRecDepth 4000
def frameL (d : List Int) : List Int := be4 d.length ++ be4 (crcU d) ++ d
theorem be4_len (n : Int) : (be4 n).length = 4 := rfl
theorem frame_len (d : List Int) : (frameL d).length = 8 + d.length := by simp [frameL, be4_len]; omega
theorem wrap32_range (k : Int) : 0 ≤ IntKind.u32.wrap k ∧ IntKind.u32.wrap k ≤ 4294967295 := by
  rw [IntKind.wrap_u32]; omega
theorem crc_range (l : List Int) : 0 ≤ crcMore 0 l ∧ crcMore 0 l ≤ 4294967295 := by
  have h : ∃ z : Int, crcMore 0 l = IntKind.u32.wrap z := ⟨_, rfl⟩
  obtain ⟨z, hz⟩ := h
  rw [hz]; exact wrap32_range z
theorem crcU_eq (d : List Int) : crcU d = crcMore 0 d := by
  have := crc_range d
  unfold crcU
  rw [IntWalk.u64_in _ (by omega)]
theorem frame_run {x a : AV} {st st' : St} {o : List Or} {ob : Ob} (h : frameEv x st o = some (a, st', ob)) (hob : ob.ok) : obC 22 [x] st a st' := by
  obtain ⟨x1, h1⟩ := run_of h
  exact ACalls.run hE (ov := noOv) noOv_ok h1 hob
def recW (d : List Int) : AV := .imm 1 d.length false (d.map u8)
def recF (f : Bool) (d : List Int) : AV := .imm 1 d.length f (d.map u8)
theorem frame_bad0 (st : St) : obC 22 [.nils] st (.tup [.nils, i64 1]) st := frame_run (frN st) (by
  simp only [Ob.ok_cons, Ob.ok_nil, and_true]; exact ob_T rfl)
theorem frame_bad1 (st : St) {d : List Int} (h : d.length = 0) : obC 22 [recW d] st (.tup [.nils, i64 1]) st := frame_run (fr0 st d.length false (d.map u8)) (by
  simp only [Ob.ok_cons, Ob.ok_nil, and_true]; exact ob_T (by rw [eqN_eq, h]; rfl))
theorem frame_bad2 (st : St) {d : List Int} (h : 4096 < d.length) : obC 22 [recW d] st (.tup [.nils, i64 3]) st := frame_run (fr1 st d.length false (d.map u8)) (by
  simp only [Ob.ok_cons, Ob.ok_nil, and_true]
  exact ⟨ob_F (by rw [eqN_eq, beq_eq_false_iff_ne]; omega), gt_T (by omega)⟩)
theorem frame_ok {f : Bool} {st : St} (hw : st.wf) (hl : st.lock = []) {d : List Int} (h1 : 1 ≤ d.length) (h2 : d.length ≤ 4096) :
    ∃ i st', obC 22 [recF f d] st (.tup [S4 i (8 + d.length), i64 0]) st' ∧ st'.get i = some (.row ((frameL d).map u8) 5) ∧ st'.lock = [] ∧ st.next ≤ i ∧ st.next ≤ st'.next ∧ KeepA st st' ∧ st'.wf := by
  obtain ⟨i1, s1, a1, g1, l1, x1, n1, k1, w1⟩ := numW_ok (st := st) (s := .nils) (B := []) (.inl ⟨rfl, rfl⟩) hw hl (n := d.length) (by omega) (by simp)
  have hc := crc_range d
  obtain ⟨i2, s2, a2, g2, l2, x2, n2, k2, w2⟩ := numW_ok (st := s1) (s := S4 i1 4) (B := be4 d.length) (.inr ⟨be4_ne _, i1, rfl, by simpa using g1⟩) w1 l1 (n := crcU d) (by rw [crcU_eq]; exact hc) (by simp [be4_len])
  have hx : sliceCells s2 (recF f d) = some (d.length, d.map u8) := rfl
  obtain ⟨s3, a3, g3, l3, n3, k3, w3⟩ := app_bytes (st := s2) (s := S4 i2 8) (B := be4 d.length ++ be4 (crcU d)) (.inr ⟨by simp [be4], i2, rfl, g2⟩) w2 l2 hx (fun e => by rw [e] at h1; simp at h1) (by simp [be4_len]; omega)
  refine ⟨s2.next, s3, frame_run (fr2 st i1 i2 s2.next 4 8 (8 + d.length) (fun _ => s1) (fun _ => s2) (fun _ => s3) d.length f (d.map u8) (crcMore 0 d)) ?_, g3, l3, by omega, by omega, fun j o ho => ?_, w3⟩
  · simp only [Ob.ok_cons, Ob.ok_nil, and_true]
    refine ⟨ob_F (by rw [eqN_eq, beq_eq_false_iff_ne]; omega), gt_F (by omega), ?_, sum_imm s1 rfl (by omega), ?_, ?_⟩
    · rw [IntWalk.u64_in _ (by omega)]; exact a1
    · exact a2
    · have e : (be4 (d.length : Int) ++ be4 (crcU d)).length = 8 := rfl
      rw [e] at a3
      exact a3
  · have := hw _ _ ho
    exact k3 j o (k2 j o (k1 j o ho)) (by intro e; simp only [S4, AV.sl.injEq] at e; omega)
end
section
set_option maxRecDepth 4000
/-! ### the plain law: frames, one behind the other, with a beginning of another behind them, are split into their records -/
theorem shrU_eq (a c : Nat) (h : c ≤ 64) : shrU (a : Int) (c : Int) = ((a >>> c : Nat) : Int) := by
  have h1 : shrU (a : Int) (c : Int) = (a : Int).fdiv (2 ^ (min c 64)) := by
    unfold shrU
    rfl
  rw [h1, Nat.min_eq_left h, Int.fdiv_eq_ediv_of_nonneg _ (Int.le_of_lt (Int.pow_pos (by decide))), Nat.shiftRight_eq_div_pow, Int.natCast_ediv, Int.natCast_pow]
  rfl
theorem byteAt_div (s : Nat) (c : Nat) (hc : c ≤ 64) : byteAt (s : Int) (c : Int) = ((s / 2 ^ c % 256 : Nat) : Int) := by
  unfold byteAt
  rw [shrU_eq s c hc, Nat.shiftRight_eq_div_pow, IntKind.wrap_u8]
  omega
theorem orU_eq (a b : Int) : orU a b = IntKind.u64.wrap ((BitVec.ofInt 64 a ||| BitVec.ofInt 64 b).toNat : Int) := rfl
theorem orU_nat (m b : Nat) (hm : m < 2 ^ 56) (hb : b < 256) : orU (shlU (m : Int) 8) (IntKind.u64.wrap (b : Int)) = ((m * 256 + b : Nat) : Int) := by
  have h1 : shlU (m : Int) 8 = ((m * 256 : Nat) : Int) := by
    have : shlU (m : Int) 8 = IntKind.u64.wrap ((m : Int) * 2 ^ 8) := rfl
    rw [this, IntWalk.u64_in _ (by omega)]
    omega
  rw [h1, IntWalk.u64_in (b : Int) (by omega), orU_eq]
  have h2 : ((BitVec.ofInt 64 ((m * 256 : Nat) : Int) ||| BitVec.ofInt 64 (b : Int)).toNat) = m * 256 + b := by
    rw [BitVec.toNat_or, BitVec.ofInt_natCast, BitVec.ofInt_natCast, BitVec.toNat_ofNat, BitVec.toNat_ofNat, Nat.mod_eq_of_lt (by omega), Nat.mod_eq_of_lt (by omega)]
    have := Nat.shiftLeft_add_eq_or_of_lt (show b < 2 ^ 8 by omega) m
    rw [Nat.shiftLeft_eq, show (2 : Nat) ^ 8 = 256 from rfl] at this
    omega
  rw [h2, IntWalk.u64_in _ (by omega)]
theorem foldN_be4 (n : Nat) (h : n < 2 ^ 32) : foldN (be4 (n : Int)) = (n : Int) := by
  have b24 := byteAt_div n 24 (by omega)
  have b16 := byteAt_div n 16 (by omega)
  have b8 := byteAt_div n 8 (by omega)
  have b0 := byteAt_div n 0 (by omega)
  unfold be4 foldN
  rw [show (24 : Int) = ((24 : Nat) : Int) from rfl, show (16 : Int) = ((16 : Nat) : Int) from rfl, show (byteAt (n : Int) 8) = byteAt (n : Int) ((8 : Nat) : Int) from rfl, show (0 : Int) = ((0 : Nat) : Int) from rfl, b24, b16, b8, b0]
  simp only [List.foldl_cons, List.foldl_nil]
  have e : ∀ (m b : Nat), m < 2 ^ 56 → b < 256 → orU (shlU (m : Int) 8) (IntKind.u64.wrap (b : Int)) = ((m * 256 + b : Nat) : Int) := orU_nat
  rw [e 0 _ (by omega) (by omega), e _ _ (by omega) (by omega), e _ _ (by omega) (by omega), e _ _ (by omega) (by omega)]
  omega
theorem num4_frame (n : Int) (h : 0 ≤ n ∧ n ≤ 4294967295) (l : List Int) : num4 (be4 n ++ l) = n := by
  obtain ⟨m, rfl⟩ := Int.eq_ofNat_of_zero_le h.1
  show foldN (be4 (m : Int)) = _
  exact foldN_be4 m (by omega)
theorem parse_frame {d : List Int} (h1 : 1 ≤ d.length) (h2 : d.length ≤ 4096) (rest : List Int) : parse1 (frameL d ++ rest) = some (d, rest) := by
  have hc := crc_range d
  rw [← crcU_eq] at hc
  have e0 : frameL d ++ rest = be4 d.length ++ (be4 (crcU d) ++ (d ++ rest)) := by simp [frameL]
  have n1 : num4 (frameL d ++ rest) = d.length := by rw [e0]; exact num4_frame _ (by omega) _
  have d4 : (frameL d ++ rest).drop 4 = be4 (crcU d) ++ (d ++ rest) := by rw [e0]; rfl
  have d8 : (frameL d ++ rest).drop 8 = d ++ rest := by rw [e0]; rfl
  have n2 : num4 ((frameL d ++ rest).drop 4) = crcU d := by rw [d4]; exact num4_frame _ hc _
  have hl : (frameL d ++ rest).length = 8 + d.length + rest.length := by rw [List.length_append, frame_len]
  unfold parse1
  rw [if_neg (by omega), if_neg (by omega), if_neg (by omega), if_neg (by rw [List.length_drop]; omega), n1, n2, d8]
  have ht : ((d.length : Int)).toNat = d.length := rfl
  rw [ht, if_neg (by simp), List.take_left' rfl, if_neg (by simp), List.drop_left' rfl]
theorem parse_part {d : List Int} (h1 : 1 ≤ d.length) (h2 : d.length ≤ 4096) {k : Nat} (hk : k < 8 + d.length) : parse1 ((frameL d).take k) = none := by
  have hl : ((frameL d).take k).length = k := by rw [List.length_take, frame_len]; omega
  have hc := crc_range d
  rw [← crcU_eq] at hc
  unfold parse1
  by_cases h4 : k < 4
  · rw [if_pos (by omega)]
  rw [if_neg (by omega)]
  have e0 : (frameL d).take k = be4 d.length ++ (be4 (crcU d) ++ d).take (k - 4) := by
    unfold frameL
    rw [List.append_assoc, List.take_append, be4_len, List.take_of_length_le (by rw [be4_len]; omega)]
  have n1 : num4 ((frameL d).take k) = d.length := by rw [e0]; exact num4_frame _ (by omega) _
  rw [if_neg (by omega), if_neg (by omega)]
  by_cases h8 : k < 8
  · rw [if_pos (by rw [List.length_drop]; omega)]
  rw [if_neg (by rw [List.length_drop]; omega), if_pos]
  rw [n1, List.length_drop, hl]
  show k - 8 < ((d.length : Int)).toNat
  have ht : ((d.length : Int)).toNat = d.length := rfl
  omega
theorem split_frames (tl : List Int) (hp : parse1 tl = none) : ∀ (R : List (List Int)), (∀ d ∈ R, 1 ≤ d.length ∧ d.length ≤ 4096) → splitN (R.flatMap frameL ++ tl).length (R.flatMap frameL ++ tl) = R
  | [], _ => by simpa using split_none hp
  | d :: r, h => by
    have hd := h d (List.mem_cons_self ..)
    have ih := split_frames tl hp r fun e he => h e (List.mem_cons_of_mem _ he)
    rw [List.flatMap_cons, List.append_assoc, split_some (parse_frame hd.1 hd.2 _)]
    simp only [ih]
end
section
set_option maxRecDepth 100000
noncomputable def f20P (i : Nat) : Code := match Tryd.f20.body with
  | some (.seq x0 (.scope (.seq x1 (.seq x2 (.seq x3 (.seq (.block 0 (.loop x4)) x5)))))) => [x0, x1, x2, x3, x4, x5].getD i .skip
  | _ => .skip
theorem f20body : Tryd.f20.body = some (.seq (f20P 0) (.scope (.seq (f20P 1) (.seq (f20P 2) (.seq (f20P 3) (.seq (.block 0 (.loop (f20P 4))) (f20P 5))))))) := by kernel_rfl
def f20L0 (T : Tm) (a0 : AV) : Prop := T.n = 54 ∧ T.get 0 = a0
theorem f20_0_e (b : AV) (st : St) : ((evS Tryd.prog E0 noOv noS 100000 [] (f20P 0) ⟨54, [(0, b)], []⟩ st []).map fun q => (q.1, q.2.1.n, ([q.2.1.get 0] : List AV), q.2.2.1, q.2.2.2.2)) = some (.normal, 54, [b], st, []) := by kernel_rfl
theorem f20_0 {b : AV} {st : St}  {T : Tm} (hT : f20L0 T b) : AW Tryd.prog (f20P 0) (fun ex T' st' => ex = .normal ∧ f20L0 T' b ∧ st' = st) T st := by
  obtain ⟨hn, g0⟩ := hT
  exact (gen_run (G := fun T => ([T.get 0] : List AV)) hE (f20_0_e b st) Ob.ok_nil hn (one g0)).mono fun ex T' st' ⟨q1, q2, q3, q4⟩ => by simp only [List.cons.injEq, and_true] at q3; exact ⟨q1, ⟨q2, q3⟩, q4⟩
def f20L1 (T : Tm) (a0 a3 : AV) : Prop := T.n = 54 ∧ T.get 0 = a0 ∧ T.get 3 = a3
theorem f20_1_e (b : AV) (st : St) : ((evS Tryd.prog E0 noOv noS 100000 [] (f20P 1) ⟨54, [(0, b)], []⟩ st []).map fun q => (q.1, q.2.1.n, ([q.2.1.get 0, q.2.1.get 3] : List AV), q.2.2.1, q.2.2.2.2)) = some (.normal, 54, [b, .nils], st, []) := by kernel_rfl
theorem f20_1 {b : AV} {st : St}  {T : Tm} (hT : f20L0 T b) : AW Tryd.prog (f20P 1) (fun ex T' st' => ex = .normal ∧ f20L1 T' b .nils ∧ st' = st) T st := by
  obtain ⟨hn, g0⟩ := hT
  exact (gen_run (G := fun T => ([T.get 0, T.get 3] : List AV)) hE (f20_1_e b st) Ob.ok_nil hn (one g0)).mono fun ex T' st' ⟨q1, q2, q3, q4⟩ => by simp only [List.cons.injEq, and_true] at q3; exact ⟨q1, ⟨q2, q3⟩, q4⟩
def f20L2 (T : Tm) (a3 a4 : AV) : Prop := T.n = 54 ∧ T.get 3 = a3 ∧ T.get 4 = a4
theorem f20_2_e (b v3 : AV) (st s1 : St) (p10 : Nat) : ((evS Tryd.prog E0 noOv noS 100000 [6033] (f20P 2) ⟨54, [(0, b), (3, v3)], []⟩ st [.eff (.ptr p10 0) (fun _ => s1)]).map fun q => (q.1, q.2.1.n, ([q.2.1.get 3, q.2.1.get 4] : List AV), q.2.2.1, q.2.2.2.2)) = some (.normal, 54, [v3, (.ptr p10 0)], s1, [obC 33 [b] st (.ptr p10 0) s1]) := by kernel_rfl
theorem f20_2 {b v3 : AV} {st s1 : St} {p10 : Nat} (h1 : obC 33 [b] st (.ptr p10 0) s1) {T : Tm} (hT : f20L1 T b v3) : AW Tryd.prog (f20P 2) (fun ex T' st' => ex = .normal ∧ f20L2 T' v3 (.ptr p10 0) ∧ st' = s1) T st := by
  obtain ⟨hn, g0, g3⟩ := hT
  exact (gen_run (G := fun T => ([T.get 3, T.get 4] : List AV)) hE (f20_2_e b v3 st s1 p10) (Ob.ok_cons.2 ⟨h1, Ob.ok_nil⟩) hn (conz g0 (one g3))).mono fun ex T' st' ⟨q1, q2, q3, q4⟩ => by simp only [List.cons.injEq, and_true] at q3; exact ⟨q1, ⟨q2, q3⟩, q4⟩
theorem f20_3_e (v3 : AV) (r : Nat) (st : St) : ((evS Tryd.prog E0 noOv noS 100000 [] (f20P 3) ⟨54, [(3, v3), (4, (.ptr r 0))], []⟩ st []).map fun q => (q.1, q.2.1.n, ([q.2.1.get 3, q.2.1.get 4] : List AV), q.2.2.1, q.2.2.2.2)) = some (.normal, 54, [v3, (.ptr r 0)], st, []) := by kernel_rfl
theorem f20_3 {v3 : AV} {r : Nat} {st : St}  {T : Tm} (hT : f20L2 T v3 (.ptr r 0)) : AW Tryd.prog (f20P 3) (fun ex T' st' => ex = .normal ∧ f20L2 T' v3 (.ptr r 0) ∧ st' = st) T st := by
  obtain ⟨hn, g3, g4⟩ := hT
  exact (gen_run (G := fun T => ([T.get 3, T.get 4] : List AV)) hE (f20_3_e v3 r st) Ob.ok_nil hn (conz g3 (one g4))).mono fun ex T' st' ⟨q1, q2, q3, q4⟩ => by simp only [List.cons.injEq, and_true] at q3; exact ⟨q1, ⟨q2, q3⟩, q4⟩
def f20L3 (T : Tm) (a3 : AV) : Prop := T.n = 54 ∧ T.get 3 = a3
theorem f20_4_T_e (v3 : AV) (r : Nat) (st s1 : St) (n13a n13b : Int) : ((evS Tryd.prog E0 noOv noS 100000 [2036, 2045, 2051, 2052, 6034, 6035, 6036, 7017, 7020, 7024, 7032, 7041, 7047] (f20P 4) ⟨54, [(3, v3), (4, (.ptr r 0))], []⟩ st [.eff (.tup [(u64 n13a), (i64 n13b)]) (fun _ => s1), .av TT]).map fun q => (q.1, q.2.1.n, ([q.2.1.get 3] : List AV), q.2.2.1, q.2.2.2.2)) = some ((.exit 0), 54, [v3], s1, [obC 34 [(.ptr r 0), (i64 4)] st (.tup [(u64 n13a), (i64 n13b)]) s1, binA E0 .neq 29 (i64 n13b) (i64 0) = some TT]) := by kernel_rfl
theorem f20_4_T {v3 : AV} {r : Nat} {st s1 : St} {n13a n13b : Int} (h1 : obC 34 [(.ptr r 0), (i64 4)] st (.tup [(u64 n13a), (i64 n13b)]) s1) (h2 : binA E0 .neq 29 (i64 n13b) (i64 0) = some TT) {T : Tm} (hT : f20L2 T v3 (.ptr r 0)) : AW Tryd.prog (f20P 4) (fun ex T' st' => ex = (.exit 0) ∧ f20L3 T' v3 ∧ st' = s1) T st := by
  obtain ⟨hn, g3, g4⟩ := hT
  exact (gen_run (G := fun T => ([T.get 3] : List AV)) hE (f20_4_T_e v3 r st s1 n13a n13b) (Ob.ok_cons.2 ⟨h1, (Ob.ok_cons.2 ⟨h2, Ob.ok_nil⟩)⟩) hn (conz g3 (one g4))).mono fun ex T' st' ⟨q1, q2, q3, q4⟩ => by simp only [List.cons.injEq, and_true] at q3; exact ⟨q1, ⟨q2, q3⟩, q4⟩
theorem f20_4_FT_e (v3 : AV) (r : Nat) (st s1 : St) (n13a n13b : Int) : ((evS Tryd.prog E0 noOv noS 100000 [2036, 2045, 2051, 2052, 6034, 6035, 6036, 7017, 7020, 7024, 7032, 7041, 7047] (f20P 4) ⟨54, [(3, v3), (4, (.ptr r 0))], []⟩ st [.eff (.tup [(u64 n13a), (i64 n13b)]) (fun _ => s1), .av FF, .av TT]).map fun q => (q.1, q.2.1.n, ([q.2.1.get 3] : List AV), q.2.2.1, q.2.2.2.2)) = some ((.exit 0), 54, [v3], s1, [obC 34 [(.ptr r 0), (i64 4)] st (.tup [(u64 n13a), (i64 n13b)]) s1, binA E0 .neq 29 (i64 n13b) (i64 0) = some FF, binA E0 .lss 84 (u64 n13a) (u64 1) = some TT]) := by kernel_rfl
theorem f20_4_FT {v3 : AV} {r : Nat} {st s1 : St} {n13a n13b : Int} (h1 : obC 34 [(.ptr r 0), (i64 4)] st (.tup [(u64 n13a), (i64 n13b)]) s1) (h2 : binA E0 .neq 29 (i64 n13b) (i64 0) = some FF) (h3 : binA E0 .lss 84 (u64 n13a) (u64 1) = some TT) {T : Tm} (hT : f20L2 T v3 (.ptr r 0)) : AW Tryd.prog (f20P 4) (fun ex T' st' => ex = (.exit 0) ∧ f20L3 T' v3 ∧ st' = s1) T st := by
  obtain ⟨hn, g3, g4⟩ := hT
  exact (gen_run (G := fun T => ([T.get 3] : List AV)) hE (f20_4_FT_e v3 r st s1 n13a n13b) (Ob.ok_cons.2 ⟨h1, (Ob.ok_cons.2 ⟨h2, (Ob.ok_cons.2 ⟨h3, Ob.ok_nil⟩)⟩)⟩) hn (conz g3 (one g4))).mono fun ex T' st' ⟨q1, q2, q3, q4⟩ => by simp only [List.cons.injEq, and_true] at q3; exact ⟨q1, ⟨q2, q3⟩, q4⟩
theorem f20_4_FFT_e (v3 : AV) (r : Nat) (st s1 : St) (n13a n13b : Int) : ((evS Tryd.prog E0 noOv noS 100000 [2036, 2045, 2051, 2052, 6034, 6035, 6036, 7017, 7020, 7024, 7032, 7041, 7047] (f20P 4) ⟨54, [(3, v3), (4, (.ptr r 0))], []⟩ st [.eff (.tup [(u64 n13a), (i64 n13b)]) (fun _ => s1), .av FF, .av FF, .av TT]).map fun q => (q.1, q.2.1.n, ([q.2.1.get 3] : List AV), q.2.2.1, q.2.2.2.2)) = some ((.exit 0), 54, [v3], s1, [obC 34 [(.ptr r 0), (i64 4)] st (.tup [(u64 n13a), (i64 n13b)]) s1, binA E0 .neq 29 (i64 n13b) (i64 0) = some FF, binA E0 .lss 84 (u64 n13a) (u64 1) = some FF, binA E0 .gtr 84 (u64 n13a) (u64 4096) = some TT]) := by kernel_rfl
theorem f20_4_FFT {v3 : AV} {r : Nat} {st s1 : St} {n13a n13b : Int} (h1 : obC 34 [(.ptr r 0), (i64 4)] st (.tup [(u64 n13a), (i64 n13b)]) s1) (h2 : binA E0 .neq 29 (i64 n13b) (i64 0) = some FF) (h3 : binA E0 .lss 84 (u64 n13a) (u64 1) = some FF) (h4 : binA E0 .gtr 84 (u64 n13a) (u64 4096) = some TT) {T : Tm} (hT : f20L2 T v3 (.ptr r 0)) : AW Tryd.prog (f20P 4) (fun ex T' st' => ex = (.exit 0) ∧ f20L3 T' v3 ∧ st' = s1) T st := by
  obtain ⟨hn, g3, g4⟩ := hT
  exact (gen_run (G := fun T => ([T.get 3] : List AV)) hE (f20_4_FFT_e v3 r st s1 n13a n13b) (Ob.ok_cons.2 ⟨h1, (Ob.ok_cons.2 ⟨h2, (Ob.ok_cons.2 ⟨h3, (Ob.ok_cons.2 ⟨h4, Ob.ok_nil⟩)⟩)⟩)⟩) hn (conz g3 (one g4))).mono fun ex T' st' ⟨q1, q2, q3, q4⟩ => by simp only [List.cons.injEq, and_true] at q3; exact ⟨q1, ⟨q2, q3⟩, q4⟩
theorem f20_4_FFFT_e (v3 : AV) (r : Nat) (st s1 s2 : St) (n13a n13b n28a n28b : Int) : ((evS Tryd.prog E0 noOv noS 100000 [2036, 2045, 2051, 2052, 6034, 6035, 6036, 7017, 7020, 7024, 7032, 7041, 7047] (f20P 4) ⟨54, [(3, v3), (4, (.ptr r 0))], []⟩ st [.eff (.tup [(u64 n13a), (i64 n13b)]) (fun _ => s1), .av FF, .av FF, .av FF, .eff (.tup [(u64 n28a), (i64 n28b)]) (fun _ => s2), .av TT]).map fun q => (q.1, q.2.1.n, ([q.2.1.get 3] : List AV), q.2.2.1, q.2.2.2.2)) = some ((.exit 0), 54, [v3], s2, [obC 34 [(.ptr r 0), (i64 4)] st (.tup [(u64 n13a), (i64 n13b)]) s1, binA E0 .neq 29 (i64 n13b) (i64 0) = some FF, binA E0 .lss 84 (u64 n13a) (u64 1) = some FF, binA E0 .gtr 84 (u64 n13a) (u64 4096) = some FF, obC 34 [(.ptr r 0), (i64 4)] s1 (.tup [(u64 n28a), (i64 n28b)]) s2, binA E0 .neq 29 (i64 n28b) (i64 0) = some TT]) := by kernel_rfl
theorem f20_4_FFFT {v3 : AV} {r : Nat} {st s1 s2 : St} {n13a n13b n28a n28b : Int} (h1 : obC 34 [(.ptr r 0), (i64 4)] st (.tup [(u64 n13a), (i64 n13b)]) s1) (h2 : binA E0 .neq 29 (i64 n13b) (i64 0) = some FF) (h3 : binA E0 .lss 84 (u64 n13a) (u64 1) = some FF) (h4 : binA E0 .gtr 84 (u64 n13a) (u64 4096) = some FF) (h5 : obC 34 [(.ptr r 0), (i64 4)] s1 (.tup [(u64 n28a), (i64 n28b)]) s2) (h6 : binA E0 .neq 29 (i64 n28b) (i64 0) = some TT) {T : Tm} (hT : f20L2 T v3 (.ptr r 0)) : AW Tryd.prog (f20P 4) (fun ex T' st' => ex = (.exit 0) ∧ f20L3 T' v3 ∧ st' = s2) T st := by
  obtain ⟨hn, g3, g4⟩ := hT
  exact (gen_run (G := fun T => ([T.get 3] : List AV)) hE (f20_4_FFFT_e v3 r st s1 s2 n13a n13b n28a n28b) (Ob.ok_cons.2 ⟨h1, (Ob.ok_cons.2 ⟨h2, (Ob.ok_cons.2 ⟨h3, (Ob.ok_cons.2 ⟨h4, (Ob.ok_cons.2 ⟨h5, (Ob.ok_cons.2 ⟨h6, Ob.ok_nil⟩)⟩)⟩)⟩)⟩)⟩) hn (conz g3 (one g4))).mono fun ex T' st' ⟨q1, q2, q3, q4⟩ => by simp only [List.cons.injEq, and_true] at q3; exact ⟨q1, ⟨q2, q3⟩, q4⟩
theorem f20_4_FFFFT_e (v3 v37a : AV) (r : Nat) (st s1 s2 s3 : St) (n13a n13b n28a n28b n36 n37b : Int) : ((evS Tryd.prog E0 noOv noS 100000 [2036, 2045, 2051, 2052, 6034, 6035, 6036, 7017, 7020, 7024, 7032, 7041, 7047] (f20P 4) ⟨54, [(3, v3), (4, (.ptr r 0))], []⟩ st [.eff (.tup [(u64 n13a), (i64 n13b)]) (fun _ => s1), .av FF, .av FF, .av FF, .eff (.tup [(u64 n28a), (i64 n28b)]) (fun _ => s2), .av FF, .eff (i64 n36) id, .eff (.tup [v37a, (i64 n37b)]) (fun _ => s3), .av TT]).map fun q => (q.1, q.2.1.n, ([q.2.1.get 3] : List AV), q.2.2.1, q.2.2.2.2)) = some ((.exit 0), 54, [v3], s3, [obC 34 [(.ptr r 0), (i64 4)] st (.tup [(u64 n13a), (i64 n13b)]) s1, binA E0 .neq 29 (i64 n13b) (i64 0) = some FF, binA E0 .lss 84 (u64 n13a) (u64 1) = some FF, binA E0 .gtr 84 (u64 n13a) (u64 4096) = some FF, obC 34 [(.ptr r 0), (i64 4)] s1 (.tup [(u64 n28a), (i64 n28b)]) s2, binA E0 .neq 29 (i64 n28b) (i64 0) = some FF, convO E0 s2 84 3 (u64 n13a) = some ((i64 n36), s2), obC 35 [(.ptr r 0), (i64 n36)] s2 (.tup [v37a, (i64 n37b)]) s3, binA E0 .neq 29 (i64 n37b) (i64 0) = some TT]) := by kernel_rfl
theorem f20_4_FFFFT {v3 v37a : AV} {r : Nat} {st s1 s2 s3 : St} {n13a n13b n28a n28b n36 n37b : Int} (h1 : obC 34 [(.ptr r 0), (i64 4)] st (.tup [(u64 n13a), (i64 n13b)]) s1) (h2 : binA E0 .neq 29 (i64 n13b) (i64 0) = some FF) (h3 : binA E0 .lss 84 (u64 n13a) (u64 1) = some FF) (h4 : binA E0 .gtr 84 (u64 n13a) (u64 4096) = some FF) (h5 : obC 34 [(.ptr r 0), (i64 4)] s1 (.tup [(u64 n28a), (i64 n28b)]) s2) (h6 : binA E0 .neq 29 (i64 n28b) (i64 0) = some FF) (h7 : convO E0 s2 84 3 (u64 n13a) = some ((i64 n36), s2)) (h8 : obC 35 [(.ptr r 0), (i64 n36)] s2 (.tup [v37a, (i64 n37b)]) s3) (h9 : binA E0 .neq 29 (i64 n37b) (i64 0) = some TT) {T : Tm} (hT : f20L2 T v3 (.ptr r 0)) : AW Tryd.prog (f20P 4) (fun ex T' st' => ex = (.exit 0) ∧ f20L3 T' v3 ∧ st' = s3) T st := by
  obtain ⟨hn, g3, g4⟩ := hT
  exact (gen_run (G := fun T => ([T.get 3] : List AV)) hE (f20_4_FFFFT_e v3 v37a r st s1 s2 s3 n13a n13b n28a n28b n36 n37b) (Ob.ok_cons.2 ⟨h1, (Ob.ok_cons.2 ⟨h2, (Ob.ok_cons.2 ⟨h3, (Ob.ok_cons.2 ⟨h4, (Ob.ok_cons.2 ⟨h5, (Ob.ok_cons.2 ⟨h6, (Ob.ok_cons.2 ⟨h7, (Ob.ok_cons.2 ⟨h8, (Ob.ok_cons.2 ⟨h9, Ob.ok_nil⟩)⟩)⟩)⟩)⟩)⟩)⟩)⟩)⟩) hn (conz g3 (one g4))).mono fun ex T' st' ⟨q1, q2, q3, q4⟩ => by simp only [List.cons.injEq, and_true] at q3; exact ⟨q1, ⟨q2, q3⟩, q4⟩
theorem f20_4_FFFFFT_e (v3 v37a : AV) (r : Nat) (st s1 s2 s3 s4 : St) (n13a n13b n28a n28b n36 n37b n44 n45 : Int) : ((evS Tryd.prog E0 noOv noS 100000 [2036, 2045, 2051, 2052, 6034, 6035, 6036, 7017, 7020, 7024, 7032, 7041, 7047] (f20P 4) ⟨54, [(3, v3), (4, (.ptr r 0))], []⟩ st [.eff (.tup [(u64 n13a), (i64 n13b)]) (fun _ => s1), .av FF, .av FF, .av FF, .eff (.tup [(u64 n28a), (i64 n28b)]) (fun _ => s2), .av FF, .eff (i64 n36) id, .eff (.tup [v37a, (i64 n37b)]) (fun _ => s3), .av FF, .eff (u32 n44) (fun _ => s4), .eff (u64 n45) id, .av TT]).map fun q => (q.1, q.2.1.n, ([q.2.1.get 3] : List AV), q.2.2.1, q.2.2.2.2)) = some ((.exit 0), 54, [v3], s4, [obC 34 [(.ptr r 0), (i64 4)] st (.tup [(u64 n13a), (i64 n13b)]) s1, binA E0 .neq 29 (i64 n13b) (i64 0) = some FF, binA E0 .lss 84 (u64 n13a) (u64 1) = some FF, binA E0 .gtr 84 (u64 n13a) (u64 4096) = some FF, obC 34 [(.ptr r 0), (i64 4)] s1 (.tup [(u64 n28a), (i64 n28b)]) s2, binA E0 .neq 29 (i64 n28b) (i64 0) = some FF, convO E0 s2 84 3 (u64 n13a) = some ((i64 n36), s2), obC 35 [(.ptr r 0), (i64 n36)] s2 (.tup [v37a, (i64 n37b)]) s3, binA E0 .neq 29 (i64 n37b) (i64 0) = some FF, obC 36 [v37a] s3 (u32 n44) s4, convO E0 s4 88 84 (u32 n44) = some ((u64 n45), s4), binA E0 .neq 84 (u64 n45) (u64 n28a) = some TT]) := by kernel_rfl
theorem f20_4_FFFFFT {v3 v37a : AV} {r : Nat} {st s1 s2 s3 s4 : St} {n13a n13b n28a n28b n36 n37b n44 n45 : Int} (h1 : obC 34 [(.ptr r 0), (i64 4)] st (.tup [(u64 n13a), (i64 n13b)]) s1) (h2 : binA E0 .neq 29 (i64 n13b) (i64 0) = some FF) (h3 : binA E0 .lss 84 (u64 n13a) (u64 1) = some FF) (h4 : binA E0 .gtr 84 (u64 n13a) (u64 4096) = some FF) (h5 : obC 34 [(.ptr r 0), (i64 4)] s1 (.tup [(u64 n28a), (i64 n28b)]) s2) (h6 : binA E0 .neq 29 (i64 n28b) (i64 0) = some FF) (h7 : convO E0 s2 84 3 (u64 n13a) = some ((i64 n36), s2)) (h8 : obC 35 [(.ptr r 0), (i64 n36)] s2 (.tup [v37a, (i64 n37b)]) s3) (h9 : binA E0 .neq 29 (i64 n37b) (i64 0) = some FF) (h10 : obC 36 [v37a] s3 (u32 n44) s4) (h11 : convO E0 s4 88 84 (u32 n44) = some ((u64 n45), s4)) (h12 : binA E0 .neq 84 (u64 n45) (u64 n28a) = some TT) {T : Tm} (hT : f20L2 T v3 (.ptr r 0)) : AW Tryd.prog (f20P 4) (fun ex T' st' => ex = (.exit 0) ∧ f20L3 T' v3 ∧ st' = s4) T st := by
  obtain ⟨hn, g3, g4⟩ := hT
  exact (gen_run (G := fun T => ([T.get 3] : List AV)) hE (f20_4_FFFFFT_e v3 v37a r st s1 s2 s3 s4 n13a n13b n28a n28b n36 n37b n44 n45) (Ob.ok_cons.2 ⟨h1, (Ob.ok_cons.2 ⟨h2, (Ob.ok_cons.2 ⟨h3, (Ob.ok_cons.2 ⟨h4, (Ob.ok_cons.2 ⟨h5, (Ob.ok_cons.2 ⟨h6, (Ob.ok_cons.2 ⟨h7, (Ob.ok_cons.2 ⟨h8, (Ob.ok_cons.2 ⟨h9, (Ob.ok_cons.2 ⟨h10, (Ob.ok_cons.2 ⟨h11, (Ob.ok_cons.2 ⟨h12, Ob.ok_nil⟩)⟩)⟩)⟩)⟩)⟩)⟩)⟩)⟩)⟩)⟩)⟩) hn (conz g3 (one g4))).mono fun ex T' st' ⟨q1, q2, q3, q4⟩ => by simp only [List.cons.injEq, and_true] at q3; exact ⟨q1, ⟨q2, q3⟩, q4⟩
theorem f20_4_FFFFFF_e (v3 v37a v51 v52 : AV) (r : Nat) (st s1 s2 s3 s4 s5 s6 : St) (n13a n13b n28a n28b n36 n37b n44 n45 : Int) : ((evS Tryd.prog E0 noOv noS 100000 [2036, 2045, 2051, 2052, 6034, 6035, 6036, 7017, 7020, 7024, 7032, 7041, 7047] (f20P 4) ⟨54, [(3, v3), (4, (.ptr r 0))], []⟩ st [.eff (.tup [(u64 n13a), (i64 n13b)]) (fun _ => s1), .av FF, .av FF, .av FF, .eff (.tup [(u64 n28a), (i64 n28b)]) (fun _ => s2), .av FF, .eff (i64 n36) id, .eff (.tup [v37a, (i64 n37b)]) (fun _ => s3), .av FF, .eff (u32 n44) (fun _ => s4), .eff (u64 n45) id, .av FF, .eff v51 (fun _ => s5), .eff v52 (fun _ => s6)]).map fun q => (q.1, q.2.1.n, ([q.2.1.get 3, q.2.1.get 4] : List AV), q.2.2.1, q.2.2.2.2)) = some (.normal, 54, [v52, (.ptr r 0)], s6, [obC 34 [(.ptr r 0), (i64 4)] st (.tup [(u64 n13a), (i64 n13b)]) s1, binA E0 .neq 29 (i64 n13b) (i64 0) = some FF, binA E0 .lss 84 (u64 n13a) (u64 1) = some FF, binA E0 .gtr 84 (u64 n13a) (u64 4096) = some FF, obC 34 [(.ptr r 0), (i64 4)] s1 (.tup [(u64 n28a), (i64 n28b)]) s2, binA E0 .neq 29 (i64 n28b) (i64 0) = some FF, convO E0 s2 84 3 (u64 n13a) = some ((i64 n36), s2), obC 35 [(.ptr r 0), (i64 n36)] s2 (.tup [v37a, (i64 n37b)]) s3, binA E0 .neq 29 (i64 n37b) (i64 0) = some FF, obC 36 [v37a] s3 (u32 n44) s4, convO E0 s4 88 84 (u32 n44) = some ((u64 n45), s4), binA E0 .neq 84 (u64 n45) (u64 n28a) = some FF, buildSliceA E0 s4 22 1 [(0, v37a)] = some (v51, s5), appendA E0 s5 22 22 v3 v51 = some (v52, s6)]) := by kernel_rfl
theorem f20_4_FFFFFF {v3 v37a v51 v52 : AV} {r : Nat} {st s1 s2 s3 s4 s5 s6 : St} {n13a n13b n28a n28b n36 n37b n44 n45 : Int} (h1 : obC 34 [(.ptr r 0), (i64 4)] st (.tup [(u64 n13a), (i64 n13b)]) s1) (h2 : binA E0 .neq 29 (i64 n13b) (i64 0) = some FF) (h3 : binA E0 .lss 84 (u64 n13a) (u64 1) = some FF) (h4 : binA E0 .gtr 84 (u64 n13a) (u64 4096) = some FF) (h5 : obC 34 [(.ptr r 0), (i64 4)] s1 (.tup [(u64 n28a), (i64 n28b)]) s2) (h6 : binA E0 .neq 29 (i64 n28b) (i64 0) = some FF) (h7 : convO E0 s2 84 3 (u64 n13a) = some ((i64 n36), s2)) (h8 : obC 35 [(.ptr r 0), (i64 n36)] s2 (.tup [v37a, (i64 n37b)]) s3) (h9 : binA E0 .neq 29 (i64 n37b) (i64 0) = some FF) (h10 : obC 36 [v37a] s3 (u32 n44) s4) (h11 : convO E0 s4 88 84 (u32 n44) = some ((u64 n45), s4)) (h12 : binA E0 .neq 84 (u64 n45) (u64 n28a) = some FF) (h13 : buildSliceA E0 s4 22 1 [(0, v37a)] = some (v51, s5)) (h14 : appendA E0 s5 22 22 v3 v51 = some (v52, s6)) {T : Tm} (hT : f20L2 T v3 (.ptr r 0)) : AW Tryd.prog (f20P 4) (fun ex T' st' => ex = .normal ∧ f20L2 T' v52 (.ptr r 0) ∧ st' = s6) T st := by
  obtain ⟨hn, g3, g4⟩ := hT
  exact (gen_run (G := fun T => ([T.get 3, T.get 4] : List AV)) hE (f20_4_FFFFFF_e v3 v37a v51 v52 r st s1 s2 s3 s4 s5 s6 n13a n13b n28a n28b n36 n37b n44 n45) (Ob.ok_cons.2 ⟨h1, (Ob.ok_cons.2 ⟨h2, (Ob.ok_cons.2 ⟨h3, (Ob.ok_cons.2 ⟨h4, (Ob.ok_cons.2 ⟨h5, (Ob.ok_cons.2 ⟨h6, (Ob.ok_cons.2 ⟨h7, (Ob.ok_cons.2 ⟨h8, (Ob.ok_cons.2 ⟨h9, (Ob.ok_cons.2 ⟨h10, (Ob.ok_cons.2 ⟨h11, (Ob.ok_cons.2 ⟨h12, (Ob.ok_cons.2 ⟨h13, (Ob.ok_cons.2 ⟨h14, Ob.ok_nil⟩)⟩)⟩)⟩)⟩)⟩)⟩)⟩)⟩)⟩)⟩)⟩)⟩)⟩) hn (conz g3 (one g4))).mono fun ex T' st' ⟨q1, q2, q3, q4⟩ => by simp only [List.cons.injEq, and_true] at q3; exact ⟨q1, ⟨q2, q3⟩, q4⟩
def f20L4 (T : Tm) (a2 : AV) : Prop := T.n = 54 ∧ T.get 2 = a2
theorem f20_5_e (v3 : AV) (st : St) : ((evS Tryd.prog E0 noOv noS 100000 [] (f20P 5) ⟨54, [(3, v3)], []⟩ st []).map fun q => (q.1, q.2.1.n, ([q.2.1.get 2] : List AV), q.2.2.1, q.2.2.2.2)) = some (.ret, 54, [v3], st, []) := by kernel_rfl
theorem f20_5 {v3 : AV} {st : St}  {T : Tm} (hT : f20L3 T v3) : AW Tryd.prog (f20P 5) (fun ex T' st' => ex = .ret ∧ f20L4 T' v3 ∧ st' = st) T st := by
  obtain ⟨hn, g3⟩ := hT
  exact (gen_run (G := fun T => ([T.get 2] : List AV)) hE (f20_5_e v3 st) Ob.ok_nil hn (one g3)).mono fun ex T' st' ⟨q1, q2, q3, q4⟩ => by simp only [List.cons.injEq, and_true] at q3; exact ⟨q1, ⟨q2, q3⟩, q4⟩
end
section
set_option maxRecDepth 4000
theorem conv64 (st : St) (k : Nat) (h : k ≤ 4096) : convO E0 st 84 3 (u64 k) = some (i64 k, st) := by
  have : ∀ k : Int, convO E0 st 84 3 (u64 k) = some (i64 (IntKind.i64.wrap k), st) := fun k => by kernel_rfl
  rw [this, IntWalk.i64_in _ (by omega)]
theorem conv32 (st : St) (k : Int) : convO E0 st 88 84 (u32 k) = some (u64 (IntKind.u64.wrap k), st) := by kernel_rfl
theorem build33 (st : St) (j k : Nat) : buildSliceA E0 st 22 1 [(0, dS j k)] = some (.sl st.next 1 0 1 true, st.push (.row [dS j k] 33)) := by kernel_rfl
theorem app_rec' {st3 : St} {l : AV} {R : List (List Int)} (hls : LR st3 l R) (hw : st3.wf) (hl : st3.lock = []) (hb : R.length + 1 ≤ 1000000) (x : AV) :
    ∃ st5, appendA E0 (st3.push (.row [x] 33)) 22 22 l (.sl st3.next 1 0 1 true) = some (.sl (st3.next + 1) 1 0 (R.length + 1) false, st5) ∧ st5.get (st3.next + 1) = some (.row (R.map recA ++ [x]) 33) ∧ st5.lock = [] ∧ st5.next = st3.next + 2 ∧
      (∀ i o, st3.get i = some o → l ≠ .sl i 1 0 R.length false → st5.get i = some o) ∧ st5.wf ∧ st5.gl = st3.gl := by
  have hx : sliceCells (st3.push (.row [x] 33)) (.sl st3.next 1 0 1 true) = some (1, [x]) := by
    rw [cells_sl (by rw [St.get_push, if_pos rfl]) (by simp)]
    rfl
  rcases hls with ⟨rfl, rfl⟩ | ⟨hne, id, rfl, hg⟩
  · refine ⟨_, lapp_nil hx rfl (by omega) (by omega), ?_, by simpa using hl, rfl, fun i o ho _ => ?_, push_wf (push_wf hw _) _, rfl⟩
    · rw [St.get_push, if_pos (by simp)]; rfl
    · have := hw _ _ ho
      rw [St.get_push, if_neg (by rw [St.next_push]; omega), St.get_push, if_neg (by omega)]; exact ho
  · have hid := hw _ _ hg
    have hg' : (st3.push (.row [x] 33)).get id = some (.row (R.map recA) 33) := by rw [St.get_push, if_neg (by omega)]; exact hg
    refine ⟨_, lapp_row hg' (by simpa using hl) (by simp) hx rfl (by omega) hb, ?_, by simpa using hl, rfl, fun i o ho hne' => ?_, push_wf (del_wf (push_wf hw _) _) _, rfl⟩
    · rw [St.get_push, if_pos (by simp)]
    · have := hw _ _ ho
      rw [St.get_push, if_neg (by rw [St.next_del, St.next_push]; omega), St.get_del, if_neg (fun e => hne' (by rw [e])), St.get_push, if_neg (by omega)]; exact ho
theorem RestF.take {st0 st : St} (hk : RestF st0 st []) (hw0 : st0.wf) {r ty n : Nat} {bs : List AV} {lf : AV} (hr : st0.next ≤ r) (hrn : r < st.next) : RestF st0 (takeSt st r ty bs n lf) [] :=
  ⟨fun i o hi ho hp => by
    have := hw0 _ _ ho
    have hn := hk.next
    rw [takeSt_get, if_neg (by omega), if_neg (by omega)]
    exact hk.keep i o hi ho hp, by rw [takeSt_next]; have := hk.next; omega, by rw [takeSt_lock]; exact hk.lock, hk.gl, takeSt_wf hk.wf hrn⟩
/-- the loop of Split, value by value -/
structure SplD (A : List Int) (st0 : St) (r : Nat) (R : List (List Int)) (bs : List Int) (l : AV) (st : St) : Prop where
  rd : ∃ left, st.get r = some (.row [left, TT] 112) ∧ LeftR st left (bs.map u8)
  ls : LR st l R
  lock : st.lock = []
  keep : RestF st0 st []
  law : R ++ splitN bs.length bs = splitN A.length A
  len : R.length + bs.length ≤ A.length
  lid : ∀ i sz o k f, l = .sl i sz o k f → st0.next ≤ i
theorem SplD.done {A : List Int} {st0 : St} {r : Nat} {R : List (List Int)} {bs : List Int} {l : AV} {st : St} (h : SplD A st0 r R bs l st) (hp : parse1 bs = none) {st' : St} (hls : LR st l R → LR st' l R) (hk : RestF st0 st' []) : LR st' l (splitN A.length A) ∧ RestF st0 st' [] :=
  ⟨by have := h.law
      rw [split_none hp, List.append_nil] at this
      rw [← this]; exact hls h.ls, hk⟩
theorem spl_det {A : List Int} {st0 : St} {r : Nat} {R : List (List Int)} {bs : List Int} {l : AV} {st : St} (hI : SplD A st0 r R bs l st) (hA : A.length ≤ 1000000) (hw0 : st0.wf) (hr0 : st0.next ≤ r) :
    (∃ st', (LR st' l (splitN A.length A) ∧ RestF st0 st' []) ∧ ∀ T, f20L2 T l (.ptr r 0) → AW Tryd.prog (f20P 4) (fun ex T' s => ex = .exit 0 ∧ f20L3 T' l ∧ s = st') T st) ∨
    (∃ R' bs' l' st', bs'.length < bs.length ∧ SplD A st0 r R' bs' l' st' ∧ ∀ T, f20L2 T l (.ptr r 0) → AW Tryd.prog (f20P 4) (fun ex T' s => ex = .normal ∧ f20L2 T' l' (.ptr r 0) ∧ s = st') T st) := by
  have hw := hI.keep.wf
  obtain ⟨left, hrd, hL⟩ := hI.rd
  have hrn := hw _ _ hrd
  by_cases h4 : bs.length < 4
  · have hp : parse1 bs = none := by unfold parse1; rw [if_pos h4]
    exact .inl ⟨st, hI.done hp (fun h => h) hI.keep, fun T hT => f20_4_T (num_short hrd hL (by simpa using h4)) (neqT (by decide)) hT⟩
  obtain ⟨lf1, c1, L1, i1⟩ := num_ok hw hI.lock hrd hL (by omega) (by decide)
  have w1 := takeSt_wf (ty := 112) (n := 4) (bs := bs.map u8) (lf := lf1) hw hrn
  have r1 := takeSt_r (st := st) (r := r) (ty := 112) (n := 4) (bs := bs.map u8) (lf := lf1)
  have ls1 := fun l (h : LR st l R) => LR_take h hrd hw (bs.map u8) 4 lf1
  have k1 : RestF st0 (takeSt st r 112 (bs.map u8) 4 lf1) [] := hI.keep.take hw0 hr0 hrn
  have x1 : st0.next ≤ (takeSt st r 112 (bs.map u8) 4 lf1).next := k1.next
  have lk1 : (takeSt st r 112 (bs.map u8) 4 lf1).lock = [] := by rw [takeSt_lock]; exact hI.lock
  have rn1 : r < (takeSt st r 112 (bs.map u8) 4 lf1).next := by rw [takeSt_next]; omega
  have hnx1 : (takeSt st r 112 (bs.map u8) 4 lf1).next = st.next + 1 := takeSt_next
  generalize hs1 : takeSt st r 112 (bs.map u8) 4 lf1 = st1 at *
  by_cases hn1 : num4 bs < 1
  · have hp : parse1 bs = none := by unfold parse1; rw [if_neg h4, if_pos hn1]
    exact .inl ⟨st1, hI.done hp (ls1 l) k1, fun T hT => f20_4_FT c1 (neqF rfl) (lssT (by omega)) hT⟩
  by_cases hn2 : 4096 < num4 bs
  · have hp : parse1 bs = none := by unfold parse1; rw [if_neg h4, if_neg hn1, if_pos hn2]
    exact .inl ⟨st1, hI.done hp (ls1 l) k1, fun T hT => f20_4_FFT c1 (neqF rfl) (lssF (by omega)) (gtrT (by omega)) hT⟩
  by_cases h8 : (bs.drop 4).length < 4
  · have hp : parse1 bs = none := by unfold parse1; rw [if_neg h4, if_neg hn1, if_neg hn2, if_pos h8]
    exact .inl ⟨st1, hI.done hp (ls1 l) k1, fun T hT => f20_4_FFFT c1 (neqF rfl) (lssF (by omega)) (gtrF (by omega)) (num_short r1 L1 (by simpa using h8)) (neqT (by decide)) hT⟩
  have hd8 : (bs.drop 4).drop 4 = bs.drop 8 := by rw [List.drop_drop]
  obtain ⟨lf2, c2, L2, i2⟩ := num_ok w1 lk1 r1 L1 (by omega) (by decide)
  rw [hd8] at L2
  have w2 := takeSt_wf (ty := 112) (n := 4) (bs := (bs.drop 4).map u8) (lf := lf2) w1 rn1
  have r2 := takeSt_r (st := st1) (r := r) (ty := 112) (n := 4) (bs := (bs.drop 4).map u8) (lf := lf2)
  have ls2 := fun l (h : LR st1 l R) => LR_take h r1 w1 ((bs.drop 4).map u8) 4 lf2
  have k2 : RestF st0 (takeSt st1 r 112 ((bs.drop 4).map u8) 4 lf2) [] := k1.take hw0 hr0 rn1
  have x2 : st0.next ≤ (takeSt st1 r 112 ((bs.drop 4).map u8) 4 lf2).next := k2.next
  have lk2 : (takeSt st1 r 112 ((bs.drop 4).map u8) 4 lf2).lock = [] := by rw [takeSt_lock]; exact lk1
  have rn2 : r < (takeSt st1 r 112 ((bs.drop 4).map u8) 4 lf2).next := by rw [takeSt_next]; omega
  generalize hs2 : takeSt st1 r 112 ((bs.drop 4).map u8) 4 lf2 = st2 at *
  obtain ⟨n, hn⟩ : ∃ n : Nat, num4 bs = (n : Int) := ⟨(num4 bs).toNat, by omega⟩
  have hnt : (num4 bs).toNat = n := by rw [hn]; rfl
  have hcv : convO E0 st2 84 3 (u64 (num4 bs)) = some (i64 n, st2) := by rw [hn]; exact conv64 st2 n (by omega)
  by_cases hsh : (bs.drop 8).length < n
  · have hp : parse1 bs = none := by unfold parse1; rw [if_neg h4, if_neg hn1, if_neg hn2, if_neg h8, if_pos (by rw [hnt]; exact hsh)]
    exact .inl ⟨st2, hI.done hp (fun h => ls2 l (ls1 l h)) k2, fun T hT => f20_4_FFFFT c1 (neqF rfl) (lssF (by omega)) (gtrF (by omega)) c2 (neqF rfl) hcv (take_short r2 L2 (by simpa using hsh)) (neqT (by decide)) hT⟩
  obtain ⟨lf3, c3, L3, i3⟩ := take_ok (n := n) w2 lk2 r2 L2 (by omega) (by simpa using hsh) (by omega) (by decide)
  rw [← List.map_drop] at L3
  have w3 := takeSt_wf (ty := 112) (n := n) (bs := (bs.drop 8).map u8) (lf := lf3) w2 rn2
  have r3 := takeSt_r (st := st2) (r := r) (ty := 112) (n := n) (bs := (bs.drop 8).map u8) (lf := lf3)
  have ls3 := fun l (h : LR st2 l R) => LR_take h r2 w2 ((bs.drop 8).map u8) n lf3
  have k3 : RestF st0 (takeSt st2 r 112 ((bs.drop 8).map u8) n lf3) [] := k2.take hw0 hr0 rn2
  have x3 : st0.next ≤ (takeSt st2 r 112 ((bs.drop 8).map u8) n lf3).next := k3.next
  have lk3 : (takeSt st2 r 112 ((bs.drop 8).map u8) n lf3).lock = [] := by rw [takeSt_lock]; exact lk2
  have rn3 : r < (takeSt st2 r 112 ((bs.drop 8).map u8) n lf3).next := by rw [takeSt_next]; omega
  have g3 : (takeSt st2 r 112 ((bs.drop 8).map u8) n lf3).get st2.next = some (.row (((bs.drop 8).take n).map u8) 5) := by
    rw [takeSt_get, if_neg (by omega), if_pos rfl, List.map_take]
  have hnx3 : (takeSt st2 r 112 ((bs.drop 8).map u8) n lf3).next = st2.next + 1 := takeSt_next
  generalize hs3 : takeSt st2 r 112 ((bs.drop 8).map u8) n lf3 = st3 at *
  have hdl : ((bs.drop 8).take n).length = n := by rw [List.length_take]; omega
  have c4 := sum_ok (f := true) g3 hdl.symm (by omega)
  by_cases hcr : crcU ((bs.drop 8).take n) ≠ num4 (bs.drop 4)
  · have hp : parse1 bs = none := by unfold parse1; rw [if_neg h4, if_neg hn1, if_neg hn2, if_neg h8, if_neg (by rw [hnt]; exact hsh), if_pos (by rw [hnt]; exact hcr)]
    exact .inl ⟨st3, hI.done hp (fun h => ls3 l (ls2 l (ls1 l h))) k3, fun T hT => f20_4_FFFFFT c1 (neqF rfl) (lssF (by omega)) (gtrF (by omega)) c2 (neqF rfl) hcv c3 (neqF rfl) c4 (conv32 _ _) (neqT hcr) hT⟩
  have hp : parse1 bs = some ((bs.drop 8).take n, (bs.drop 8).drop n) := by
    unfold parse1; rw [if_neg h4, if_neg hn1, if_neg hn2, if_neg h8, if_neg (by rw [hnt]; exact hsh), if_neg (by rw [hnt]; exact hcr), hnt]
  have hlen := parse1_len hp
  simp only at hlen
  have l3 : LR st3 (l) R := ls3 _ (ls2 _ (ls1 _ hI.ls))
  have hlen2 := hI.len
  obtain ⟨st5, ha, g5, lk5, nx5, kp5, hw5, gl5⟩ := app_rec' l3 w3 lk3 (by omega) (dS st2.next n)
  have hF := fun hw5 => frzSt_ok (st := st5) (id := st2.next) (vs := ((bs.drop 8).take n).map u8) hw5
  have nl : ∀ (i : Nat) (o : AObj) (vs : List AV) (ty : Nat), st3.get i = some (.row vs ty) → ty ≠ 33 → l ≠ .sl i 1 0 R.length false := fun i o vs ty hg hty e => by
    rcases l3 with ⟨_, h⟩ | ⟨_, id, h, hg'⟩
    · rw [h] at e; cases e
    · rw [h] at e; cases e
      rw [hg] at hg'
      simp only [Option.some.injEq, AObj.row.injEq] at hg'
      exact hty hg'.2
  have gd : st5.get st2.next = some (.row (((bs.drop 8).take n).map u8) 5) := kp5 _ _ g3 (nl _ (.siter default 0) _ _ g3 (by decide))
  have gr : st5.get r = some (.row [lf3, TT] 112) := kp5 _ _ r3 (nl _ (.siter default 0) _ _ r3 (by decide))
  have hrn3 : r ≠ st2.next := by omega
  have hfl : frz st2.next (((bs.drop 8).take n).map u8) lf3 = lf3 := by
    rcases L3 with ⟨_, h | ⟨f, h⟩⟩ | ⟨_, id, off, full, B, h, _⟩
    · rw [h]; rfl
    · rw [h]; simp [frz, frzL]
    · rw [h]
      have := i3 _ _ _ _ _ h
      simp only [frz]
      rw [if_neg (by omega)]
  refine .inr ⟨R ++ [(bs.drop 8).take n], (bs.drop 8).drop n, .sl (st3.next + 1) 1 0 (R.length + 1) false, frzSt st2.next (((bs.drop 8).take n).map u8) st5, by omega, ?_, fun T hT => ?_⟩
  · have hF := hF hw5
    refine ⟨⟨lf3, ?_, ?_⟩, .inr ⟨by simp, st3.next + 1, by simp, ?_⟩, lk5, ⟨fun i o hi ho hp => ?_, ?_, ?_, ?_, ?_⟩, ?_, ?_, fun i sz o k f e => ?_⟩
    · rw [hF.get, if_neg hrn3, gr]
      simp only [Option.map_some, frzO, frzL, hfl, frz]
    · rcases L3 with h | ⟨hne, id, off, full, B, h, hg, hd⟩
      · exact .inl h
      · refine .inr ⟨hne, id, off, full, B, h, ?_, hd⟩
        have hi := i3 _ _ _ _ _ h
        rw [hF.get, if_neg (by omega), kp5 _ _ hg (nl _ (.siter default 0) _ _ hg (by decide))]
        simp only [Option.map_some, frzO, frz_u8]
    · rw [hF.get, if_neg (by omega), g5]
      simp only [Option.map_some, frzO]
      rw [frzL_eq, List.map_append, ← frzL_eq, frz_recs, List.map_append]
      congr 3
      simp only [List.map_cons, List.map_nil, dS, frz, if_true, recA, hdl, Nat.mul_one, Nat.zero_add, List.length_map, List.drop_zero, Nat.le_refl]
      rw [List.take_of_length_le (by rw [List.length_map, hdl]; exact Nat.le_refl _)]
    · have hi := hw0 _ _ ho
      have hst3 := k3.keep i o (by simp) ho hp
      rw [hF.get, if_neg (by omega)]
      have : st5.get i = some o := kp5 i o hst3 fun e => ?_
      · rw [this, Option.map_some, show frzO _ _ o = o from hp _ _ (by omega)]
      · have := hI.lid _ _ _ _ _ e; omega
    · rw [hF.next]; omega
    · rw [hF.lock, lk5, ← lk3]; exact k3.lock
    · rw [hF.gl, gl5]; exact k3.gl
    · intro i o ho
      rw [hF.get] at ho
      split at ho
      · cases ho
      · obtain ⟨o', h1, _⟩ := Option.map_eq_some_iff.1 ho
        rw [hF.next]; exact hw5 _ _ h1
    · rw [← hI.law, split_some hp]
      simp
    · simp only [List.length_append, List.length_cons, List.length_nil]
      omega
    · cases e; omega
  · refine AW.freeze (f20_4_FFFFFF c1 (neqF rfl) (lssF (by omega)) (gtrF (by omega)) c2 (neqF rfl) hcv c3 (neqF rfl) c4 (conv32 _ _) (neqF (Classical.not_not.1 hcr)) (build33 _ _ _) ha hT) ?_
    rintro e T' st' ⟨rfl, ⟨hn', t3, t4⟩, rfl⟩ _ _
    refine ⟨st2.next, _, 5, gd, lk5, rfl, ⟨hn', ?_, ?_⟩, rfl⟩
    · rw [frzT_get, t3]; simp only [frz]; rw [if_neg (by omega)]
    · rw [frzT_get, t4]; rfl
end
section
set_option maxRecDepth 4000
theorem newRunE (st : St) (i j : Nat) (full : Bool) (f1 : St → St) : newEv (.sl i 1 0 0 full) st [.eff (.sl j 1 0 0 true) f1] = some (.ptr (f1 (st.push (.row [] 5))).next 0, (f1 (st.push (.row [] 5))).push (.row [.sl j 1 0 0 true, TT] 112), [appendA E0 (st.push (.row [] 5)) 33 33 (.sl st.next 1 0 0 true) (.sl i 1 0 0 full) = some (.sl j 1 0 0 true, f1 (st.push (.row [] 5)))]) := by kernel_rfl
/-- a reader's left bytes, an empty slice too -/
def LeftE (st : St) (v : AV) (bs : List Int) : Prop := LeftR st v (bs.map u8) ∨ (bs = [] ∧ ∃ j, v = .sl j 1 0 0 true)
theorem new_own {st : St} {b : AV} {A : List Int} (hw : st.wf) (hb : OwnB st b A) (hA : A.length ≤ 1000000) :
    ∃ r left st', obC 33 [b] st (.ptr r 0) st' ∧ st.next ≤ r ∧ st'.get r = some (.row [left, TT] 112) ∧ LeftE st' left A ∧ Rest st st' [] := by
  rcases hb with ⟨rfl, rfl⟩ | ⟨rfl, i, rfl, hg⟩ | ⟨hne, i, rfl, hg⟩
  · obtain ⟨x1, h1⟩ := run_of (newRunN st)
    exact ⟨st.next, .nils, _, ACalls.run hE (ov := noOv) noOv_ok h1 Ob.ok_nil, Nat.le_refl _, by rw [St.get_push, if_pos rfl], .inl (.inl ⟨rfl, .inl rfl⟩), Rest.push hw _ _⟩
  · have hi := hw _ _ hg
    have hg' : (st.push (.row [] 5)).get i = some (.row [] 5) := by rw [St.get_push, if_neg (by omega)]; exact hg
    have ha : appendA E0 (st.push (.row [] 5)) 33 33 (.sl st.next 1 0 0 true) (.sl i 1 0 0 true) = some (.sl st.next 1 0 0 true, st.push (.row [] 5)) := by
      have hc : sliceCells (st.push (.row [] 5)) (.sl i 1 0 0 true) = some (0, []) := by rw [cells_sl hg' (by simp)]; rfl
      simp only [appendA, el28, src28, str28, hc]
      rw [if_pos ⟨by simp, fun h => by cases h⟩, if_neg (fun h => h rfl), if_pos trivial]
    obtain ⟨x1, h1⟩ := run_of (newRunE st i st.next true id)
    exact ⟨_, _, _, ACalls.run hE (ov := noOv) noOv_ok h1 (by simp only [Ob.ok_cons, Ob.ok_nil, and_true]; exact ha), by simp, by rw [St.get_push, if_pos rfl], .inr ⟨rfl, _, rfl⟩, (Rest.push hw _ _).trans (Rest.push (push_wf hw _) _ _)⟩
  · have hi := hw _ _ hg
    have h0 : 0 < A.length := List.length_pos_iff.2 hne
    have hg' : (st.push (.row [] 5)).get i = some (.row (A.map u8) 5) := by rw [St.get_push, if_neg (by omega)]; exact hg
    have ha : appendA E0 (st.push (.row [] 5)) 33 33 (.sl st.next 1 0 0 true) (.sl i 1 0 A.length false) = some (.sl (st.next + 1) 1 0 A.length false, (st.push (.row [] 5)).push (.row (A.map u8) 5)) := by
      have := app_full_w (st := st.push (.row [] 5)) (id := st.next) (off := 0) (len := 0) (n := A.length) (vs := []) (c := A.map u8) (x := .sl i 1 0 A.length false) (by rw [St.get_push, if_pos rfl]) (by simp)
        (by rw [cells_sl hg' (by simp), List.drop_zero, List.take_of_length_le (by simp)]) (by simp) (by omega) (by omega)
      simpa using this
    obtain ⟨x1, h1⟩ := run_of (newRun st (fun _ => (st.push (.row [] 5)).push (.row (A.map u8) 5)) i 0 A.length (st.next + 1) A.length false)
    refine ⟨st.next + 2, .sl (st.next + 1) 1 0 A.length false, _, ACalls.run hE (ov := noOv) noOv_ok h1 (by simp only [Ob.ok_cons, Ob.ok_nil, and_true]; exact ha), by omega, by rw [St.get_push, if_pos (by simp)], .inl (.inr ⟨by simpa using hne, st.next + 1, 0, false, A, by simp, ?_, by simp⟩), ((Rest.push hw _ _).trans (Rest.push (push_wf hw _) _ _)).trans (Rest.push (push_wf (push_wf hw _) _) _ _)⟩
    rw [St.get_push, if_neg (by simp), St.get_push, if_pos (by simp)]
theorem num_shortE {st : St} {r ty j : Nat} (hr : st.get r = some (.row [.sl j 1 0 0 true, TT] ty)) : obC 34 [.ptr r 0, i64 4] st (.tup [u64 0, i64 4]) st := by
  have k : obC 35 [.ptr r 0, i64 (4 : Nat)] st (.tup [.nils, i64 4]) st := take_run (takeShort r j 0 0 true (4 : Nat) st) (by
    simp only [Ob.ok_cons, Ob.ok_nil, and_true]
    exact ⟨⟨load_row hr (part4 rfl), rfl⟩, lt_F (by omega), ⟨load_row hr (part24 rfl), rfl⟩, gt_T (by omega)⟩)
  refine num_run (numShort r j 0 0 true st) ?_
  simp only [obR_w, List.cons_append, List.nil_append, Ob.ok_cons, Ob.ok_nil, and_true]
  exact ⟨⟨load_row hr (part4 rfl), rfl⟩, lt_F (by omega), ⟨load_row hr (part24 rfl), rfl⟩, gt_F (by omega), k⟩
theorem spl_chain {A : List Int} {st0 : St} {r : Nat} (hA : A.length ≤ 1000000) (hw0 : st0.wf) (hr0 : st0.next ≤ r) : ∀ (k : Nat) (bs : List Int), bs.length ≤ k → ∀ {R : List (List Int)} {l : AV} {st : St}, SplD A st0 r R bs l st →
    ∃ (n : Nat) (c : Nat → St) (v : Nat → AV) (sf : St), c 0 = st ∧ v 0 = l ∧ (∀ i, i < n → ∀ T, f20L2 T (v i) (.ptr r 0) → AW Tryd.prog (f20P 4) (fun ex T' s => ex = .normal ∧ f20L2 T' (v (i + 1)) (.ptr r 0) ∧ s = c (i + 1)) T (c i)) ∧
      (∀ T, f20L2 T (v n) (.ptr r 0) → AW Tryd.prog (f20P 4) (fun ex T' s => ex = .exit 0 ∧ f20L3 T' (v n) ∧ s = sf) T (c n)) ∧ LR sf (v n) (splitN A.length A) ∧ RestF st0 sf [] ∧ ∀ i sz o k f, v n = .sl i sz o k f → st0.next ≤ i := by
  intro k
  induction k with
  | zero =>
    intro bs hk R l st hI
    rcases spl_det hI hA hw0 hr0 with ⟨sf, ⟨h1, h2⟩, h3⟩ | ⟨R', bs', l', st', hlt, _, _⟩
    · exact ⟨0, fun _ => st, fun _ => l, sf, rfl, rfl, fun i h => by omega, h3, h1, h2, hI.lid⟩
    · omega
  | succ k ih =>
    intro bs hk R l st hI
    rcases spl_det hI hA hw0 hr0 with ⟨sf, ⟨h1, h2⟩, h3⟩ | ⟨R', bs', l', st', hlt, hI', h3⟩
    · exact ⟨0, fun _ => st, fun _ => l, sf, rfl, rfl, fun i h => by omega, h3, h1, h2, hI.lid⟩
    · obtain ⟨n, c, v, sf, c0, v0, ht, hf, h4, h5, h6⟩ := ih bs' (by omega) hI'
      refine ⟨n + 1, fun i => match i with | 0 => st | i + 1 => c i, fun i => match i with | 0 => l | i + 1 => v i, sf, rfl, rfl, fun i hi T hT => ?_, hf, h4, h5, h6⟩
      match i, hi, hT with
      | 0, _, hT => simp only; rw [c0, v0]; exact h3 T hT
      | i + 1, hi, hT => exact ht i (by omega) T hT
theorem split_own {st : St} {b : AV} {A : List Int} (hw : st.wf) (hl : st.lock = []) (hb : OwnB st b A) (hA : A.length ≤ 1000000) :
    ∃ l st', obC 20 [b] st l st' ∧ LR st' l (splitN A.length A) ∧ RestF st st' [] ∧ ∀ i sz o k f, l = .sl i sz o k f → st.next ≤ i := by
  obtain ⟨r, left, s1, hnew, hr0, hrd, hL, hk⟩ := new_own hw hb hA
  obtain ⟨n, c, v, sf, c0, v0, ht, hf, h4, h5, h6⟩ : ∃ (n : Nat) (c : Nat → St) (v : Nat → AV) (sf : St), c 0 = s1 ∧ v 0 = .nils ∧ (∀ i, i < n → ∀ T, f20L2 T (v i) (.ptr r 0) → AW Tryd.prog (f20P 4) (fun ex T' s => ex = .normal ∧ f20L2 T' (v (i + 1)) (.ptr r 0) ∧ s = c (i + 1)) T (c i)) ∧
      (∀ T, f20L2 T (v n) (.ptr r 0) → AW Tryd.prog (f20P 4) (fun ex T' s => ex = .exit 0 ∧ f20L3 T' (v n) ∧ s = sf) T (c n)) ∧ LR sf (v n) (splitN A.length A) ∧ RestF st sf [] ∧ ∀ i sz o k f, v n = .sl i sz o k f → st.next ≤ i := by
    rcases hL with hL | ⟨rfl, j, rfl⟩
    · exact spl_chain hA hw hr0 A.length A (Nat.le_refl _) (R := []) (l := .nils) (st := s1) ⟨⟨left, hrd, hL⟩, .inl ⟨rfl, rfl⟩, hk.lock.trans hl, hk.f, rfl, by simp, fun i sz o k f e => by cases e⟩
    · exact ⟨0, fun _ => s1, fun _ => .nils, s1, rfl, rfl, fun i h => by omega, fun T hT => f20_4_T (num_shortE hrd) (neqT (by decide)) hT, .inl ⟨rfl, rfl⟩, hk.f, fun i sz o k f e => by cases e⟩
  refine ⟨v n, sf, ?_, h4, h5, h6⟩
  refine ACalls.body (E := E0) hE Tryd.func20 f20body ?_
  refine AW.andThen (f20_0 ⟨rfl, rfl⟩) fun T1 q1 => .scope ?_
  refine AW.andThen (f20_1 q1) fun T2 q2 => ?_
  refine AW.andThen (f20_2 hnew q2) fun T3 q3 => ?_
  refine AW.andThen (f20_3 q3) fun T4 q4 => ?_
  refine AW.andThen (AW.turns (In := fun i T => f20L2 T (v i) (.ptr r 0)) (L := fun T => f20L3 T (v n)) (c := c) (n := n) (sf := sf) c0.symm (by rw [v0]; exact q4) ht hf) fun T5 q5 => ?_
  refine AW.atRet (f20_5 q5) fun T6 q6 => ?_
  refine ⟨fun l h => (by cases h), [T6.get 2], rfl, ?_⟩
  simp only [oneOrTup]
  exact ⟨q6.2, trivial⟩
end
section
set_option maxRecDepth 4000
theorem obC_gl {f : Nat} {args : List AV} {st st' : St} {a : AV} (h : obC f args st a st') : obC f args st a { st' with gl := st.gl } := by
  by_cases e : st'.gl = st.gl
  · rw [← e]; exact h
  · exact fun g w us hok hv => (h g w us hok hv).mono fun e' w' ⟨g', s, r, v, h1, k1, h3, h4, h5⟩ => absurd (by rw [← h5]; exact k1.gl) e
theorem frame_own {f : Bool} {st : St} (hw : st.wf) (hl : st.lock = []) {d : List Int} (h1 : 1 ≤ d.length) (h2 : d.length ≤ 4096) :
    ∃ v st', obC 22 [recF f d] st (.tup [v, i64 0]) st' ∧ (∃ i, v = .sl i 1 0 (frameL d).length false ∧ st'.get i = some (.row ((frameL d).map u8) 5) ∧ st.next ≤ i) ∧ Rest st st' [] := by
  obtain ⟨i, st', r, hg, hl', hi, hx, hk, hw'⟩ := frame_ok hw hl h1 h2
  exact ⟨_, _, obC_gl r, ⟨i, by rw [frame_len]; rfl, hg, hi⟩, fun j o _ ho => hk j o ho, hx, hl'.trans hl.symm, rfl, hw'⟩
/-- bytes in a slice of their own -/
def OwnW (st0 st : St) (v : AV) (c : List Int) : Prop := ∃ i, v = .sl i 1 0 c.length false ∧ st.get i = some (.row (c.map u8) 5) ∧ st0.next ≤ i
theorem OwnW.rest {st0 st st' : St} {v : AV} {c : List Int} {S : List Nat} (h : OwnW st0 st v c) (hr : Rest st st' S) (hS : ∀ i ∈ S, i < st0.next) : OwnW st0 st' v c := by
  obtain ⟨i, h1, h2, h3⟩ := h
  exact ⟨i, h1, hr.keep i _ (fun hi => by have := hS i hi; omega) h2, h3⟩
theorem OwnW.arg {st0 st : St} {v : AV} {c : List Int} (h : OwnW st0 st v c) : ArgB st v c := by
  obtain ⟨i, h1, h2, _⟩ := h
  exact .inr (.inr ⟨i, false, h1, h2⟩)
section
variable {st : St} {w d m nx op ct : Nat} {s : PS}
theorem WA.lt (h : WA st w d m s nx op ct) : ∀ i ∈ [d, m, w], i < st.next := fun i hi => by
  obtain ⟨_, _, hm⟩ := h.disk.map
  simp only [List.mem_cons, List.not_mem_nil, or_false] at hi
  rcases hi with rfl | rfl | rfl
  · exact h.wf _ _ h.disk.row
  · exact h.wf _ _ hm
  · exact h.wf _ _ h.row
/-- the last part of Append: the name, the disk's Append -/
theorem wapp_tail {st0 : St} {v : AV} {c : List Int} (h : WA st w d m s nx op ct) {U : Nat} (hf : Fine s U) (hU : U < 1000000000) (ho : 1 ≤ op ∧ op ≤ 9) (hv : OwnW st0 st v c) (hc : c.length < 1000000000) (hlt : ∀ i ∈ [d, m, w], i < st0.next) :
    ∃ sA sB s', obC 18 [i64 op] st (.tup [str (nm op), i64 0]) sA ∧ loadA E0 sA 23 (.ptr w 0) = some (.ptr d 0) ∧ obC 24 [.ptr d 0, str (nm op), v] sA (i64 (appE s (nm op) c)) sB ∧ AppS s (nm op) c s' ∧ WA sB w d m s' nx op ct ∧ RestF st sB [d, m, w] := by
  obtain ⟨sA, r1, k1⟩ := name_ok (k := op) (by omega) h.wf
  have h1 := h.rest k1
  obtain ⟨sB, s', r2, p2, k2, a2⟩ := append_ok h1.disk h1.wf h1.lock hf.good (by have := hf.used; omega) hf.q (nm op) (hv.rest k1 (by simp)).arg hc
  have hw2 : sB.get w = some (.row [.ptr d 0, i64 nx, i64 op, i64 ct] 54) := k2.keep w _ (by simp [h.wd, h.wm]) h1.row fun _ _ _ => rfl
  exact ⟨sA, sB, s', r1, h1.l0, r2, a2, ⟨p2, hw2, k2.wf, k2.lock.trans h1.lock⟩, (k1.f.weak (by simp)).trans (k2.weak (by simp))⟩
def wPre (s : PS) (nx op ct : Nat) : Int × PS × Nat × Nat × Nat :=
  if 0 < op ∧ ct = 8 then
    if (pSync s (nm op)).1 ≠ 0 then ((pSync s (nm op)).1, (pSync s (nm op)).2, nx, op, ct) else
    if (pCreate (pSync s (nm op)).2 (nm nx)).1 ≠ 0 then ((pCreate (pSync s (nm op)).2 (nm nx)).1, (pCreate (pSync s (nm op)).2 (nm nx)).2, nx, 0, ct)
    else (0, (pCreate (pSync s (nm op)).2 (nm nx)).2, nx + 1, nx, 0)
  else if op = 0 then
    if (pCreate s (nm nx)).1 ≠ 0 then ((pCreate s (nm nx)).1, (pCreate s (nm nx)).2, nx, 0, ct) else (0, (pCreate s (nm nx)).2, nx + 1, nx, 0)
  else (0, s, nx, op, ct)
/-- what Append comes to: an error ahead of the disk's Append; or that call's -/
def WApp (x : AV) (c : List Int) (st : St) (w d m : Nat) (s : PS) (nx op ct : Nat) (st' : St) (s' : PS) : Prop :=
  ((wPre s nx op ct).1 ≠ 0 ∧ s' = (wPre s nx op ct).2.1 ∧ obC 8 [.ptr w 0, x] st (.tup [i64 0, i64 (wPre s nx op ct).1]) st' ∧ WA st' w d m s' (wPre s nx op ct).2.2.1 (wPre s nx op ct).2.2.2.1 (wPre s nx op ct).2.2.2.2) ∨
  ((wPre s nx op ct).1 = 0 ∧ AppS (wPre s nx op ct).2.1 (nm (wPre s nx op ct).2.2.2.1) c s' ∧
    ((appE (wPre s nx op ct).2.1 (nm (wPre s nx op ct).2.2.2.1) c ≠ 0 ∧ obC 8 [.ptr w 0, x] st (.tup [i64 0, i64 (appE (wPre s nx op ct).2.1 (nm (wPre s nx op ct).2.2.2.1) c)]) st' ∧ WA st' w d m s' (wPre s nx op ct).2.2.1 (wPre s nx op ct).2.2.2.1 (wPre s nx op ct).2.2.2.2) ∨
     (appE (wPre s nx op ct).2.1 (nm (wPre s nx op ct).2.2.2.1) c = 0 ∧ obC 8 [.ptr w 0, x] st (.tup [i64 (wPre s nx op ct).2.2.2.1, i64 0]) st' ∧ WA st' w d m s' (wPre s nx op ct).2.2.1 (wPre s nx op ct).2.2.2.1 ((wPre s nx op ct).2.2.2.2 + 1))))
theorem wapp_fin {sB : St} {s' : PS} {ct' : Nat} (h : WA sB w d m s' nx op ct') (hct : ct' ≤ 1000) : ∃ s7, storeA E0 sB 3 (.ptr w 3) (i64 (ct' + 1 : Int)) = some s7 ∧ WA s7 w d m s' nx op (ct' + 1) ∧ Rest sB s7 [w] := by
  obtain ⟨h3, k3⟩ := h.set (vs := [.ptr d 0, i64 nx, i64 op, i64 ct'].set 3 (i64 (ct' + 1 : Nat))) rfl
  exact ⟨_, storeWl h.row h.lock (by simp) _, h3, k3⟩
theorem wappend_okF {f : Bool} {U : Nat} {data : List Int} (h : WA st w d m s nx op ct) (hf : Fine s U) (hU : U < 1000000000) (hn : 1 ≤ nx ∧ nx ≤ 9) (ho : op ≤ 9) (hct : ct ≤ 8) (h1 : 1 ≤ data.length) (h2 : data.length ≤ 4096) :
    ∃ st' s', WApp (recF f data) (frameL data) st w d m s nx op ct st' s' ∧ RestF st st' [d, m, w] := by
  have hlt := h.lt
  have hcl : (frameL data).length < 1000000000 := by rw [frame_len]; omega
  obtain ⟨v, s1, f1, hv, kf⟩ := frame_own h.wf h.lock h1 h2
  have hv1 : OwnW st s1 v (frameL data) := hv
  have w1 := h.rest kf
  have kf' : Rest st s1 [d, m, w] := kf.weak (by simp)
  by_cases hfull : 0 < op ∧ ct = 8
  · obtain ⟨s2, r2, w2, k2⟩ := wsync_ok w1 hf.good ho
    have hsy : wSync s op = pSync s (nm op) := by unfold wSync; rw [if_neg (by omega)]
    rw [hsy] at r2 w2
    by_cases he : (pSync s (nm op)).1 ≠ 0
    · refine ⟨s2, (pSync s (nm op)).2, .inl ?_, (kf'.trans (k2.weak (by simp))).f⟩
      have : wPre s nx op ct = ((pSync s (nm op)).1, (pSync s (nm op)).2, nx, op, ct) := by unfold wPre; rw [if_pos hfull, if_pos he]
      rw [this]
      exact ⟨he, rfl, f8_FTTT h.l0 f1 (neqF rfl) w1.l2 (gtrT (by omega)) w1.l3 (eqlT (by omega)) r2 (neqT he), w2⟩
    have he' := Classical.not_not.1 he
    rw [he'] at r2
    obtain ⟨w3, k3⟩ := w2.set (vs := [.ptr d 0, i64 nx, i64 op, i64 ct].set 2 (i64 (0 : Nat))) rfl
    have t3 := storeWl w2.row w2.lock (k := 2) (by simp) 0
    have hf3 : Fine (pSync s (nm op)).2 U := hf.sync _
    obtain ⟨s4, r4, w4, k4⟩ := begin_ok w3 hf3.good.fu hn
    have k14 : Rest st s4 [d, m, w] := (kf'.trans (k2.weak (by simp))).trans ((k3.weak (by simp)).trans k4)
    rcases w4 with ⟨hz, w4⟩ | ⟨hz, w4⟩
    · have hp : wPre s nx op ct = (0, (pCreate (pSync s (nm op)).2 (nm nx)).2, nx + 1, nx, 0) := by unfold wPre; rw [if_pos hfull, if_neg he, if_neg (fun e => e hz)]
      have hv4 : OwnW st s4 v (frameL data) := ((hv1.rest (k2.weak (S' := [d, m, w]) (by simp)) hlt).rest (k3.weak (S' := [d, m, w]) (by simp)) hlt).rest k4 hlt
      obtain ⟨sA, sB, s', a1, a2, a3, a4, a5, a6⟩ := wapp_tail w4 (hf3.create (nm nx)) hU hn hv4 hcl hlt
      rw [hz] at r4
      by_cases hz2 : appE (pCreate (pSync s (nm op)).2 (nm nx)).2 (nm nx) (frameL data) = 0
      · obtain ⟨s7, b1, b2, b3⟩ := wapp_fin a5 (by omega)
        refine ⟨s7, s', .inr ?_, k14.f.trans (a6.trans (b3.f.weak (by simp)))⟩
        rw [hp]
        rw [hz2] at a3
        exact ⟨rfl, a4, .inr ⟨hz2, f8_FTTFTFF h.l0 f1 (neqF rfl) w1.l2 (gtrT (by omega)) w1.l3 (eqlT (by omega)) r2 (neqF rfl) t3 w3.l2 (eqlT rfl) r4 (neqF rfl) w4.l2 a1 a2 a3 (neqF rfl) a5.l3 (add64 (by omega)) b1 b2.l2, b2⟩⟩
      · refine ⟨sB, s', .inr ?_, k14.f.trans a6⟩
        rw [hp]
        exact ⟨rfl, a4, .inl ⟨hz2, f8_FTTFTFT h.l0 f1 (neqF rfl) w1.l2 (gtrT (by omega)) w1.l3 (eqlT (by omega)) r2 (neqF rfl) t3 w3.l2 (eqlT rfl) r4 (neqF rfl) w4.l2 a1 a2 a3 (neqT hz2), a5⟩⟩
    · have hp : wPre s nx op ct = ((pCreate (pSync s (nm op)).2 (nm nx)).1, (pCreate (pSync s (nm op)).2 (nm nx)).2, nx, 0, ct) := by unfold wPre; rw [if_pos hfull, if_neg he, if_pos hz]
      refine ⟨s4, (pCreate (pSync s (nm op)).2 (nm nx)).2, .inl ?_, k14.f⟩
      rw [hp]
      exact ⟨hz, rfl, f8_FTTFTT h.l0 f1 (neqF rfl) w1.l2 (gtrT (by omega)) w1.l3 (eqlT (by omega)) r2 (neqF rfl) t3 w3.l2 (eqlT rfl) r4 (neqT hz), w4⟩
  by_cases h0 : op = 0
  · subst h0
    obtain ⟨s2, r2, w2, k2⟩ := begin_ok w1 hf.good.fu hn
    have k12 : Rest st s2 [d, m, w] := kf'.trans k2
    rcases w2 with ⟨hz, w2⟩ | ⟨hz, w2⟩
    · have hp : wPre s nx 0 ct = (0, (pCreate s (nm nx)).2, nx + 1, nx, 0) := by unfold wPre; rw [if_neg hfull, if_pos rfl, if_neg (fun e => e hz)]
      obtain ⟨sA, sB, s', a1, a2, a3, a4, a5, a6⟩ := wapp_tail w2 (hf.create (nm nx)) hU hn (hv1.rest k2 hlt) hcl hlt
      rw [hz] at r2
      by_cases hz2 : appE (pCreate s (nm nx)).2 (nm nx) (frameL data) = 0
      · obtain ⟨s7, b1, b2, b3⟩ := wapp_fin a5 (by omega)
        refine ⟨s7, s', .inr ?_, k12.f.trans (a6.trans (b3.f.weak (by simp)))⟩
        rw [hp]
        rw [hz2] at a3
        exact ⟨rfl, a4, .inr ⟨hz2, f8_FFTFF h.l0 f1 (neqF rfl) w1.l2 (gtrF (by omega)) w1.l2 (eqlT rfl) r2 (neqF rfl) w2.l2 a1 a2 a3 (neqF rfl) a5.l3 (add64 (by omega)) b1 b2.l2, b2⟩⟩
      · refine ⟨sB, s', .inr ?_, k12.f.trans a6⟩
        rw [hp]
        exact ⟨rfl, a4, .inl ⟨hz2, f8_FFTFT h.l0 f1 (neqF rfl) w1.l2 (gtrF (by omega)) w1.l2 (eqlT rfl) r2 (neqF rfl) w2.l2 a1 a2 a3 (neqT hz2), a5⟩⟩
    · have hp : wPre s nx 0 ct = ((pCreate s (nm nx)).1, (pCreate s (nm nx)).2, nx, 0, ct) := by unfold wPre; rw [if_neg hfull, if_pos rfl, if_pos hz]
      refine ⟨s2, (pCreate s (nm nx)).2, .inl ?_, k12.f⟩
      rw [hp]
      exact ⟨hz, rfl, f8_FFTT h.l0 f1 (neqF rfl) w1.l2 (gtrF (by omega)) w1.l2 (eqlT rfl) r2 (neqT hz), w2⟩
  · have hp : wPre s nx op ct = (0, s, nx, op, ct) := by unfold wPre; rw [if_neg hfull, if_neg h0]
    obtain ⟨sA, sB, s', a1, a2, a3, a4, a5, a6⟩ := wapp_tail w1 hf hU ⟨by omega, ho⟩ hv1 hcl hlt
    by_cases hz2 : appE s (nm op) (frameL data) = 0
    · obtain ⟨s7, b1, b2, b3⟩ := wapp_fin a5 (by omega)
      refine ⟨s7, s', .inr ?_, kf'.f.trans (a6.trans (b3.f.weak (by simp)))⟩
      rw [hp]
      rw [hz2] at a3
      exact ⟨rfl, a4, .inr ⟨hz2, f8_FTFFF h.l0 f1 (neqF rfl) w1.l2 (gtrT (by omega)) w1.l3 (eqlF (by omega)) w1.l2 (eqlF (by omega)) w1.l2 a1 a2 a3 (neqF rfl) a5.l3 (add64 (by omega)) b1 b2.l2, b2⟩⟩
    · refine ⟨sB, s', .inr ?_, kf'.f.trans a6⟩
      rw [hp]
      exact ⟨rfl, a4, .inl ⟨hz2, f8_FTFFT h.l0 f1 (neqF rfl) w1.l2 (gtrT (by omega)) w1.l3 (eqlF (by omega)) w1.l2 (eqlF (by omega)) w1.l2 a1 a2 a3 (neqT hz2), a5⟩⟩
theorem wappend_ok {U : Nat} {data : List Int} (h : WA st w d m s nx op ct) (hf : Fine s U) (hU : U < 1000000000) (hn : 1 ≤ nx ∧ nx ≤ 9) (ho : op ≤ 9) (hct : ct ≤ 8) (h1 : 1 ≤ data.length) (h2 : data.length ≤ 4096) :
    ∃ st' s', WApp (recW data) (frameL data) st w d m s nx op ct st' s' ∧ RestF st st' [d, m, w] := wappend_okF (f := false) h hf hU hn ho hct h1 h2
end
end
section
set_option maxRecDepth 4000
/-- a list that grows by append: none yet, or a row of its own -/
def Ls (st : St) (e sz : Nat) (l : AV) (n : Nat) (cells : List AV) : Prop := (n = 0 ∧ cells = [] ∧ l = .nils) ∨ (0 < n ∧ cells.length = n * sz ∧ ∃ id, l = .sl id sz 0 n false ∧ st.get id = some (.row cells e))
theorem Ls.keep {st st' : St} {e sz n : Nat} {l : AV} {cells : List AV} (h : Ls st e sz l n cells) (hk : ∀ id, l = .sl id sz 0 n false → st.get id = some (.row cells e) → st'.get id = some (.row cells e)) : Ls st' e sz l n cells := by
  rcases h with h | ⟨h1, h2, id, h3, h4⟩
  · exact .inl h
  · exact .inr ⟨h1, h2, id, h3, hk id h3 h4⟩
structure ElT (t e sz : Nat) : Prop where
  el : ∃ ti z, elemA E0 t = some (e, ti, z) ∧ ti.size = sz ∧ ti.bytes ≤ 1000
  str : isStrTy E0 t = false
  src : ∀ st x, srcA E0 st t x = sliceCells st x
theorem elT_of {t e sz : Nat} (h : (elemA E0 t).map (fun q => (q.1, q.2.1.size, decide (q.2.1.bytes ≤ 1000))) = some (e, sz, true)) : ∃ ti z, elemA E0 t = some (e, ti, z) ∧ ti.size = sz ∧ ti.bytes ≤ 1000 := by
  obtain ⟨⟨a, ti, z⟩, h1, h2⟩ := Option.map_eq_some_iff.1 h
  simp only [Prod.mk.injEq, decide_eq_true_eq] at h2
  obtain ⟨rfl, h3, h4⟩ := h2
  exact ⟨ti, z, h1, h3, h4⟩
theorem el55 : ElT 55 3 1 := ⟨elT_of (by kernel_rfl), by kernel_rfl, fun st x => by
  have : E0.ty 55 = some ⟨.slice 3, 1, 24, some (.slice none 0 0)⟩ := by kernel_rfl
  simp only [srcA, this]⟩
theorem app_one {t e sz : Nat} (hT : ElT t e sz) {st3 : St} {l : AV} {n : Nat} {cells c : List AV} (h : Ls st3 e sz l n cells) (hw : st3.wf) (hl : st3.lock = []) (hb : n + 1 ≤ 1000000) (hc : c.length = sz) (h0 : 0 < sz) :
    ∃ st5, appendA E0 (st3.push (.row c e)) t t l (.sl st3.next sz 0 1 true) = some (.sl (st3.next + 1) sz 0 (n + 1) false, st5) ∧ Ls st5 e sz (.sl (st3.next + 1) sz 0 (n + 1) false) (n + 1) (cells ++ c) ∧ st5.lock = [] ∧ st5.next = st3.next + 2 ∧ st5.gl = st3.gl ∧ st5.wf ∧
      ∀ i o, st3.get i = some o → l ≠ .sl i sz 0 n false → st5.get i = some o := by
  obtain ⟨ti, z, h1, h2, h3⟩ := hT.el
  have hx : sliceCells (st3.push (.row c e)) (.sl st3.next sz 0 1 true) = some (1, c) := by
    simp only [sliceCells]
    rw [St.get_push, if_pos rfl]
    simp only [Nat.zero_add, Nat.one_mul, List.drop_zero]
    rw [if_pos (by omega), List.take_of_length_le (by omega)]
  have hbb : (n + 1) * ti.bytes ≤ 140737488355328 := Nat.le_trans (Nat.mul_le_mul hb h3) (by decide)
  have hb1 : 1 * ti.bytes ≤ 140737488355328 := by omega
  rcases h with ⟨rfl, rfl, rfl⟩ | ⟨hn, hlen, id, rfl, hg⟩
  · refine ⟨(st3.push (.row c e)).push (.row c e), ?_, .inr ⟨by omega, by simp [hc], _, rfl, by rw [St.get_push, if_pos (by simp)]; rfl⟩, by simpa using hl, rfl, rfl, push_wf (push_wf hw _) _, fun i o ho _ => ?_⟩
    · simp only [appendA, h1, hT.src, hT.str, hx, h2]
      rw [if_pos ⟨by omega, fun h => by cases h⟩, if_neg (by decide), if_pos ⟨hb1, by omega⟩]; rfl
    · have := hw _ _ ho
      rw [St.get_push, if_neg (by rw [St.next_push]; omega), St.get_push, if_neg (by omega)]; exact ho
  · have hid := hw _ _ hg
    have hg' : (st3.push (.row c e)).get id = some (.row cells e) := by rw [St.get_push, if_neg (by omega)]; exact hg
    refine ⟨((st3.push (.row c e)).del id).push (.row (cells ++ c) e), ?_, .inr ⟨by omega, by rw [List.length_append, hlen, hc, Nat.add_mul, Nat.one_mul], _, rfl, by rw [St.get_push, if_pos (by simp)]⟩, by simpa using hl, rfl, rfl, push_wf (del_wf (push_wf hw _) _) _, fun i o ho hne' => ?_⟩
    · simp only [appendA, h1, hT.src, hT.str, hx, h2, hg']
      rw [if_pos ⟨by omega, fun h => by cases h⟩, if_neg (fun h => h rfl), if_neg (by decide), if_pos ⟨hbb, by omega⟩, if_pos ⟨trivial, by omega⟩]
      simp only [Bool.false_eq_true, if_false]
      rw [if_pos ⟨by omega, by simp [hl]⟩, List.drop_zero]; rfl
    · have := hw _ _ ho
      rw [St.get_push, if_neg (by rw [St.next_del, St.next_push]; omega), St.get_del, if_neg (fun e => hne' (by rw [e])), St.get_push, if_neg (by omega)]; exact ho
theorem build55 (st : St) (k : Int) : buildSliceA E0 st 55 1 [(0, i64 k)] = some (.sl st.next 1 0 1 true, st.push (.row [i64 k] 3)) := by kernel_rfl
/-! ### names of segments -/
theorem nm_ord : ∀ i j : Fin 9, i < j → nb (nm (i.val + 1)) < nb (nm (j.val + 1)) := by decide
theorem nm_may0 : ∀ i : Fin 9, (nm (i.val + 1)).size = 12 ∧ ∀ k : Fin 12, mayC (sg (nm (i.val + 1)) k.val) := by decide
theorem nm_may (i : Fin 9) : mayS (nm (i.val + 1)) := by
  obtain ⟨h1, h2⟩ := nm_may0 i
  exact ⟨by omega, by omega, fun k hk => h2 ⟨k, by omega⟩⟩
theorem nm_lt {i j : Nat} (h : i < j) (hi : 1 ≤ i) (hj : j ≤ 9) : nb (nm i) < nb (nm j) := by
  have := nm_ord ⟨i - 1, by omega⟩ ⟨j - 1, by omega⟩ (by show i - 1 < j - 1; omega)
  rwa [show i - 1 + 1 = i by omega, show j - 1 + 1 = j by omega] at this
theorem nm_ok {i : Nat} (h : 1 ≤ i ∧ i ≤ 9) : mayS (nm i) := by
  have := nm_may ⟨i - 1, by omega⟩
  rwa [show i - 1 + 1 = i by omega] at this
end
section
set_option maxRecDepth 4000
/-- a slice type and its elements' size -/
def SlT (t e sz : Nat) : Prop := (∃ i, E0.ty t = some i ∧ i.desc = .slice e) ∧ tySize E0 e = some sz
theorem sl69 : SlT 69 9 1 := ⟨⟨_, rfl, by kernel_rfl⟩, by kernel_rfl⟩
theorem sl55 : SlT 55 3 1 := ⟨⟨_, rfl, by kernel_rfl⟩, by kernel_rfl⟩
theorem sl22 : SlT 22 33 1 := ⟨⟨_, rfl, by kernel_rfl⟩, by kernel_rfl⟩
theorem sl28 : SlT 28 39 2 := ⟨⟨_, rfl, by kernel_rfl⟩, by kernel_rfl⟩
theorem idxS {t e sz : Nat} (h : SlT t e sz) {f off len i : Nat} {fl : Bool} (hi : i < len) : indexAddrA E0 t (.sl f sz off len fl) (i64 i) = some (.ptr f (off + i * sz)) := by
  obtain ⟨⟨q, h1, h2⟩, h3⟩ := h
  simp only [indexAddrA, h1, h2, h3]
  rw [if_pos ⟨trivial, by omega, by omega⟩]
  rfl
theorem lenS {t e sz : Nat} (h : SlT t e sz) {f z off len : Nat} {fl : Bool} : lenA E0 t (.sl f z off len fl) = some (i64 len) := by
  obtain ⟨⟨q, h1, h2⟩, _⟩ := h
  simp only [lenA, h1, h2]
theorem lenS0 {t e sz : Nat} (h : SlT t e sz) : lenA E0 t .nils = some (i64 0) := by
  obtain ⟨⟨q, h1, h2⟩, _⟩ := h
  simp only [lenA, h1, h2]
theorem Ls.len {t e sz : Nat} (h : SlT t e sz) {st : St} {l : AV} {n : Nat} {cells : List AV} (hl : Ls st e sz l n cells) : lenA E0 t l = some (i64 n) := by
  rcases hl with ⟨rfl, _, rfl⟩ | ⟨_, _, id, rfl, _⟩
  · exact lenS0 h
  · exact lenS h
theorem lenN (st : St) (R : List ByteArray) : lenA E0 69 (namesV st R) = some (i64 R.length) := by
  cases R with
  | nil => exact lenS0 sl69
  | cons a r => exact lenS sl69
theorem names_rest {st : St} (hw : st.wf) (R : List ByteArray) : Rest st (namesS st R) [] := by
  cases R with
  | nil => exact Rest.refl hw _
  | cons a r => exact Rest.push hw _ _
theorem ord_nm {K : List Nat} (hK : K.Pairwise (· < ·)) (h9 : ∀ k ∈ K, 1 ≤ k ∧ k ≤ 9) : Ord (K.map nm) := by
  unfold Ord
  rw [List.pairwise_map]
  exact hK.imp_of_mem fun {a b} ha hb hab => nm_lt hab (h9 a ha).1 (h9 b hb).2
theorem may_nm {K : List Nat} (h9 : ∀ k ∈ K, 1 ≤ k ∧ k ≤ 9) : ∀ n ∈ K.map nm, mayS n := fun n hn => by
  obtain ⟨k, hk, rfl⟩ := List.mem_map.1 hn
  exact nm_ok (h9 k hk)
section
variable {st : St} {w d m nx op ct : Nat} {s : PS}
theorem segments_ok (h : WA st w d m s nx op ct) {K : List Nat} (hperm : (s.L.map PF.name).Perm (K.map nm)) (hK : K.Pairwise (· < ·)) (h9 : ∀ k ∈ K, 1 ≤ k ∧ k ≤ 9) (hlen : K.length ≤ 9) :
    ∃ v st', obC 17 [.ptr w 0] st v st' ∧ Ls st' 3 1 v K.length (K.map fun k => i64 (k : Nat)) ∧ Rest st st' [] ∧ ∀ id, v = .sl id 1 0 K.length false → st.next ≤ id := by
  have k1 := names_ok h.disk hperm (ord_nm hK h9) (by simp; omega) (may_nm h9)
  have R1 := names_rest h.wf (K.map nm)
  have len1 := lenN st (K.map nm)
  rw [List.length_map] at len1
  generalize hs1 : namesS st (K.map nm) = s1 at *
  generalize hv1 : namesV st (K.map nm) = v1 at *
  have turn : ∀ (i : Nat) (p : AV × St), i < K.length → (Rest s1 p.2 [] ∧ Ls p.2 3 1 p.1 i ((K.take i).map fun k => i64 (k : Nat)) ∧ ∀ id, p.1 = .sl id 1 0 i false → s1.next ≤ id) → ∃ p' : AV × St, (Rest s1 p'.2 [] ∧ Ls p'.2 3 1 p'.1 (i + 1) ((K.take (i + 1)).map fun k => i64 (k : Nat)) ∧ ∀ id, p'.1 = .sl id 1 0 (i + 1) false → s1.next ≤ id) ∧
      ∀ T, f17L2 T p.1 v1 (i64 K.length) (i64 i) → AW Tryd.prog (f17P 4) (fun ex T' st' => ex = .normal ∧ f17L2 T' p'.1 v1 (i64 K.length) (i64 (i + 1 : Nat)) ∧ st' = p'.2) T p.2 := fun i ⟨l, σ⟩ hi ⟨hR, hL, hid⟩ => by
    simp only at hR hL hid
    have hki : K[i]? = some K[i] := List.getElem?_eq_getElem hi
    have h9i := h9 K[i] (List.getElem_mem hi)
    have hne : K ≠ [] := fun e => by rw [e] at hi; simp at hi
    obtain ⟨a, r, hal⟩ := List.exists_cons_of_ne_nil hne
    have hnv : v1 = .sl st.next 1 0 K.length false := by rw [← hv1, hal]; simp [namesV]
    have hnr : s1.get st.next = some (.row (K.map fun k => str (nm k)) 9) := by
      rw [← hs1, hal]
      simp only [List.map_cons, namesS]
      rw [St.get_push, if_pos rfl, List.map_map]; rfl
    have hld : loadA E0 σ 9 (.ptr st.next (0 + i * 1)) = some (str (nm K[i])) := load_row (hR.keep _ _ (by simp) hnr) (p9 (by rw [Nat.zero_add, Nat.mul_one, List.getElem?_map, hki]; rfl))
    obtain ⟨σ1, n1, N1⟩ := number_ok h9i hR.wf
    have hl1 : σ1.lock = [] := N1.lock.trans (hR.lock.trans (R1.lock.trans h.lock))
    have hL1 : Ls σ1 3 1 l i ((K.take i).map fun k => i64 (k : Nat)) := hL.keep fun id _ hg => N1.keep _ _ (by simp) hg
    obtain ⟨σ5, a1, a2, a3, a4, a5, a6, a7⟩ := app_one (c := [i64 (K[i] : Nat)]) el55 hL1 N1.wf hl1 (by omega) rfl (by decide)
    have htk : (K.take (i + 1)).map (fun k => i64 (k : Nat)) = (K.take i).map (fun k => i64 (k : Nat)) ++ [i64 (K[i] : Nat)] := by
      rw [List.take_add_one, hki, List.map_append]; rfl
    have hx1 : s1.next ≤ σ1.next := Nat.le_trans hR.next N1.next
    refine ⟨(.sl (σ1.next + 1) 1 0 (i + 1) false, σ5), ⟨⟨fun j o hj ho => ?_, by rw [a4]; omega, by rw [a3, R1.lock, h.lock], by rw [a5, N1.gl, hR.gl], a6⟩, by rw [htk]; exact a2, fun id e => by cases e; omega⟩, fun T hT => ?_⟩
    · refine a7 j o (N1.keep _ _ (by simp) (hR.keep _ _ (by simp) ho)) fun e => ?_
      have h1 := hid j e
      have hj2 : j < s1.next := R1.wf _ _ ho
      omega
    · exact f17_4_TT (lssT (by omega)) (by rw [hnv]; exact idxS sl69 hi) hld n1 (gtrT (by omega)) (build55 _ _) a1 (add64 (by omega)) hT
  obtain ⟨c, c0, inv, step⟩ := chain_seq (σ := AV × St) (fun i p => Rest s1 p.2 [] ∧ Ls p.2 3 1 p.1 i ((K.take i).map fun k => i64 (k : Nat)) ∧ ∀ id, p.1 = .sl id 1 0 i false → s1.next ≤ id)
    (fun i p p' => ∀ T, f17L2 T p.1 v1 (i64 K.length) (i64 i) → AW Tryd.prog (f17P 4) (fun ex T' st' => ex = .normal ∧ f17L2 T' p'.1 v1 (i64 K.length) (i64 (i + 1 : Nat)) ∧ st' = p'.2) T p.2) K.length (.nils, s1) ⟨Rest.refl R1.wf _, .inl ⟨rfl, by simp, rfl⟩, fun id e => by cases e⟩ turn
  obtain ⟨e1, e2, e3⟩ := inv K.length (Nat.le_refl _)
  rw [List.take_of_length_le (Nat.le_refl _)] at e2
  refine ⟨(c K.length).1, (c K.length).2, ?_, e2, R1.trans e1, fun id e => by have := e3 id e; have := R1.next; omega⟩
  refine ACalls.body (E := E0) hE Tryd.func17 f17body ?_
  refine AW.andThen (f17_0 ⟨rfl, rfl⟩) fun T1 q1 => ?_
  refine AW.andThen (f17_1 q1) fun T2 q2 => ?_
  refine AW.andThen (f17_2 q2) fun T3 q3 => ?_
  refine AW.andThen (AW.andThen (f17_3 h.l0 k1 len1 q3) fun T4 q4 => AW.turns (In := fun i T => f17L2 T (c i).1 v1 (i64 K.length) (i64 i)) (L := fun T => f17L3 T (c K.length).1) (c := fun i => (c i).2) (n := K.length) (sf := (c K.length).2) (by rw [c0]) (by rw [c0]; exact q4) (fun i hi T hT => step i hi T hT) (fun T hT => f17_4_F (lssF (by omega)) hT)) fun T5 q5 => ?_
  refine AW.atRet (f17_5 q5) fun T6 q6 => ?_
  refine ⟨[T6.get 2], rfl, ?_⟩
  simp only [oneOrTup]
  exact ⟨q6.2, trivial⟩
end
end
section
set_option maxRecDepth 4000
theorem el28' : ElT 28 39 2 := ⟨elT_of (by kernel_rfl), by kernel_rfl, fun st x => by
  obtain ⟨⟨q, h1, h2⟩, _⟩ := sl28
  simp only [srcA, h1, h2]⟩
theorem build39 (k : Int) (n : Nat) (f : Bool) (c : List AV) : buildA E0 39 [(0, i64 k), (1, .imm 1 n f c)] = some (.agg [i64 k, .imm 1 n f c]) := by kernel_rfl
theorem build28 (st : St) (k : Int) (n : Nat) (f : Bool) (c : List AV) : buildSliceA E0 st 28 1 [(0, .agg [i64 k, .imm 1 n f c])] = some (.sl st.next 2 0 1 true, st.push (.row [i64 k, .imm 1 n f c] 39)) := by kernel_rfl
/-- all that stood stands, but for one list -/
structure KX (l : AV) (sz n : Nat) (st st' : St) : Prop where
  keep : ∀ i o, st.get i = some o → l ≠ .sl i sz 0 n false → st'.get i = some o
  next : st.next ≤ st'.next
  lock : st'.lock = st.lock
  gl : st'.gl = st.gl
  wf : st'.wf
def recC (k : Nat) (r : List Int) : List AV := [i64 k, recA r]
theorem recs_loop {σ0 : St} {l : AV} {n : Nat} {cells : List AV} {R : List (List Int)} {v46 v25 : AV} {k d w : Nat} {n26 n27 : Int} (hL : Ls σ0 39 2 l n cells) (hR : LR σ0 v46 R) (hw : σ0.wf) (hl : σ0.lock = []) (hb : n + R.length ≤ 1000000) :
    ∃ l' σ', Ls σ' 39 2 l' (n + R.length) (cells ++ R.flatMap (recC k)) ∧ KX l 2 n σ0 σ' ∧ (l' = l ∨ ∀ id, l' = .sl id 2 0 (n + R.length) false → σ0.next ≤ id) ∧
      ∀ T, f6L11 T (.ptr d 0) (.ptr w 0) l (i64 k) v25 (i64 n26) (i64 n27) v46 (i64 R.length) (i64 0) → AW Tryd.prog (.block 3 (.loop (f6P 12))) (fun ex T' s => ex = .normal ∧ f6L7 T' (.ptr d 0) (.ptr w 0) l' (i64 k) v25 (i64 n26) (i64 n27) ∧ s = σ') T σ0 := by
  let Inv : Nat → AV × St → Prop := fun i p => Ls p.2 39 2 p.1 (n + i) (cells ++ (R.take i).flatMap (recC k)) ∧ KX l 2 n σ0 p.2 ∧ ((i = 0 ∧ p.1 = l) ∨ ∃ id, p.1 = .sl id 2 0 (n + i) false ∧ σ0.next ≤ id)
  let Rel : Nat → AV × St → AV × St → Prop := fun i p p' => ∀ T, f6L11 T (.ptr d 0) (.ptr w 0) p.1 (i64 k) v25 (i64 n26) (i64 n27) v46 (i64 R.length) (i64 i) → AW Tryd.prog (f6P 12) (fun ex T' s => ex = .normal ∧ f6L11 T' (.ptr d 0) (.ptr w 0) p'.1 (i64 k) v25 (i64 n26) (i64 n27) v46 (i64 R.length) (i64 (i + 1 : Nat)) ∧ s = p'.2) T p.2
  have turn : ∀ i p, i < R.length → Inv i p → ∃ p', Inv (i + 1) p' ∧ Rel i p p' := fun i ⟨q, σ⟩ hi ⟨h1, h2, h3⟩ => by
    simp only at h1 h2 h3
    have hri : R[i]? = some R[i] := List.getElem?_eq_getElem hi
    rcases hR with ⟨e, _⟩ | ⟨hne, id, rfl, hg⟩
    · rw [e] at hi; simp at hi
    have hnl : l ≠ .sl id 2 0 n false := fun e => by
      rcases hL with ⟨_, _, h⟩ | ⟨_, _, j, h, hj⟩
      · rw [h] at e; cases e
      · rw [h] at e; cases e
        rw [hg] at hj; simp at hj
    have hgσ := h2.keep _ _ hg hnl
    have hld : loadA E0 σ 33 (.ptr id (0 + i * 1)) = some (recA R[i]) := load_row hgσ (part24 (by rw [Nat.zero_add, Nat.mul_one, List.getElem?_map, hri]; rfl))
    obtain ⟨σ5, a1, a2, a3, a4, a5, a6, a7⟩ := app_one (c := recC k R[i]) el28' h1 h2.wf (h2.lock.trans hl) (by omega) rfl (by decide)
    have hfm : (R.take (i + 1)).flatMap (recC k) = (R.take i).flatMap (recC k) ++ recC k R[i] := by
      rw [List.take_add_one, hri, List.flatMap_append]; simp
    refine ⟨(.sl (σ.next + 1) 2 0 (n + i + 1) false, σ5), ⟨by rw [hfm, ← List.append_assoc]; exact a2, ⟨fun j o ho hj => a7 j o (h2.keep j o ho hj) fun e => ?_, by show σ0.next ≤ σ5.next; have := h2.next; omega, by rw [a3, hl], by rw [a5, h2.gl], a6⟩, .inr ⟨_, rfl, by have := h2.next; omega⟩⟩, fun T hT => ?_⟩
    · rcases h3 with ⟨rfl, e2⟩ | ⟨id', e2, hid⟩
      · rw [e2] at e; exact hj e
      · rw [e2] at e; cases e
        have := hw _ _ ho; omega
    · exact f6_12_T (lssT (by omega)) (idxS sl22 hi) hld (build39 _ _ _ _) (build28 _ _ _ _ _) a1 (add64 (by omega)) hT
  obtain ⟨c, c0, inv, step⟩ := chain_seq Inv Rel R.length (l, σ0) ⟨by simpa using hL, ⟨fun i o ho _ => ho, Nat.le_refl _, rfl, rfl, hw⟩, .inl ⟨rfl, rfl⟩⟩ turn
  obtain ⟨e1, e2, e3⟩ := inv R.length (Nat.le_refl _)
  rw [List.take_of_length_le (Nat.le_refl _)] at e1
  refine ⟨(c R.length).1, (c R.length).2, e1, e2, ?_, fun T hT => AW.turns (In := fun i T => f6L11 T (.ptr d 0) (.ptr w 0) (c i).1 (i64 k) v25 (i64 n26) (i64 n27) v46 (i64 R.length) (i64 i)) (L := fun T => f6L7 T (.ptr d 0) (.ptr w 0) (c R.length).1 (i64 k) v25 (i64 n26) (i64 n27)) (c := fun i => (c i).2) (n := R.length) (sf := (c R.length).2) (by rw [c0]) (by rw [c0]; exact hT) (fun i hi T hT => step i hi T hT) (fun T hT => f6_12_F (lssF (by omega)) hT)⟩
  rcases e3 with ⟨_, h⟩ | ⟨id, h, hid⟩
  · exact .inl h
  · exact .inr fun j e => by rw [h] at e; cases e; exact hid
end
section
set_option maxRecDepth 4000
theorem AW.blockN {P : Program} {c : Code} {id : Nat} {L : Tm → Prop} {T : Tm} {st s : St} (h : AW P c (fun ex T' st' => ex = .normal ∧ L T' ∧ st' = s) T st) : AW P (.block id c) (fun ex T' st' => ex = .normal ∧ L T' ∧ st' = s) T st :=
  .block (h.mono fun ex T' st' ⟨h1, h2, h3⟩ => by subst h1; exact ⟨rfl, h2, h3⟩)
theorem frz_i64s (id : Nat) (vs : List AV) (K : List Nat) : frzL id vs (K.map fun k => i64 (k : Nat)) = K.map fun k => i64 (k : Nat) := by
  rw [frzL_eq, List.map_map]
  exact List.map_congr_left fun _ _ => rfl
def recs (B : Nat → List Int) (k : Nat) : List (List Int) := splitN (B k).length (B k)
def cellsK (B : Nat → List Int) (K : List Nat) : List AV := K.flatMap fun k => (recs B k).flatMap (recC k)
def numK (B : Nat → List Int) (K : List Nat) : Nat := (K.map fun k => (recs B k).length).sum
def nxtK (K : List Nat) (i : Nat) : Nat := if i = 0 then 1 else K.getD (i - 1) 0 + 1
theorem frzL_app (id : Nat) (vs a b : List AV) : frzL id vs (a ++ b) = frzL id vs a ++ frzL id vs b := by rw [frzL_eq, frzL_eq, frzL_eq, List.map_append]
theorem frz_recC (id : Nat) (vs : List AV) (k : Nat) : ∀ R : List (List Int), frzL id vs (R.flatMap (recC k)) = R.flatMap (recC k)
  | [] => rfl
  | r :: R => by
    rw [List.flatMap_cons, frzL_app, frz_recC id vs k R]
    congr 1
    simp only [recC, frzL, frz, recA, frz_u8]
theorem frz_cellsK (id : Nat) (vs : List AV) (B : Nat → List Int) : ∀ K : List Nat, frzL id vs (cellsK B K) = cellsK B K
  | [] => rfl
  | k :: K => by
    have := frz_cellsK id vs B K
    unfold cellsK at this ⊢
    rw [List.flatMap_cons, frzL_app, this, frz_recC]
theorem Ls.restF {st st' : St} {e sz n : Nat} {l : AV} {cells : List AV} (h : Ls st e sz l n cells) (hr : RestF st st' []) (hf : ∀ id vs, frzL id vs cells = cells) : Ls st' e sz l n cells :=
  h.keep fun id _ hg => hr.keep id _ (by simp) hg fun i vs _ => by simp only [frzO, hf]
theorem KX.restF {l : AV} {sz n : Nat} {s0 σ σ' : St} {S : List Nat} (h : RestF s0 σ S) (k : KX l sz n σ σ') (hid : ∀ id, l = .sl id sz 0 n false → s0.next ≤ id) (hw0 : s0.wf) : RestF s0 σ' S :=
  ⟨fun i o hi ho hp => k.keep i o (h.keep i o hi ho hp) fun e => by have := hid i e; have := hw0 _ _ ho; omega, Nat.le_trans h.next k.next, k.lock.trans h.lock, k.gl.trans h.gl, k.wf⟩
end
end Go.Proofs.YtalchcdenhfmiaaDoor.E
