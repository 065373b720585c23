/- Write and Read of both, over the abstract machine: contracts. No condition beyond those that the lemmas name. -/
import Derived.Test.YtniaiciabfdbnaaCb
namespace Go.Proofs.Ytniaiciabfdbnaa.E
open Go Go.Proofs
section
set_option maxRecDepth 100000
theorem f58_T_e (st s1 : St) (d : Nat) : evCallS Try.prog E0 noOv (fun _ => [6029]) 100000 58 [(.ptr d 0)] st [.eff TT (fun _ => s1)] = some ((i64 8), s1, [], [obC 29 [(.ptr d 0)] st TT s1]) := by kernel_rfl
theorem f58_T {st s1 : St} {d : Nat} (h1 : obC 29 [(.ptr d 0)] st TT s1) : obC 58 [(.ptr d 0)] st (i64 8) s1 := ACalls.run hE noOv_ok (f58_T_e st s1 d) (Ob.ok_cons.2 ⟨h1, Ob.ok_nil⟩)
theorem f58_F_e (st s1 : St) (d : Nat) : evCallS Try.prog E0 noOv (fun _ => [6029]) 100000 58 [(.ptr d 0)] st [.eff FF (fun _ => s1)] = some ((i64 0), s1, [], [obC 29 [(.ptr d 0)] st FF s1]) := by kernel_rfl
theorem f58_F {st s1 : St} {d : Nat} (h1 : obC 29 [(.ptr d 0)] st FF s1) : obC 58 [(.ptr d 0)] st (i64 0) s1 := ACalls.run hE noOv_ok (f58_F_e st s1 d) (Ob.ok_cons.2 ⟨h1, Ob.ok_nil⟩)
theorem f17_FF_e (st s1 s2 : St) (q n10b n15b : Int) (p10a p15a : Nat) : evCallS Try.prog E0 noOv (fun _ => [6023, 6036, 7019, 7022]) 100000 17 [(i64 q)] st [.eff (.tup [(.ptr p10a 0), (i64 n10b)]) (fun _ => s1), .eff (.tup [(.ptr p15a 0), (i64 n15b)]) (fun _ => s2), .av FF, .av FF] = some ((.tup [(.ptr p10a 0), (.ptr p15a 0)]), s2, [], [obC 23 [(i64 q)] st (.tup [(.ptr p10a 0), (i64 n10b)]) s1, obC 36 [(i64 q)] s1 (.tup [(.ptr p15a 0), (i64 n15b)]) s2, binA E0 .neq 29 (i64 n10b) (i64 0) = some FF, binA E0 .neq 3 (i64 n15b) (i64 0) = some FF]) := by kernel_rfl
theorem f17_FF {st s1 s2 : St} {q n10b n15b : Int} {p10a p15a : Nat} (h1 : obC 23 [(i64 q)] st (.tup [(.ptr p10a 0), (i64 n10b)]) s1) (h2 : obC 36 [(i64 q)] s1 (.tup [(.ptr p15a 0), (i64 n15b)]) s2) (h3 : binA E0 .neq 29 (i64 n10b) (i64 0) = some FF) (h4 : binA E0 .neq 3 (i64 n15b) (i64 0) = some FF) : obC 17 [(i64 q)] st (.tup [(.ptr p10a 0), (.ptr p15a 0)]) s2 := ACalls.run hE noOv_ok (f17_FF_e st s1 s2 q n10b n15b p10a p15a) (Ob.ok_cons.2 ⟨h1, (Ob.ok_cons.2 ⟨h2, (Ob.ok_cons.2 ⟨h3, (Ob.ok_cons.2 ⟨h4, Ob.ok_nil⟩)⟩)⟩)⟩)
theorem f59_e (st s1 : St) (b p2 : Nat) (n3 : Int) : evCallS Try.prog E0 noOv (fun _ => [2002, 6021]) 100000 59 [(.ptr b 0)] st [.eff (.ptr p2 0) id, .eff (i64 n3) (fun _ => s1)] = some ((i64 n3), s1, [], [loadA E0 st 41 (.ptr b 0) = some (.ptr p2 0) ∧ st = st, obC 21 [(.ptr p2 0), (str ⟨#[104, 101, 97, 100, 46, 110, 101, 119]⟩)] st (i64 n3) s1]) := by kernel_rfl
theorem f59 {st s1 : St} {b p2 : Nat} {n3 : Int} (h1 : loadA E0 st 41 (.ptr b 0) = some (.ptr p2 0)) (h2 : obC 21 [(.ptr p2 0), (str ⟨#[104, 101, 97, 100, 46, 110, 101, 119]⟩)] st (i64 n3) s1) : obC 59 [(.ptr b 0)] st (i64 n3) s1 := ACalls.run hE noOv_ok (f59_e st s1 b p2 n3) (Ob.ok_cons.2 ⟨⟨h1, rfl⟩, (Ob.ok_cons.2 ⟨h2, Ob.ok_nil⟩)⟩)
theorem f61_e (st s1 : St) (b p2 : Nat) (n3 : Int) : evCallS Try.prog E0 noOv (fun _ => [2002, 6033]) 100000 61 [(.ptr b 0)] st [.eff (.ptr p2 0) id, .eff (i64 n3) (fun _ => s1)] = some ((i64 n3), s1, [], [loadA E0 st 41 (.ptr b 0) = some (.ptr p2 0) ∧ st = st, obC 33 [(.ptr p2 0), (str ⟨#[104, 101, 97, 100, 46, 110, 101, 119]⟩)] st (i64 n3) s1]) := by kernel_rfl
theorem f61 {st s1 : St} {b p2 : Nat} {n3 : Int} (h1 : loadA E0 st 41 (.ptr b 0) = some (.ptr p2 0)) (h2 : obC 33 [(.ptr p2 0), (str ⟨#[104, 101, 97, 100, 46, 110, 101, 119]⟩)] st (i64 n3) s1) : obC 61 [(.ptr b 0)] st (i64 n3) s1 := ACalls.run hE noOv_ok (f61_e st s1 b p2 n3) (Ob.ok_cons.2 ⟨⟨h1, rfl⟩, (Ob.ok_cons.2 ⟨h2, Ob.ok_nil⟩)⟩)
theorem f62_e (st s1 : St) (b p2 : Nat) (n3 : Int) : evCallS Try.prog E0 noOv (fun _ => [2002, 6027]) 100000 62 [(.ptr b 0)] st [.eff (.ptr p2 0) id, .eff (i64 n3) (fun _ => s1)] = some ((i64 n3), s1, [], [loadA E0 st 41 (.ptr b 0) = some (.ptr p2 0) ∧ st = st, obC 27 [(.ptr p2 0), (str ⟨#[104, 101, 97, 100, 46, 110, 101, 119]⟩), (str ⟨#[104, 101, 97, 100]⟩)] st (i64 n3) s1]) := by kernel_rfl
theorem f62 {st s1 : St} {b p2 : Nat} {n3 : Int} (h1 : loadA E0 st 41 (.ptr b 0) = some (.ptr p2 0)) (h2 : obC 27 [(.ptr p2 0), (str ⟨#[104, 101, 97, 100, 46, 110, 101, 119]⟩), (str ⟨#[104, 101, 97, 100]⟩)] st (i64 n3) s1) : obC 62 [(.ptr b 0)] st (i64 n3) s1 := ACalls.run hE noOv_ok (f62_e st s1 b p2 n3) (Ob.ok_cons.2 ⟨⟨h1, rfl⟩, (Ob.ok_cons.2 ⟨h2, Ob.ok_nil⟩)⟩)
theorem f60_e (st s1 : St) (b c p3 : Nat) (v4 : AV) (n5 : Int) : evCallS Try.prog E0 noOv (fun _ => [2003, 2004, 6019]) 100000 60 [(.ptr b 0), (.ptr c 0)] st [.eff (.ptr p3 0) id, .eff v4 id, .eff (i64 n5) (fun _ => s1)] = some ((i64 n5), s1, [], [loadA E0 st 41 (.ptr b 0) = some (.ptr p3 0) ∧ st = st, loadA E0 st 28 (.ptr c 0) = some v4 ∧ st = st, obC 19 [(.ptr p3 0), (str ⟨#[104, 101, 97, 100, 46, 110, 101, 119]⟩), v4] st (i64 n5) s1]) := by kernel_rfl
theorem f60 {st s1 : St} {b c p3 : Nat} {v4 : AV} {n5 : Int} (h1 : loadA E0 st 41 (.ptr b 0) = some (.ptr p3 0)) (h2 : loadA E0 st 28 (.ptr c 0) = some v4) (h3 : obC 19 [(.ptr p3 0), (str ⟨#[104, 101, 97, 100, 46, 110, 101, 119]⟩), v4] st (i64 n5) s1) : obC 60 [(.ptr b 0), (.ptr c 0)] st (i64 n5) s1 := ACalls.run hE noOv_ok (f60_e st s1 b c p3 v4 n5) (Ob.ok_cons.2 ⟨⟨h1, rfl⟩, (Ob.ok_cons.2 ⟨⟨h2, rfl⟩, (Ob.ok_cons.2 ⟨h3, Ob.ok_nil⟩)⟩)⟩)
theorem f48_T_e (st s1 : St) (e a3 : Nat) (hv : AV) : evCallS Try.prog E0 noOv (fun _ => [2003, 2010, 2012, 6012, 6037, 6038, 6039, 6040, 7017, 7022, 7028, 7033]) 100000 48 [(.ptr e 0), hv] st [.eff (.ptr a3 0) (fun _ => s1), .eff TT id] = some ((i64 8), s1, [], [boxA st 27 hv = some ((.ptr a3 0), s1), loadA E0 s1 4 (.ptr e 3) = some TT ∧ s1 = s1]) := by kernel_rfl
theorem f48_T {st s1 : St} {e a3 : Nat} {hv : AV} (h1 : boxA st 27 hv = some ((.ptr a3 0), s1)) (h2 : loadA E0 s1 4 (.ptr e 3) = some TT) : obC 48 [(.ptr e 0), hv] st (i64 8) s1 := ACalls.run hE noOv_ok (f48_T_e st s1 e a3 hv) (Ob.ok_cons.2 ⟨h1, (Ob.ok_cons.2 ⟨⟨h2, rfl⟩, Ob.ok_nil⟩)⟩)
theorem f48_FT_e (st s1 s2 : St) (e a3 : Nat) (hv v12 v13a : AV) (n13b : Int) : evCallS Try.prog E0 noOv (fun _ => [2003, 2010, 2012, 6012, 6037, 6038, 6039, 6040, 7017, 7022, 7028, 7033]) 100000 48 [(.ptr e 0), hv] st [.eff (.ptr a3 0) (fun _ => s1), .eff FF id, .eff v12 id, .eff (.tup [v13a, (i64 n13b)]) (fun _ => s2), .av TT] = some ((i64 n13b), s2, [], [boxA st 27 hv = some ((.ptr a3 0), s1), loadA E0 s1 4 (.ptr e 3) = some FF ∧ s1 = s1, loadA E0 s1 27 (.ptr a3 0) = some v12 ∧ s1 = s1, obC 12 [v12] s1 (.tup [v13a, (i64 n13b)]) s2, binA E0 .neq 3 (i64 n13b) (i64 0) = some TT]) := by kernel_rfl
theorem f48_FT {st s1 s2 : St} {e a3 : Nat} {hv v12 v13a : AV} {n13b : Int} (h1 : boxA st 27 hv = some ((.ptr a3 0), s1)) (h2 : loadA E0 s1 4 (.ptr e 3) = some FF) (h3 : loadA E0 s1 27 (.ptr a3 0) = some v12) (h4 : obC 12 [v12] s1 (.tup [v13a, (i64 n13b)]) s2) (h5 : binA E0 .neq 3 (i64 n13b) (i64 0) = some TT) : obC 48 [(.ptr e 0), hv] st (i64 n13b) s2 := ACalls.run hE noOv_ok (f48_FT_e st s1 s2 e a3 hv v12 v13a n13b) (Ob.ok_cons.2 ⟨h1, (Ob.ok_cons.2 ⟨⟨h2, rfl⟩, (Ob.ok_cons.2 ⟨⟨h3, rfl⟩, (Ob.ok_cons.2 ⟨h4, (Ob.ok_cons.2 ⟨h5, Ob.ok_nil⟩)⟩)⟩)⟩)⟩)
theorem f48_FFT_e (st s1 s2 s3 : St) (e a3 : Nat) (hv v12 v13a : AV) (n13b n20 : Int) : evCallS Try.prog E0 noOv (fun _ => [2003, 2010, 2012, 6012, 6037, 6038, 6039, 6040, 7017, 7022, 7028, 7033]) 100000 48 [(.ptr e 0), hv] st [.eff (.ptr a3 0) (fun _ => s1), .eff FF id, .eff v12 id, .eff (.tup [v13a, (i64 n13b)]) (fun _ => s2), .av FF, .eff (i64 n20) (fun _ => s3), .av TT] = some ((i64 n20), s3, [], [boxA st 27 hv = some ((.ptr a3 0), s1), loadA E0 s1 4 (.ptr e 3) = some FF ∧ s1 = s1, loadA E0 s1 27 (.ptr a3 0) = some v12 ∧ s1 = s1, obC 12 [v12] s1 (.tup [v13a, (i64 n13b)]) s2, binA E0 .neq 3 (i64 n13b) (i64 0) = some FF, obC 37 [(.ptr e 0), (str ⟨#[104, 101, 97, 100, 46, 110, 101, 119]⟩)] s2 (i64 n20) s3, binA E0 .neq 3 (i64 n20) (i64 0) = some TT]) := by kernel_rfl
theorem f48_FFT {st s1 s2 s3 : St} {e a3 : Nat} {hv v12 v13a : AV} {n13b n20 : Int} (h1 : boxA st 27 hv = some ((.ptr a3 0), s1)) (h2 : loadA E0 s1 4 (.ptr e 3) = some FF) (h3 : loadA E0 s1 27 (.ptr a3 0) = some v12) (h4 : obC 12 [v12] s1 (.tup [v13a, (i64 n13b)]) s2) (h5 : binA E0 .neq 3 (i64 n13b) (i64 0) = some FF) (h6 : obC 37 [(.ptr e 0), (str ⟨#[104, 101, 97, 100, 46, 110, 101, 119]⟩)] s2 (i64 n20) s3) (h7 : binA E0 .neq 3 (i64 n20) (i64 0) = some TT) : obC 48 [(.ptr e 0), hv] st (i64 n20) s3 := ACalls.run hE noOv_ok (f48_FFT_e st s1 s2 s3 e a3 hv v12 v13a n13b n20) (Ob.ok_cons.2 ⟨h1, (Ob.ok_cons.2 ⟨⟨h2, rfl⟩, (Ob.ok_cons.2 ⟨⟨h3, rfl⟩, (Ob.ok_cons.2 ⟨h4, (Ob.ok_cons.2 ⟨h5, (Ob.ok_cons.2 ⟨h6, (Ob.ok_cons.2 ⟨h7, Ob.ok_nil⟩)⟩)⟩)⟩)⟩)⟩)⟩)
theorem f48_FFFT_e (st s1 s2 s3 s4 : St) (e a3 : Nat) (hv v12 v13a : AV) (n13b n20 n26 : Int) : evCallS Try.prog E0 noOv (fun _ => [2003, 2010, 2012, 6012, 6037, 6038, 6039, 6040, 7017, 7022, 7028, 7033]) 100000 48 [(.ptr e 0), hv] st [.eff (.ptr a3 0) (fun _ => s1), .eff FF id, .eff v12 id, .eff (.tup [v13a, (i64 n13b)]) (fun _ => s2), .av FF, .eff (i64 n20) (fun _ => s3), .av FF, .eff (i64 n26) (fun _ => s4), .av TT] = some ((i64 n26), s4, [], [boxA st 27 hv = some ((.ptr a3 0), s1), loadA E0 s1 4 (.ptr e 3) = some FF ∧ s1 = s1, loadA E0 s1 27 (.ptr a3 0) = some v12 ∧ s1 = s1, obC 12 [v12] s1 (.tup [v13a, (i64 n13b)]) s2, binA E0 .neq 3 (i64 n13b) (i64 0) = some FF, obC 37 [(.ptr e 0), (str ⟨#[104, 101, 97, 100, 46, 110, 101, 119]⟩)] s2 (i64 n20) s3, binA E0 .neq 3 (i64 n20) (i64 0) = some FF, obC 38 [(.ptr e 0), (str ⟨#[104, 101, 97, 100, 46, 110, 101, 119]⟩), v13a] s3 (i64 n26) s4, binA E0 .neq 3 (i64 n26) (i64 0) = some TT]) := by kernel_rfl
theorem f48_FFFT {st s1 s2 s3 s4 : St} {e a3 : Nat} {hv v12 v13a : AV} {n13b n20 n26 : Int} (h1 : boxA st 27 hv = some ((.ptr a3 0), s1)) (h2 : loadA E0 s1 4 (.ptr e 3) = some FF) (h3 : loadA E0 s1 27 (.ptr a3 0) = some v12) (h4 : obC 12 [v12] s1 (.tup [v13a, (i64 n13b)]) s2) (h5 : binA E0 .neq 3 (i64 n13b) (i64 0) = some FF) (h6 : obC 37 [(.ptr e 0), (str ⟨#[104, 101, 97, 100, 46, 110, 101, 119]⟩)] s2 (i64 n20) s3) (h7 : binA E0 .neq 3 (i64 n20) (i64 0) = some FF) (h8 : obC 38 [(.ptr e 0), (str ⟨#[104, 101, 97, 100, 46, 110, 101, 119]⟩), v13a] s3 (i64 n26) s4) (h9 : binA E0 .neq 3 (i64 n26) (i64 0) = some TT) : obC 48 [(.ptr e 0), hv] st (i64 n26) s4 := ACalls.run hE noOv_ok (f48_FFFT_e st s1 s2 s3 s4 e a3 hv v12 v13a n13b n20 n26) (Ob.ok_cons.2 ⟨h1, (Ob.ok_cons.2 ⟨⟨h2, rfl⟩, (Ob.ok_cons.2 ⟨⟨h3, rfl⟩, (Ob.ok_cons.2 ⟨h4, (Ob.ok_cons.2 ⟨h5, (Ob.ok_cons.2 ⟨h6, (Ob.ok_cons.2 ⟨h7, (Ob.ok_cons.2 ⟨h8, (Ob.ok_cons.2 ⟨h9, Ob.ok_nil⟩)⟩)⟩)⟩)⟩)⟩)⟩)⟩)⟩)
theorem f48_FFFFT_e (st s1 s2 s3 s4 s5 : St) (e a3 : Nat) (hv v12 v13a : AV) (n13b n20 n26 n31 : Int) : evCallS Try.prog E0 noOv (fun _ => [2003, 2010, 2012, 6012, 6037, 6038, 6039, 6040, 7017, 7022, 7028, 7033]) 100000 48 [(.ptr e 0), hv] st [.eff (.ptr a3 0) (fun _ => s1), .eff FF id, .eff v12 id, .eff (.tup [v13a, (i64 n13b)]) (fun _ => s2), .av FF, .eff (i64 n20) (fun _ => s3), .av FF, .eff (i64 n26) (fun _ => s4), .av FF, .eff (i64 n31) (fun _ => s5), .av TT] = some ((i64 n31), s5, [], [boxA st 27 hv = some ((.ptr a3 0), s1), loadA E0 s1 4 (.ptr e 3) = some FF ∧ s1 = s1, loadA E0 s1 27 (.ptr a3 0) = some v12 ∧ s1 = s1, obC 12 [v12] s1 (.tup [v13a, (i64 n13b)]) s2, binA E0 .neq 3 (i64 n13b) (i64 0) = some FF, obC 37 [(.ptr e 0), (str ⟨#[104, 101, 97, 100, 46, 110, 101, 119]⟩)] s2 (i64 n20) s3, binA E0 .neq 3 (i64 n20) (i64 0) = some FF, obC 38 [(.ptr e 0), (str ⟨#[104, 101, 97, 100, 46, 110, 101, 119]⟩), v13a] s3 (i64 n26) s4, binA E0 .neq 3 (i64 n26) (i64 0) = some FF, obC 39 [(.ptr e 0), (str ⟨#[104, 101, 97, 100, 46, 110, 101, 119]⟩)] s4 (i64 n31) s5, binA E0 .neq 3 (i64 n31) (i64 0) = some TT]) := by kernel_rfl
theorem f48_FFFFT {st s1 s2 s3 s4 s5 : St} {e a3 : Nat} {hv v12 v13a : AV} {n13b n20 n26 n31 : Int} (h1 : boxA st 27 hv = some ((.ptr a3 0), s1)) (h2 : loadA E0 s1 4 (.ptr e 3) = some FF) (h3 : loadA E0 s1 27 (.ptr a3 0) = some v12) (h4 : obC 12 [v12] s1 (.tup [v13a, (i64 n13b)]) s2) (h5 : binA E0 .neq 3 (i64 n13b) (i64 0) = some FF) (h6 : obC 37 [(.ptr e 0), (str ⟨#[104, 101, 97, 100, 46, 110, 101, 119]⟩)] s2 (i64 n20) s3) (h7 : binA E0 .neq 3 (i64 n20) (i64 0) = some FF) (h8 : obC 38 [(.ptr e 0), (str ⟨#[104, 101, 97, 100, 46, 110, 101, 119]⟩), v13a] s3 (i64 n26) s4) (h9 : binA E0 .neq 3 (i64 n26) (i64 0) = some FF) (h10 : obC 39 [(.ptr e 0), (str ⟨#[104, 101, 97, 100, 46, 110, 101, 119]⟩)] s4 (i64 n31) s5) (h11 : binA E0 .neq 3 (i64 n31) (i64 0) = some TT) : obC 48 [(.ptr e 0), hv] st (i64 n31) s5 := ACalls.run hE noOv_ok (f48_FFFFT_e st s1 s2 s3 s4 s5 e a3 hv v12 v13a n13b n20 n26 n31) (Ob.ok_cons.2 ⟨h1, (Ob.ok_cons.2 ⟨⟨h2, rfl⟩, (Ob.ok_cons.2 ⟨⟨h3, rfl⟩, (Ob.ok_cons.2 ⟨h4, (Ob.ok_cons.2 ⟨h5, (Ob.ok_cons.2 ⟨h6, (Ob.ok_cons.2 ⟨h7, (Ob.ok_cons.2 ⟨h8, (Ob.ok_cons.2 ⟨h9, (Ob.ok_cons.2 ⟨h10, (Ob.ok_cons.2 ⟨h11, Ob.ok_nil⟩)⟩)⟩)⟩)⟩)⟩)⟩)⟩)⟩)⟩)⟩)
theorem f48_FFFFF_e (st s1 s2 s3 s4 s5 s6 : St) (e a3 : Nat) (hv v12 v13a : AV) (n13b n20 n26 n31 n36 : Int) : evCallS Try.prog E0 noOv (fun _ => [2003, 2010, 2012, 6012, 6037, 6038, 6039, 6040, 7017, 7022, 7028, 7033]) 100000 48 [(.ptr e 0), hv] st [.eff (.ptr a3 0) (fun _ => s1), .eff FF id, .eff v12 id, .eff (.tup [v13a, (i64 n13b)]) (fun _ => s2), .av FF, .eff (i64 n20) (fun _ => s3), .av FF, .eff (i64 n26) (fun _ => s4), .av FF, .eff (i64 n31) (fun _ => s5), .av FF, .eff (i64 n36) (fun _ => s6)] = some ((i64 n36), s6, [], [boxA st 27 hv = some ((.ptr a3 0), s1), loadA E0 s1 4 (.ptr e 3) = some FF ∧ s1 = s1, loadA E0 s1 27 (.ptr a3 0) = some v12 ∧ s1 = s1, obC 12 [v12] s1 (.tup [v13a, (i64 n13b)]) s2, binA E0 .neq 3 (i64 n13b) (i64 0) = some FF, obC 37 [(.ptr e 0), (str ⟨#[104, 101, 97, 100, 46, 110, 101, 119]⟩)] s2 (i64 n20) s3, binA E0 .neq 3 (i64 n20) (i64 0) = some FF, obC 38 [(.ptr e 0), (str ⟨#[104, 101, 97, 100, 46, 110, 101, 119]⟩), v13a] s3 (i64 n26) s4, binA E0 .neq 3 (i64 n26) (i64 0) = some FF, obC 39 [(.ptr e 0), (str ⟨#[104, 101, 97, 100, 46, 110, 101, 119]⟩)] s4 (i64 n31) s5, binA E0 .neq 3 (i64 n31) (i64 0) = some FF, obC 40 [(.ptr e 0), (str ⟨#[104, 101, 97, 100, 46, 110, 101, 119]⟩), (str ⟨#[104, 101, 97, 100]⟩)] s5 (i64 n36) s6]) := by kernel_rfl
theorem f48_FFFFF {st s1 s2 s3 s4 s5 s6 : St} {e a3 : Nat} {hv v12 v13a : AV} {n13b n20 n26 n31 n36 : Int} (h1 : boxA st 27 hv = some ((.ptr a3 0), s1)) (h2 : loadA E0 s1 4 (.ptr e 3) = some FF) (h3 : loadA E0 s1 27 (.ptr a3 0) = some v12) (h4 : obC 12 [v12] s1 (.tup [v13a, (i64 n13b)]) s2) (h5 : binA E0 .neq 3 (i64 n13b) (i64 0) = some FF) (h6 : obC 37 [(.ptr e 0), (str ⟨#[104, 101, 97, 100, 46, 110, 101, 119]⟩)] s2 (i64 n20) s3) (h7 : binA E0 .neq 3 (i64 n20) (i64 0) = some FF) (h8 : obC 38 [(.ptr e 0), (str ⟨#[104, 101, 97, 100, 46, 110, 101, 119]⟩), v13a] s3 (i64 n26) s4) (h9 : binA E0 .neq 3 (i64 n26) (i64 0) = some FF) (h10 : obC 39 [(.ptr e 0), (str ⟨#[104, 101, 97, 100, 46, 110, 101, 119]⟩)] s4 (i64 n31) s5) (h11 : binA E0 .neq 3 (i64 n31) (i64 0) = some FF) (h12 : obC 40 [(.ptr e 0), (str ⟨#[104, 101, 97, 100, 46, 110, 101, 119]⟩), (str ⟨#[104, 101, 97, 100]⟩)] s5 (i64 n36) s6) : obC 48 [(.ptr e 0), hv] st (i64 n36) s6 := ACalls.run hE noOv_ok (f48_FFFFF_e st s1 s2 s3 s4 s5 s6 e a3 hv v12 v13a n13b n20 n26 n31 n36) (Ob.ok_cons.2 ⟨h1, (Ob.ok_cons.2 ⟨⟨h2, rfl⟩, (Ob.ok_cons.2 ⟨⟨h3, rfl⟩, (Ob.ok_cons.2 ⟨h4, (Ob.ok_cons.2 ⟨h5, (Ob.ok_cons.2 ⟨h6, (Ob.ok_cons.2 ⟨h7, (Ob.ok_cons.2 ⟨h8, (Ob.ok_cons.2 ⟨h9, (Ob.ok_cons.2 ⟨h10, (Ob.ok_cons.2 ⟨h11, (Ob.ok_cons.2 ⟨h12, Ob.ok_nil⟩)⟩)⟩)⟩)⟩)⟩)⟩)⟩)⟩)⟩)⟩)⟩)
noncomputable def f18P (i : Nat) : Code := match Try.f18.body with
  | some (.seq x0 (.seq x1 (.seq x2 (.seq x3 (.seq (.seq x4 (.block 0 (.loop x5))) x6))))) => [x0, x1, x2, x3, x4, x5, x6].getD i .skip
  | _ => .skip
theorem f18body : Try.f18.body = some (.seq (f18P 0) (.seq (f18P 1) (.seq (f18P 2) (.seq (f18P 3) (.seq (.seq (f18P 4) (.block 0 (.loop (f18P 5)))) (f18P 6)))))) := by kernel_rfl
def f18L0 (T : Tm) (a0 a1 : AV) : Prop := T.n = 40 ∧ T.get 0 = a0 ∧ T.get 1 = a1
def f18L1 (T : Tm) (a2 a3 : AV) : Prop := T.n = 40 ∧ T.get 2 = a2 ∧ T.get 3 = a3
theorem f18_0_e (d a2 a3 : Nat) (hv : AV) (st s1 s2 : St) : ((evS Try.prog E0 noOv noS 100000 [2002, 2003] (f18P 0) ⟨40, [(0, (.ptr d 0)), (1, hv)], []⟩ st [.eff (.ptr a2 0) (fun _ => s1), .eff (.ptr a3 0) (fun _ => s2)]).map fun q => (q.1, q.2.1.n, ([q.2.1.get 2, q.2.1.get 3] : List AV), q.2.2.1, q.2.2.2.2)) = some (.normal, 40, [(.ptr a2 0), (.ptr a3 0)], s2, [boxA st 41 (.ptr d 0) = some ((.ptr a2 0), s1), boxA s1 27 hv = some ((.ptr a3 0), s2)]) := by kernel_rfl
theorem f18_0 {d a2 a3 : Nat} {hv : AV} {st s1 s2 : St} (h1 : boxA st 41 (.ptr d 0) = some ((.ptr a2 0), s1)) (h2 : boxA s1 27 hv = some ((.ptr a3 0), s2)) {T : Tm} (hT : f18L0 T (.ptr d 0) hv) : AW Try.prog (f18P 0) (fun ex T' st' => ex = .normal ∧ f18L1 T' (.ptr a2 0) (.ptr a3 0) ∧ st' = s2) T st := by
  obtain ⟨hn, g0, g1⟩ := hT
  exact (gen_run (G := fun T => ([T.get 2, T.get 3] : List AV)) hE (f18_0_e d a2 a3 hv st s1 s2) (Ob.ok_cons.2 ⟨h1, (Ob.ok_cons.2 ⟨h2, Ob.ok_nil⟩)⟩) hn (conz g0 (one g1))).mono fun ex T' st' ⟨q1, q2, q3, q4⟩ => by simp only [List.cons.injEq, and_true] at q3; exact ⟨q1, ⟨q2, q3⟩, q4⟩
def f18L2 (T : Tm) (a4 : AV) : Prop := T.n = 40 ∧ T.get 4 = a4
theorem f18_1_T_e (b h p11 : Nat) (st s1 : St) (n12 : Int) : ((evS Try.prog E0 noOv noS 100000 [2011, 6058, 7014] (f18P 1) ⟨40, [(2, (.ptr b 0)), (3, (.ptr h 0))], []⟩ st [.eff (.ptr p11 0) id, .eff (i64 n12) (fun _ => s1), .av TT]).map fun q => (q.1, q.2.1.n, ([q.2.1.get 4] : List AV), q.2.2.1, q.2.2.2.2)) = some (.ret, 40, [(i64 n12)], s1, [loadA E0 st 41 (.ptr b 0) = some (.ptr p11 0) ∧ st = st, obC 58 [(.ptr p11 0)] st (i64 n12) s1, binA E0 .neq 29 (i64 n12) (i64 0) = some TT]) := by kernel_rfl
theorem f18_1_T {b h p11 : Nat} {st s1 : St} {n12 : Int} (h1 : loadA E0 st 41 (.ptr b 0) = some (.ptr p11 0)) (h2 : obC 58 [(.ptr p11 0)] st (i64 n12) s1) (h3 : binA E0 .neq 29 (i64 n12) (i64 0) = some TT) {T : Tm} (hT : f18L1 T (.ptr b 0) (.ptr h 0)) : AW Try.prog (f18P 1) (fun ex T' st' => ex = .ret ∧ f18L2 T' (i64 n12) ∧ st' = s1) T st := by
  obtain ⟨hn, g2, g3⟩ := hT
  exact (gen_run (G := fun T => ([T.get 4] : List AV)) hE (f18_1_T_e b h p11 st s1 n12) (Ob.ok_cons.2 ⟨⟨h1, rfl⟩, (Ob.ok_cons.2 ⟨h2, (Ob.ok_cons.2 ⟨h3, Ob.ok_nil⟩)⟩)⟩) hn (conz g2 (one g3))).mono fun ex T' st' ⟨q1, q2, q3, q4⟩ => by simp only [List.cons.injEq, and_true] at q3; exact ⟨q1, ⟨q2, q3⟩, q4⟩
theorem f18_1_F_e (b h p11 : Nat) (st s1 : St) (n12 : Int) : ((evS Try.prog E0 noOv noS 100000 [2011, 6058, 7014] (f18P 1) ⟨40, [(2, (.ptr b 0)), (3, (.ptr h 0))], []⟩ st [.eff (.ptr p11 0) id, .eff (i64 n12) (fun _ => s1), .av FF]).map fun q => (q.1, q.2.1.n, ([q.2.1.get 2, q.2.1.get 3] : List AV), q.2.2.1, q.2.2.2.2)) = some (.normal, 40, [(.ptr b 0), (.ptr h 0)], s1, [loadA E0 st 41 (.ptr b 0) = some (.ptr p11 0) ∧ st = st, obC 58 [(.ptr p11 0)] st (i64 n12) s1, binA E0 .neq 29 (i64 n12) (i64 0) = some FF]) := by kernel_rfl
theorem f18_1_F {b h p11 : Nat} {st s1 : St} {n12 : Int} (h1 : loadA E0 st 41 (.ptr b 0) = some (.ptr p11 0)) (h2 : obC 58 [(.ptr p11 0)] st (i64 n12) s1) (h3 : binA E0 .neq 29 (i64 n12) (i64 0) = some FF) {T : Tm} (hT : f18L1 T (.ptr b 0) (.ptr h 0)) : AW Try.prog (f18P 1) (fun ex T' st' => ex = .normal ∧ f18L1 T' (.ptr b 0) (.ptr h 0) ∧ st' = s1) T st := by
  obtain ⟨hn, g2, g3⟩ := hT
  exact (gen_run (G := fun T => ([T.get 2, T.get 3] : List AV)) hE (f18_1_F_e b h p11 st s1 n12) (Ob.ok_cons.2 ⟨⟨h1, rfl⟩, (Ob.ok_cons.2 ⟨h2, (Ob.ok_cons.2 ⟨h3, Ob.ok_nil⟩)⟩)⟩) hn (conz g2 (one g3))).mono fun ex T' st' ⟨q1, q2, q3, q4⟩ => by simp only [List.cons.injEq, and_true] at q3; exact ⟨q1, ⟨q2, q3⟩, q4⟩
def f18L3 (T : Tm) (a2 a6 a7 : AV) : Prop := T.n = 40 ∧ T.get 2 = a2 ∧ T.get 6 = a6 ∧ T.get 7 = a7
theorem f18_2_e (b h a6 : Nat) (st s1 s2 s3 : St) (v17 v18a : AV) (n18b : Int) : ((evS Try.prog E0 noOv noS 100000 [2006, 2017, 5000, 6011] (f18P 2) ⟨40, [(2, (.ptr b 0)), (3, (.ptr h 0))], []⟩ st [.eff v17 id, .eff (.tup [v18a, (i64 n18b)]) (fun _ => s1), .eff (.ptr a6 0) (fun _ => s2), .eff .undef (fun _ => s3)]).map fun q => (q.1, q.2.1.n, ([q.2.1.get 2, q.2.1.get 6, q.2.1.get 7] : List AV), q.2.2.1, q.2.2.2.2)) = some (.normal, 40, [(.ptr b 0), (.ptr a6 0), (i64 n18b)], s3, [loadA E0 st 27 (.ptr h 0) = some v17 ∧ st = st, obC 11 [v17] st (.tup [v18a, (i64 n18b)]) s1, allocA E0 s1 28 = some ((.ptr a6 0), s2), storeA E0 s2 28 (.ptr a6 0) v18a = some s3]) := by kernel_rfl
theorem f18_2 {b h a6 : Nat} {st s1 s2 s3 : St} {v17 v18a : AV} {n18b : Int} (h1 : loadA E0 st 27 (.ptr h 0) = some v17) (h2 : obC 11 [v17] st (.tup [v18a, (i64 n18b)]) s1) (h3 : allocA E0 s1 28 = some ((.ptr a6 0), s2)) (h4 : storeA E0 s2 28 (.ptr a6 0) v18a = some s3) {T : Tm} (hT : f18L1 T (.ptr b 0) (.ptr h 0)) : AW Try.prog (f18P 2) (fun ex T' st' => ex = .normal ∧ f18L3 T' (.ptr b 0) (.ptr a6 0) (i64 n18b) ∧ st' = s3) T st := by
  obtain ⟨hn, g2, g3⟩ := hT
  exact (gen_run (G := fun T => ([T.get 2, T.get 6, T.get 7] : List AV)) hE (f18_2_e b h a6 st s1 s2 s3 v17 v18a n18b) (Ob.ok_cons.2 ⟨⟨h1, rfl⟩, (Ob.ok_cons.2 ⟨h2, (Ob.ok_cons.2 ⟨h3, (Ob.ok_cons.2 ⟨h4, Ob.ok_nil⟩)⟩)⟩)⟩) hn (conz g2 (one g3))).mono fun ex T' st' ⟨q1, q2, q3, q4⟩ => by simp only [List.cons.injEq, and_true] at q3; exact ⟨q1, ⟨q2, q3⟩, q4⟩
theorem f18_3_T_e (b c : Nat) (n7 : Int) (st : St) : ((evS Try.prog E0 noOv noS 100000 [7022] (f18P 3) ⟨40, [(2, (.ptr b 0)), (6, (.ptr c 0)), (7, (i64 n7))], []⟩ st [.av TT]).map fun q => (q.1, q.2.1.n, ([q.2.1.get 4] : List AV), q.2.2.1, q.2.2.2.2)) = some (.ret, 40, [(i64 n7)], st, [binA E0 .neq 29 (i64 n7) (i64 0) = some TT]) := by kernel_rfl
theorem f18_3_T {b c : Nat} {n7 : Int} {st : St} (h1 : binA E0 .neq 29 (i64 n7) (i64 0) = some TT) {T : Tm} (hT : f18L3 T (.ptr b 0) (.ptr c 0) (i64 n7)) : AW Try.prog (f18P 3) (fun ex T' st' => ex = .ret ∧ f18L2 T' (i64 n7) ∧ st' = st) T st := by
  obtain ⟨hn, g2, g6, g7⟩ := hT
  exact (gen_run (G := fun T => ([T.get 4] : List AV)) hE (f18_3_T_e b c n7 st) (Ob.ok_cons.2 ⟨h1, Ob.ok_nil⟩) hn (conz g2 (conz g6 (one g7)))).mono fun ex T' st' ⟨q1, q2, q3, q4⟩ => by simp only [List.cons.injEq, and_true] at q3; exact ⟨q1, ⟨q2, q3⟩, q4⟩
def f18L4 (T : Tm) (a2 a6 : AV) : Prop := T.n = 40 ∧ T.get 2 = a2 ∧ T.get 6 = a6
theorem f18_3_F_e (b c : Nat) (n7 : Int) (st : St) : ((evS Try.prog E0 noOv noS 100000 [7022] (f18P 3) ⟨40, [(2, (.ptr b 0)), (6, (.ptr c 0)), (7, (i64 n7))], []⟩ st [.av FF]).map fun q => (q.1, q.2.1.n, ([q.2.1.get 2, q.2.1.get 6] : List AV), q.2.2.1, q.2.2.2.2)) = some (.normal, 40, [(.ptr b 0), (.ptr c 0)], st, [binA E0 .neq 29 (i64 n7) (i64 0) = some FF]) := by kernel_rfl
theorem f18_3_F {b c : Nat} {n7 : Int} {st : St} (h1 : binA E0 .neq 29 (i64 n7) (i64 0) = some FF) {T : Tm} (hT : f18L3 T (.ptr b 0) (.ptr c 0) (i64 n7)) : AW Try.prog (f18P 3) (fun ex T' st' => ex = .normal ∧ f18L4 T' (.ptr b 0) (.ptr c 0) ∧ st' = st) T st := by
  obtain ⟨hn, g2, g6, g7⟩ := hT
  exact (gen_run (G := fun T => ([T.get 2, T.get 6] : List AV)) hE (f18_3_F_e b c n7 st) (Ob.ok_cons.2 ⟨h1, Ob.ok_nil⟩) hn (conz g2 (conz g6 (one g7)))).mono fun ex T' st' ⟨q1, q2, q3, q4⟩ => by simp only [List.cons.injEq, and_true] at q3; exact ⟨q1, ⟨q2, q3⟩, q4⟩
def f18L5 (T : Tm) (a28 a29 a30 : AV) : Prop := T.n = 40 ∧ T.get 28 = a28 ∧ T.get 29 = a29 ∧ T.get 30 = a30
theorem f18_4_e (b c : Nat) (st s1 : St) (v28 : AV) (n29 : Int) : ((evS Try.prog E0 noOv noS 100000 [2028, 7029] (f18P 4) ⟨40, [(2, (.ptr b 0)), (6, (.ptr c 0))], []⟩ st [.eff v28 (fun _ => s1), .av (i64 n29)]).map fun q => (q.1, q.2.1.n, ([q.2.1.get 28, q.2.1.get 29, q.2.1.get 30] : List AV), q.2.2.1, q.2.2.2.2)) = some (.normal, 40, [v28, (i64 n29), (i64 0)], s1, [buildSliceA E0 st 99 4 [(0, (.fn (.func 59) [] [(.ptr b 0)])), (1, (.fn (.func 60) [] [(.ptr b 0), (.ptr c 0)])), (2, (.fn (.func 61) [] [(.ptr b 0)])), (3, (.fn (.func 62) [] [(.ptr b 0)]))] = some (v28, s1), lenA E0 99 v28 = some (i64 n29)]) := by kernel_rfl
theorem f18_4 {b c : Nat} {st s1 : St} {v28 : AV} {n29 : Int} (h1 : buildSliceA E0 st 99 4 [(0, (.fn (.func 59) [] [(.ptr b 0)])), (1, (.fn (.func 60) [] [(.ptr b 0), (.ptr c 0)])), (2, (.fn (.func 61) [] [(.ptr b 0)])), (3, (.fn (.func 62) [] [(.ptr b 0)]))] = some (v28, s1)) (h2 : lenA E0 99 v28 = some (i64 n29)) {T : Tm} (hT : f18L4 T (.ptr b 0) (.ptr c 0)) : AW Try.prog (f18P 4) (fun ex T' st' => ex = .normal ∧ f18L5 T' v28 (i64 n29) (i64 0) ∧ st' = s1) T st := by
  obtain ⟨hn, g2, g6⟩ := hT
  exact (gen_run (G := fun T => ([T.get 28, T.get 29, T.get 30] : List AV)) hE (f18_4_e b c st s1 v28 n29) (Ob.ok_cons.2 ⟨h1, (Ob.ok_cons.2 ⟨h2, Ob.ok_nil⟩)⟩) hn (conz g2 (one g6))).mono fun ex T' st' ⟨q1, q2, q3, q4⟩ => by simp only [List.cons.injEq, and_true] at q3; exact ⟨q1, ⟨q2, q3⟩, q4⟩
def f18L6 (T : Tm) : Prop := T.n = 40
theorem f18_6_e (st : St) : ((evS Try.prog E0 noOv noS 100000 [] (f18P 6) ⟨40, [], []⟩ st []).map fun q => (q.1, q.2.1.n, ([q.2.1.get 4] : List AV), q.2.2.1, q.2.2.2.2)) = some (.ret, 40, [(i64 0)], st, []) := by kernel_rfl
theorem f18_6 {st : St}  {T : Tm} (hT : f18L6 T ) : AW Try.prog (f18P 6) (fun ex T' st' => ex = .ret ∧ f18L2 T' (i64 0) ∧ st' = st) T st := by
  have hn : T.n = 40 := hT
  exact (gen_run (G := fun T => ([T.get 4] : List AV)) hE (f18_6_e st) Ob.ok_nil hn (fun q hq => by cases hq)).mono fun ex T' st' ⟨q1, q2, q3, q4⟩ => by simp only [List.cons.injEq, and_true] at q3; exact ⟨q1, ⟨q2, q3⟩, q4⟩
theorem f18_59__5_TT_e (fs q32 : AV) (n29 n30 n35 : Int) (st s1 : St) (b : Nat) : ((evS Try.prog E0 noOv noS 100000 [2033, 6059, 7031, 7032, 7037, 7039] (f18P 5) ⟨40, [(28, fs), (29, (i64 n29)), (30, (i64 n30))], []⟩ st [.av TT, .av q32, .eff (.fn (.func 59) [] [(.ptr b 0)]) id, .eff (i64 n35) (fun _ => s1), .av TT]).map fun q => (q.1, q.2.1.n, ([q.2.1.get 4] : List AV), q.2.2.1, q.2.2.2.2)) = some (.ret, 40, [(i64 n35)], s1, [binA E0 .lss 3 (i64 n30) (i64 n29) = some TT, indexAddrA E0 99 fs (i64 n30) = some q32, loadA E0 st 98 q32 = some (.fn (.func 59) [] [(.ptr b 0)]) ∧ st = st, obC 59 [(.ptr b 0)] st (i64 n35) s1, binA E0 .neq 29 (i64 n35) (i64 0) = some TT]) := by kernel_rfl
theorem f18_59__5_TT {fs q32 : AV} {n29 n30 n35 : Int} {st s1 : St} {b : Nat} (h1 : binA E0 .lss 3 (i64 n30) (i64 n29) = some TT) (h2 : indexAddrA E0 99 fs (i64 n30) = some q32) (h3 : loadA E0 st 98 q32 = some (.fn (.func 59) [] [(.ptr b 0)])) (h4 : obC 59 [(.ptr b 0)] st (i64 n35) s1) (h5 : binA E0 .neq 29 (i64 n35) (i64 0) = some TT) {T : Tm} (hT : f18L5 T fs (i64 n29) (i64 n30)) : AW Try.prog (f18P 5) (fun ex T' st' => ex = .ret ∧ f18L2 T' (i64 n35) ∧ st' = s1) T st := by
  obtain ⟨hn, g28, g29, g30⟩ := hT
  exact (gen_run (G := fun T => ([T.get 4] : List AV)) hE (f18_59__5_TT_e fs q32 n29 n30 n35 st s1 b) (Ob.ok_cons.2 ⟨h1, (Ob.ok_cons.2 ⟨h2, (Ob.ok_cons.2 ⟨⟨h3, rfl⟩, (Ob.ok_cons.2 ⟨h4, (Ob.ok_cons.2 ⟨h5, Ob.ok_nil⟩)⟩)⟩)⟩)⟩) hn (conz g28 (conz g29 (one g30)))).mono fun ex T' st' ⟨q1, q2, q3, q4⟩ => by simp only [List.cons.injEq, and_true] at q3; exact ⟨q1, ⟨q2, q3⟩, q4⟩
theorem f18_59__5_TF_e (fs q32 : AV) (n29 n30 n35 n39 : Int) (st s1 : St) (b : Nat) : ((evS Try.prog E0 noOv noS 100000 [2033, 6059, 7031, 7032, 7037, 7039] (f18P 5) ⟨40, [(28, fs), (29, (i64 n29)), (30, (i64 n30))], []⟩ st [.av TT, .av q32, .eff (.fn (.func 59) [] [(.ptr b 0)]) id, .eff (i64 n35) (fun _ => s1), .av FF, .av (i64 n39)]).map fun q => (q.1, q.2.1.n, ([q.2.1.get 28, q.2.1.get 29, q.2.1.get 30] : List AV), q.2.2.1, q.2.2.2.2)) = some (.normal, 40, [fs, (i64 n29), (i64 n39)], s1, [binA E0 .lss 3 (i64 n30) (i64 n29) = some TT, indexAddrA E0 99 fs (i64 n30) = some q32, loadA E0 st 98 q32 = some (.fn (.func 59) [] [(.ptr b 0)]) ∧ st = st, obC 59 [(.ptr b 0)] st (i64 n35) s1, binA E0 .neq 29 (i64 n35) (i64 0) = some FF, binA E0 .add 3 (i64 n30) (i64 1) = some (i64 n39)]) := by kernel_rfl
theorem f18_59__5_TF {fs q32 : AV} {n29 n30 n35 n39 : Int} {st s1 : St} {b : Nat} (h1 : binA E0 .lss 3 (i64 n30) (i64 n29) = some TT) (h2 : indexAddrA E0 99 fs (i64 n30) = some q32) (h3 : loadA E0 st 98 q32 = some (.fn (.func 59) [] [(.ptr b 0)])) (h4 : obC 59 [(.ptr b 0)] st (i64 n35) s1) (h5 : binA E0 .neq 29 (i64 n35) (i64 0) = some FF) (h6 : binA E0 .add 3 (i64 n30) (i64 1) = some (i64 n39)) {T : Tm} (hT : f18L5 T fs (i64 n29) (i64 n30)) : AW Try.prog (f18P 5) (fun ex T' st' => ex = .normal ∧ f18L5 T' fs (i64 n29) (i64 n39) ∧ st' = s1) T st := by
  obtain ⟨hn, g28, g29, g30⟩ := hT
  exact (gen_run (G := fun T => ([T.get 28, T.get 29, T.get 30] : List AV)) hE (f18_59__5_TF_e fs q32 n29 n30 n35 n39 st s1 b) (Ob.ok_cons.2 ⟨h1, (Ob.ok_cons.2 ⟨h2, (Ob.ok_cons.2 ⟨⟨h3, rfl⟩, (Ob.ok_cons.2 ⟨h4, (Ob.ok_cons.2 ⟨h5, (Ob.ok_cons.2 ⟨h6, Ob.ok_nil⟩)⟩)⟩)⟩)⟩)⟩) hn (conz g28 (conz g29 (one g30)))).mono fun ex T' st' ⟨q1, q2, q3, q4⟩ => by simp only [List.cons.injEq, and_true] at q3; exact ⟨q1, ⟨q2, q3⟩, q4⟩
theorem f18_59__5_F_e (fs : AV) (n29 n30 : Int) (st : St) : ((evS Try.prog E0 noOv noS 100000 [2033, 6059, 7031, 7032, 7037, 7039] (f18P 5) ⟨40, [(28, fs), (29, (i64 n29)), (30, (i64 n30))], []⟩ st [.av FF]).map fun q => (q.1, q.2.1.n, ([] : List AV), q.2.2.1, q.2.2.2.2)) = some ((.exit 0), 40, [], st, [binA E0 .lss 3 (i64 n30) (i64 n29) = some FF]) := by kernel_rfl
theorem f18_59__5_F {fs : AV} {n29 n30 : Int} {st : St} (h1 : binA E0 .lss 3 (i64 n30) (i64 n29) = some FF) {T : Tm} (hT : f18L5 T fs (i64 n29) (i64 n30)) : AW Try.prog (f18P 5) (fun ex T' st' => ex = (.exit 0) ∧ f18L6 T'  ∧ st' = st) T st := by
  obtain ⟨hn, g28, g29, g30⟩ := hT
  exact (gen_run (G := fun T => ([] : List AV)) hE (f18_59__5_F_e fs n29 n30 st) (Ob.ok_cons.2 ⟨h1, Ob.ok_nil⟩) hn (conz g28 (conz g29 (one g30)))).mono fun ex T' st' ⟨q1, q2, q3, q4⟩ => by exact ⟨q1, q2, q4⟩
theorem f18_60__5_TT_e (fs q32 : AV) (n29 n30 n35 : Int) (st s1 : St) (b c : Nat) : ((evS Try.prog E0 noOv noS 100000 [2033, 6060, 7031, 7032, 7037, 7039] (f18P 5) ⟨40, [(28, fs), (29, (i64 n29)), (30, (i64 n30))], []⟩ st [.av TT, .av q32, .eff (.fn (.func 60) [] [(.ptr b 0), (.ptr c 0)]) id, .eff (i64 n35) (fun _ => s1), .av TT]).map fun q => (q.1, q.2.1.n, ([q.2.1.get 4] : List AV), q.2.2.1, q.2.2.2.2)) = some (.ret, 40, [(i64 n35)], s1, [binA E0 .lss 3 (i64 n30) (i64 n29) = some TT, indexAddrA E0 99 fs (i64 n30) = some q32, loadA E0 st 98 q32 = some (.fn (.func 60) [] [(.ptr b 0), (.ptr c 0)]) ∧ st = st, obC 60 [(.ptr b 0), (.ptr c 0)] st (i64 n35) s1, binA E0 .neq 29 (i64 n35) (i64 0) = some TT]) := by kernel_rfl
theorem f18_60__5_TT {fs q32 : AV} {n29 n30 n35 : Int} {st s1 : St} {b c : Nat} (h1 : binA E0 .lss 3 (i64 n30) (i64 n29) = some TT) (h2 : indexAddrA E0 99 fs (i64 n30) = some q32) (h3 : loadA E0 st 98 q32 = some (.fn (.func 60) [] [(.ptr b 0), (.ptr c 0)])) (h4 : obC 60 [(.ptr b 0), (.ptr c 0)] st (i64 n35) s1) (h5 : binA E0 .neq 29 (i64 n35) (i64 0) = some TT) {T : Tm} (hT : f18L5 T fs (i64 n29) (i64 n30)) : AW Try.prog (f18P 5) (fun ex T' st' => ex = .ret ∧ f18L2 T' (i64 n35) ∧ st' = s1) T st := by
  obtain ⟨hn, g28, g29, g30⟩ := hT
  exact (gen_run (G := fun T => ([T.get 4] : List AV)) hE (f18_60__5_TT_e fs q32 n29 n30 n35 st s1 b c) (Ob.ok_cons.2 ⟨h1, (Ob.ok_cons.2 ⟨h2, (Ob.ok_cons.2 ⟨⟨h3, rfl⟩, (Ob.ok_cons.2 ⟨h4, (Ob.ok_cons.2 ⟨h5, Ob.ok_nil⟩)⟩)⟩)⟩)⟩) hn (conz g28 (conz g29 (one g30)))).mono fun ex T' st' ⟨q1, q2, q3, q4⟩ => by simp only [List.cons.injEq, and_true] at q3; exact ⟨q1, ⟨q2, q3⟩, q4⟩
theorem f18_60__5_TF_e (fs q32 : AV) (n29 n30 n35 n39 : Int) (st s1 : St) (b c : Nat) : ((evS Try.prog E0 noOv noS 100000 [2033, 6060, 7031, 7032, 7037, 7039] (f18P 5) ⟨40, [(28, fs), (29, (i64 n29)), (30, (i64 n30))], []⟩ st [.av TT, .av q32, .eff (.fn (.func 60) [] [(.ptr b 0), (.ptr c 0)]) id, .eff (i64 n35) (fun _ => s1), .av FF, .av (i64 n39)]).map fun q => (q.1, q.2.1.n, ([q.2.1.get 28, q.2.1.get 29, q.2.1.get 30] : List AV), q.2.2.1, q.2.2.2.2)) = some (.normal, 40, [fs, (i64 n29), (i64 n39)], s1, [binA E0 .lss 3 (i64 n30) (i64 n29) = some TT, indexAddrA E0 99 fs (i64 n30) = some q32, loadA E0 st 98 q32 = some (.fn (.func 60) [] [(.ptr b 0), (.ptr c 0)]) ∧ st = st, obC 60 [(.ptr b 0), (.ptr c 0)] st (i64 n35) s1, binA E0 .neq 29 (i64 n35) (i64 0) = some FF, binA E0 .add 3 (i64 n30) (i64 1) = some (i64 n39)]) := by kernel_rfl
theorem f18_60__5_TF {fs q32 : AV} {n29 n30 n35 n39 : Int} {st s1 : St} {b c : Nat} (h1 : binA E0 .lss 3 (i64 n30) (i64 n29) = some TT) (h2 : indexAddrA E0 99 fs (i64 n30) = some q32) (h3 : loadA E0 st 98 q32 = some (.fn (.func 60) [] [(.ptr b 0), (.ptr c 0)])) (h4 : obC 60 [(.ptr b 0), (.ptr c 0)] st (i64 n35) s1) (h5 : binA E0 .neq 29 (i64 n35) (i64 0) = some FF) (h6 : binA E0 .add 3 (i64 n30) (i64 1) = some (i64 n39)) {T : Tm} (hT : f18L5 T fs (i64 n29) (i64 n30)) : AW Try.prog (f18P 5) (fun ex T' st' => ex = .normal ∧ f18L5 T' fs (i64 n29) (i64 n39) ∧ st' = s1) T st := by
  obtain ⟨hn, g28, g29, g30⟩ := hT
  exact (gen_run (G := fun T => ([T.get 28, T.get 29, T.get 30] : List AV)) hE (f18_60__5_TF_e fs q32 n29 n30 n35 n39 st s1 b c) (Ob.ok_cons.2 ⟨h1, (Ob.ok_cons.2 ⟨h2, (Ob.ok_cons.2 ⟨⟨h3, rfl⟩, (Ob.ok_cons.2 ⟨h4, (Ob.ok_cons.2 ⟨h5, (Ob.ok_cons.2 ⟨h6, Ob.ok_nil⟩)⟩)⟩)⟩)⟩)⟩) hn (conz g28 (conz g29 (one g30)))).mono fun ex T' st' ⟨q1, q2, q3, q4⟩ => by simp only [List.cons.injEq, and_true] at q3; exact ⟨q1, ⟨q2, q3⟩, q4⟩
theorem f18_60__5_F_e (fs : AV) (n29 n30 : Int) (st : St) : ((evS Try.prog E0 noOv noS 100000 [2033, 6060, 7031, 7032, 7037, 7039] (f18P 5) ⟨40, [(28, fs), (29, (i64 n29)), (30, (i64 n30))], []⟩ st [.av FF]).map fun q => (q.1, q.2.1.n, ([] : List AV), q.2.2.1, q.2.2.2.2)) = some ((.exit 0), 40, [], st, [binA E0 .lss 3 (i64 n30) (i64 n29) = some FF]) := by kernel_rfl
theorem f18_60__5_F {fs : AV} {n29 n30 : Int} {st : St} (h1 : binA E0 .lss 3 (i64 n30) (i64 n29) = some FF) {T : Tm} (hT : f18L5 T fs (i64 n29) (i64 n30)) : AW Try.prog (f18P 5) (fun ex T' st' => ex = (.exit 0) ∧ f18L6 T'  ∧ st' = st) T st := by
  obtain ⟨hn, g28, g29, g30⟩ := hT
  exact (gen_run (G := fun T => ([] : List AV)) hE (f18_60__5_F_e fs n29 n30 st) (Ob.ok_cons.2 ⟨h1, Ob.ok_nil⟩) hn (conz g28 (conz g29 (one g30)))).mono fun ex T' st' ⟨q1, q2, q3, q4⟩ => by exact ⟨q1, q2, q4⟩
theorem f18_61__5_TT_e (fs q32 : AV) (n29 n30 n35 : Int) (st s1 : St) (b : Nat) : ((evS Try.prog E0 noOv noS 100000 [2033, 6061, 7031, 7032, 7037, 7039] (f18P 5) ⟨40, [(28, fs), (29, (i64 n29)), (30, (i64 n30))], []⟩ st [.av TT, .av q32, .eff (.fn (.func 61) [] [(.ptr b 0)]) id, .eff (i64 n35) (fun _ => s1), .av TT]).map fun q => (q.1, q.2.1.n, ([q.2.1.get 4] : List AV), q.2.2.1, q.2.2.2.2)) = some (.ret, 40, [(i64 n35)], s1, [binA E0 .lss 3 (i64 n30) (i64 n29) = some TT, indexAddrA E0 99 fs (i64 n30) = some q32, loadA E0 st 98 q32 = some (.fn (.func 61) [] [(.ptr b 0)]) ∧ st = st, obC 61 [(.ptr b 0)] st (i64 n35) s1, binA E0 .neq 29 (i64 n35) (i64 0) = some TT]) := by kernel_rfl
theorem f18_61__5_TT {fs q32 : AV} {n29 n30 n35 : Int} {st s1 : St} {b : Nat} (h1 : binA E0 .lss 3 (i64 n30) (i64 n29) = some TT) (h2 : indexAddrA E0 99 fs (i64 n30) = some q32) (h3 : loadA E0 st 98 q32 = some (.fn (.func 61) [] [(.ptr b 0)])) (h4 : obC 61 [(.ptr b 0)] st (i64 n35) s1) (h5 : binA E0 .neq 29 (i64 n35) (i64 0) = some TT) {T : Tm} (hT : f18L5 T fs (i64 n29) (i64 n30)) : AW Try.prog (f18P 5) (fun ex T' st' => ex = .ret ∧ f18L2 T' (i64 n35) ∧ st' = s1) T st := by
  obtain ⟨hn, g28, g29, g30⟩ := hT
  exact (gen_run (G := fun T => ([T.get 4] : List AV)) hE (f18_61__5_TT_e fs q32 n29 n30 n35 st s1 b) (Ob.ok_cons.2 ⟨h1, (Ob.ok_cons.2 ⟨h2, (Ob.ok_cons.2 ⟨⟨h3, rfl⟩, (Ob.ok_cons.2 ⟨h4, (Ob.ok_cons.2 ⟨h5, Ob.ok_nil⟩)⟩)⟩)⟩)⟩) hn (conz g28 (conz g29 (one g30)))).mono fun ex T' st' ⟨q1, q2, q3, q4⟩ => by simp only [List.cons.injEq, and_true] at q3; exact ⟨q1, ⟨q2, q3⟩, q4⟩
theorem f18_61__5_TF_e (fs q32 : AV) (n29 n30 n35 n39 : Int) (st s1 : St) (b : Nat) : ((evS Try.prog E0 noOv noS 100000 [2033, 6061, 7031, 7032, 7037, 7039] (f18P 5) ⟨40, [(28, fs), (29, (i64 n29)), (30, (i64 n30))], []⟩ st [.av TT, .av q32, .eff (.fn (.func 61) [] [(.ptr b 0)]) id, .eff (i64 n35) (fun _ => s1), .av FF, .av (i64 n39)]).map fun q => (q.1, q.2.1.n, ([q.2.1.get 28, q.2.1.get 29, q.2.1.get 30] : List AV), q.2.2.1, q.2.2.2.2)) = some (.normal, 40, [fs, (i64 n29), (i64 n39)], s1, [binA E0 .lss 3 (i64 n30) (i64 n29) = some TT, indexAddrA E0 99 fs (i64 n30) = some q32, loadA E0 st 98 q32 = some (.fn (.func 61) [] [(.ptr b 0)]) ∧ st = st, obC 61 [(.ptr b 0)] st (i64 n35) s1, binA E0 .neq 29 (i64 n35) (i64 0) = some FF, binA E0 .add 3 (i64 n30) (i64 1) = some (i64 n39)]) := by kernel_rfl
theorem f18_61__5_TF {fs q32 : AV} {n29 n30 n35 n39 : Int} {st s1 : St} {b : Nat} (h1 : binA E0 .lss 3 (i64 n30) (i64 n29) = some TT) (h2 : indexAddrA E0 99 fs (i64 n30) = some q32) (h3 : loadA E0 st 98 q32 = some (.fn (.func 61) [] [(.ptr b 0)])) (h4 : obC 61 [(.ptr b 0)] st (i64 n35) s1) (h5 : binA E0 .neq 29 (i64 n35) (i64 0) = some FF) (h6 : binA E0 .add 3 (i64 n30) (i64 1) = some (i64 n39)) {T : Tm} (hT : f18L5 T fs (i64 n29) (i64 n30)) : AW Try.prog (f18P 5) (fun ex T' st' => ex = .normal ∧ f18L5 T' fs (i64 n29) (i64 n39) ∧ st' = s1) T st := by
  obtain ⟨hn, g28, g29, g30⟩ := hT
  exact (gen_run (G := fun T => ([T.get 28, T.get 29, T.get 30] : List AV)) hE (f18_61__5_TF_e fs q32 n29 n30 n35 n39 st s1 b) (Ob.ok_cons.2 ⟨h1, (Ob.ok_cons.2 ⟨h2, (Ob.ok_cons.2 ⟨⟨h3, rfl⟩, (Ob.ok_cons.2 ⟨h4, (Ob.ok_cons.2 ⟨h5, (Ob.ok_cons.2 ⟨h6, Ob.ok_nil⟩)⟩)⟩)⟩)⟩)⟩) hn (conz g28 (conz g29 (one g30)))).mono fun ex T' st' ⟨q1, q2, q3, q4⟩ => by simp only [List.cons.injEq, and_true] at q3; exact ⟨q1, ⟨q2, q3⟩, q4⟩
theorem f18_61__5_F_e (fs : AV) (n29 n30 : Int) (st : St) : ((evS Try.prog E0 noOv noS 100000 [2033, 6061, 7031, 7032, 7037, 7039] (f18P 5) ⟨40, [(28, fs), (29, (i64 n29)), (30, (i64 n30))], []⟩ st [.av FF]).map fun q => (q.1, q.2.1.n, ([] : List AV), q.2.2.1, q.2.2.2.2)) = some ((.exit 0), 40, [], st, [binA E0 .lss 3 (i64 n30) (i64 n29) = some FF]) := by kernel_rfl
theorem f18_61__5_F {fs : AV} {n29 n30 : Int} {st : St} (h1 : binA E0 .lss 3 (i64 n30) (i64 n29) = some FF) {T : Tm} (hT : f18L5 T fs (i64 n29) (i64 n30)) : AW Try.prog (f18P 5) (fun ex T' st' => ex = (.exit 0) ∧ f18L6 T'  ∧ st' = st) T st := by
  obtain ⟨hn, g28, g29, g30⟩ := hT
  exact (gen_run (G := fun T => ([] : List AV)) hE (f18_61__5_F_e fs n29 n30 st) (Ob.ok_cons.2 ⟨h1, Ob.ok_nil⟩) hn (conz g28 (conz g29 (one g30)))).mono fun ex T' st' ⟨q1, q2, q3, q4⟩ => by exact ⟨q1, q2, q4⟩
theorem f18_62__5_TT_e (fs q32 : AV) (n29 n30 n35 : Int) (st s1 : St) (b : Nat) : ((evS Try.prog E0 noOv noS 100000 [2033, 6062, 7031, 7032, 7037, 7039] (f18P 5) ⟨40, [(28, fs), (29, (i64 n29)), (30, (i64 n30))], []⟩ st [.av TT, .av q32, .eff (.fn (.func 62) [] [(.ptr b 0)]) id, .eff (i64 n35) (fun _ => s1), .av TT]).map fun q => (q.1, q.2.1.n, ([q.2.1.get 4] : List AV), q.2.2.1, q.2.2.2.2)) = some (.ret, 40, [(i64 n35)], s1, [binA E0 .lss 3 (i64 n30) (i64 n29) = some TT, indexAddrA E0 99 fs (i64 n30) = some q32, loadA E0 st 98 q32 = some (.fn (.func 62) [] [(.ptr b 0)]) ∧ st = st, obC 62 [(.ptr b 0)] st (i64 n35) s1, binA E0 .neq 29 (i64 n35) (i64 0) = some TT]) := by kernel_rfl
theorem f18_62__5_TT {fs q32 : AV} {n29 n30 n35 : Int} {st s1 : St} {b : Nat} (h1 : binA E0 .lss 3 (i64 n30) (i64 n29) = some TT) (h2 : indexAddrA E0 99 fs (i64 n30) = some q32) (h3 : loadA E0 st 98 q32 = some (.fn (.func 62) [] [(.ptr b 0)])) (h4 : obC 62 [(.ptr b 0)] st (i64 n35) s1) (h5 : binA E0 .neq 29 (i64 n35) (i64 0) = some TT) {T : Tm} (hT : f18L5 T fs (i64 n29) (i64 n30)) : AW Try.prog (f18P 5) (fun ex T' st' => ex = .ret ∧ f18L2 T' (i64 n35) ∧ st' = s1) T st := by
  obtain ⟨hn, g28, g29, g30⟩ := hT
  exact (gen_run (G := fun T => ([T.get 4] : List AV)) hE (f18_62__5_TT_e fs q32 n29 n30 n35 st s1 b) (Ob.ok_cons.2 ⟨h1, (Ob.ok_cons.2 ⟨h2, (Ob.ok_cons.2 ⟨⟨h3, rfl⟩, (Ob.ok_cons.2 ⟨h4, (Ob.ok_cons.2 ⟨h5, Ob.ok_nil⟩)⟩)⟩)⟩)⟩) hn (conz g28 (conz g29 (one g30)))).mono fun ex T' st' ⟨q1, q2, q3, q4⟩ => by simp only [List.cons.injEq, and_true] at q3; exact ⟨q1, ⟨q2, q3⟩, q4⟩
theorem f18_62__5_TF_e (fs q32 : AV) (n29 n30 n35 n39 : Int) (st s1 : St) (b : Nat) : ((evS Try.prog E0 noOv noS 100000 [2033, 6062, 7031, 7032, 7037, 7039] (f18P 5) ⟨40, [(28, fs), (29, (i64 n29)), (30, (i64 n30))], []⟩ st [.av TT, .av q32, .eff (.fn (.func 62) [] [(.ptr b 0)]) id, .eff (i64 n35) (fun _ => s1), .av FF, .av (i64 n39)]).map fun q => (q.1, q.2.1.n, ([q.2.1.get 28, q.2.1.get 29, q.2.1.get 30] : List AV), q.2.2.1, q.2.2.2.2)) = some (.normal, 40, [fs, (i64 n29), (i64 n39)], s1, [binA E0 .lss 3 (i64 n30) (i64 n29) = some TT, indexAddrA E0 99 fs (i64 n30) = some q32, loadA E0 st 98 q32 = some (.fn (.func 62) [] [(.ptr b 0)]) ∧ st = st, obC 62 [(.ptr b 0)] st (i64 n35) s1, binA E0 .neq 29 (i64 n35) (i64 0) = some FF, binA E0 .add 3 (i64 n30) (i64 1) = some (i64 n39)]) := by kernel_rfl
theorem f18_62__5_TF {fs q32 : AV} {n29 n30 n35 n39 : Int} {st s1 : St} {b : Nat} (h1 : binA E0 .lss 3 (i64 n30) (i64 n29) = some TT) (h2 : indexAddrA E0 99 fs (i64 n30) = some q32) (h3 : loadA E0 st 98 q32 = some (.fn (.func 62) [] [(.ptr b 0)])) (h4 : obC 62 [(.ptr b 0)] st (i64 n35) s1) (h5 : binA E0 .neq 29 (i64 n35) (i64 0) = some FF) (h6 : binA E0 .add 3 (i64 n30) (i64 1) = some (i64 n39)) {T : Tm} (hT : f18L5 T fs (i64 n29) (i64 n30)) : AW Try.prog (f18P 5) (fun ex T' st' => ex = .normal ∧ f18L5 T' fs (i64 n29) (i64 n39) ∧ st' = s1) T st := by
  obtain ⟨hn, g28, g29, g30⟩ := hT
  exact (gen_run (G := fun T => ([T.get 28, T.get 29, T.get 30] : List AV)) hE (f18_62__5_TF_e fs q32 n29 n30 n35 n39 st s1 b) (Ob.ok_cons.2 ⟨h1, (Ob.ok_cons.2 ⟨h2, (Ob.ok_cons.2 ⟨⟨h3, rfl⟩, (Ob.ok_cons.2 ⟨h4, (Ob.ok_cons.2 ⟨h5, (Ob.ok_cons.2 ⟨h6, Ob.ok_nil⟩)⟩)⟩)⟩)⟩)⟩) hn (conz g28 (conz g29 (one g30)))).mono fun ex T' st' ⟨q1, q2, q3, q4⟩ => by simp only [List.cons.injEq, and_true] at q3; exact ⟨q1, ⟨q2, q3⟩, q4⟩
theorem f18_62__5_F_e (fs : AV) (n29 n30 : Int) (st : St) : ((evS Try.prog E0 noOv noS 100000 [2033, 6062, 7031, 7032, 7037, 7039] (f18P 5) ⟨40, [(28, fs), (29, (i64 n29)), (30, (i64 n30))], []⟩ st [.av FF]).map fun q => (q.1, q.2.1.n, ([] : List AV), q.2.2.1, q.2.2.2.2)) = some ((.exit 0), 40, [], st, [binA E0 .lss 3 (i64 n30) (i64 n29) = some FF]) := by kernel_rfl
theorem f18_62__5_F {fs : AV} {n29 n30 : Int} {st : St} (h1 : binA E0 .lss 3 (i64 n30) (i64 n29) = some FF) {T : Tm} (hT : f18L5 T fs (i64 n29) (i64 n30)) : AW Try.prog (f18P 5) (fun ex T' st' => ex = (.exit 0) ∧ f18L6 T'  ∧ st' = st) T st := by
  obtain ⟨hn, g28, g29, g30⟩ := hT
  exact (gen_run (G := fun T => ([] : List AV)) hE (f18_62__5_F_e fs n29 n30 st) (Ob.ok_cons.2 ⟨h1, Ob.ok_nil⟩) hn (conz g28 (conz g29 (one g30)))).mono fun ex T' st' ⟨q1, q2, q3, q4⟩ => by exact ⟨q1, q2, q4⟩
noncomputable def f20P (i : Nat) : Code := match Try.f20.body with
  | some x0 => [x0].getD i .skip
  | _ => .skip
theorem f20body : Try.f20.body = some (f20P 0) := by kernel_rfl
def f20L0 (T : Tm) (a0 : AV) : Prop := T.n = 32 ∧ T.get 0 = a0
def f20L1 (T : Tm) (a2 a3 : AV) : Prop := T.n = 32 ∧ T.get 2 = a2 ∧ T.get 3 = a3
theorem f20_0_T_e (d a2 : Nat) (st s1 s2 s3 : St) (n9 : Int) (v12 : AV) : ((evS Try.prog E0 noOv noS 100000 [2002, 2007, 2031, 5000, 6013, 6025, 6058, 7011, 7012, 7020, 7021, 7029, 7030] (f20P 0) ⟨32, [(0, (.ptr d 0))], []⟩ st [.eff (.ptr a2 0) (fun _ => s1), .eff (i64 n9) (fun _ => s2), .av TT, .av v12, .eff .undef (fun _ => s3)]).map fun q => (q.1, q.2.1.n, ([q.2.1.get 2, q.2.1.get 3] : List AV), q.2.2.1, q.2.2.2.2)) = some (.ret, 32, [(.ptr a2 0), (i64 n9)], s3, [allocA E0 st 27 = some ((.ptr a2 0), s1), obC 58 [(.ptr d 0)] s1 (i64 n9) s2, binA E0 .neq 29 (i64 n9) (i64 0) = some TT, buildA E0 27 [] = some v12, storeA E0 s2 27 (.ptr a2 0) v12 = some s3]) := by kernel_rfl
theorem f20_0_T {d a2 : Nat} {st s1 s2 s3 : St} {n9 : Int} {v12 : AV} (h1 : allocA E0 st 27 = some ((.ptr a2 0), s1)) (h2 : obC 58 [(.ptr d 0)] s1 (i64 n9) s2) (h3 : binA E0 .neq 29 (i64 n9) (i64 0) = some TT) (h4 : buildA E0 27 [] = some v12) (h5 : storeA E0 s2 27 (.ptr a2 0) v12 = some s3) {T : Tm} (hT : f20L0 T (.ptr d 0)) : AW Try.prog (f20P 0) (fun ex T' st' => ex = .ret ∧ f20L1 T' (.ptr a2 0) (i64 n9) ∧ st' = s3) T st := by
  obtain ⟨hn, g0⟩ := hT
  exact (gen_run (G := fun T => ([T.get 2, T.get 3] : List AV)) hE (f20_0_T_e d a2 st s1 s2 s3 n9 v12) (Ob.ok_cons.2 ⟨h1, (Ob.ok_cons.2 ⟨h2, (Ob.ok_cons.2 ⟨h3, (Ob.ok_cons.2 ⟨h4, (Ob.ok_cons.2 ⟨h5, Ob.ok_nil⟩)⟩)⟩)⟩)⟩) hn (one g0)).mono fun ex T' st' ⟨q1, q2, q3, q4⟩ => by simp only [List.cons.injEq, and_true] at q3; exact ⟨q1, ⟨q2, q3⟩, q4⟩
theorem f20_0_FT_e (d a2 : Nat) (st s1 s2 s3 s4 : St) (n9 n16b : Int) (v16a v21 : AV) : ((evS Try.prog E0 noOv noS 100000 [2002, 2007, 2031, 5000, 6013, 6025, 6058, 7011, 7012, 7020, 7021, 7029, 7030] (f20P 0) ⟨32, [(0, (.ptr d 0))], []⟩ st [.eff (.ptr a2 0) (fun _ => s1), .eff (i64 n9) (fun _ => s2), .av FF, .eff (.tup [v16a, (i64 n16b)]) (fun _ => s3), .av TT, .av v21, .eff .undef (fun _ => s4)]).map fun q => (q.1, q.2.1.n, ([q.2.1.get 2, q.2.1.get 3] : List AV), q.2.2.1, q.2.2.2.2)) = some (.ret, 32, [(.ptr a2 0), (i64 n16b)], s4, [allocA E0 st 27 = some ((.ptr a2 0), s1), obC 58 [(.ptr d 0)] s1 (i64 n9) s2, binA E0 .neq 29 (i64 n9) (i64 0) = some FF, obC 25 [(.ptr d 0), (str ⟨#[104, 101, 97, 100]⟩)] s2 (.tup [v16a, (i64 n16b)]) s3, binA E0 .neq 29 (i64 n16b) (i64 0) = some TT, buildA E0 27 [] = some v21, storeA E0 s3 27 (.ptr a2 0) v21 = some s4]) := by kernel_rfl
theorem f20_0_FT {d a2 : Nat} {st s1 s2 s3 s4 : St} {n9 n16b : Int} {v16a v21 : AV} (h1 : allocA E0 st 27 = some ((.ptr a2 0), s1)) (h2 : obC 58 [(.ptr d 0)] s1 (i64 n9) s2) (h3 : binA E0 .neq 29 (i64 n9) (i64 0) = some FF) (h4 : obC 25 [(.ptr d 0), (str ⟨#[104, 101, 97, 100]⟩)] s2 (.tup [v16a, (i64 n16b)]) s3) (h5 : binA E0 .neq 29 (i64 n16b) (i64 0) = some TT) (h6 : buildA E0 27 [] = some v21) (h7 : storeA E0 s3 27 (.ptr a2 0) v21 = some s4) {T : Tm} (hT : f20L0 T (.ptr d 0)) : AW Try.prog (f20P 0) (fun ex T' st' => ex = .ret ∧ f20L1 T' (.ptr a2 0) (i64 n16b) ∧ st' = s4) T st := by
  obtain ⟨hn, g0⟩ := hT
  exact (gen_run (G := fun T => ([T.get 2, T.get 3] : List AV)) hE (f20_0_FT_e d a2 st s1 s2 s3 s4 n9 n16b v16a v21) (Ob.ok_cons.2 ⟨h1, (Ob.ok_cons.2 ⟨h2, (Ob.ok_cons.2 ⟨h3, (Ob.ok_cons.2 ⟨h4, (Ob.ok_cons.2 ⟨h5, (Ob.ok_cons.2 ⟨h6, (Ob.ok_cons.2 ⟨h7, Ob.ok_nil⟩)⟩)⟩)⟩)⟩)⟩)⟩) hn (one g0)).mono fun ex T' st' ⟨q1, q2, q3, q4⟩ => by simp only [List.cons.injEq, and_true] at q3; exact ⟨q1, ⟨q2, q3⟩, q4⟩
theorem f20_0_FFT_e (d a2 a7 : Nat) (st s1 s2 s3 s4 s5 s6 s7 : St) (n9 n16b n25b : Int) (v16a v25a v30 : AV) : ((evS Try.prog E0 noOv noS 100000 [2002, 2007, 2031, 5000, 6013, 6025, 6058, 7011, 7012, 7020, 7021, 7029, 7030] (f20P 0) ⟨32, [(0, (.ptr d 0))], []⟩ st [.eff (.ptr a2 0) (fun _ => s1), .eff (i64 n9) (fun _ => s2), .av FF, .eff (.tup [v16a, (i64 n16b)]) (fun _ => s3), .av FF, .eff (.tup [v25a, (i64 n25b)]) (fun _ => s4), .eff (.ptr a7 0) (fun _ => s5), .eff .undef (fun _ => s6), .av TT, .av v30, .eff .undef (fun _ => s7)]).map fun q => (q.1, q.2.1.n, ([q.2.1.get 2, q.2.1.get 3] : List AV), q.2.2.1, q.2.2.2.2)) = some (.ret, 32, [(.ptr a2 0), (i64 20)], s7, [allocA E0 st 27 = some ((.ptr a2 0), s1), obC 58 [(.ptr d 0)] s1 (i64 n9) s2, binA E0 .neq 29 (i64 n9) (i64 0) = some FF, obC 25 [(.ptr d 0), (str ⟨#[104, 101, 97, 100]⟩)] s2 (.tup [v16a, (i64 n16b)]) s3, binA E0 .neq 29 (i64 n16b) (i64 0) = some FF, obC 13 [v16a] s3 (.tup [v25a, (i64 n25b)]) s4, allocA E0 s4 27 = some ((.ptr a7 0), s5), storeA E0 s5 27 (.ptr a7 0) v25a = some s6, binA E0 .neq 29 (i64 n25b) (i64 0) = some TT, buildA E0 27 [] = some v30, storeA E0 s6 27 (.ptr a2 0) v30 = some s7]) := by kernel_rfl
theorem f20_0_FFT {d a2 a7 : Nat} {st s1 s2 s3 s4 s5 s6 s7 : St} {n9 n16b n25b : Int} {v16a v25a v30 : AV} (h1 : allocA E0 st 27 = some ((.ptr a2 0), s1)) (h2 : obC 58 [(.ptr d 0)] s1 (i64 n9) s2) (h3 : binA E0 .neq 29 (i64 n9) (i64 0) = some FF) (h4 : obC 25 [(.ptr d 0), (str ⟨#[104, 101, 97, 100]⟩)] s2 (.tup [v16a, (i64 n16b)]) s3) (h5 : binA E0 .neq 29 (i64 n16b) (i64 0) = some FF) (h6 : obC 13 [v16a] s3 (.tup [v25a, (i64 n25b)]) s4) (h7 : allocA E0 s4 27 = some ((.ptr a7 0), s5)) (h8 : storeA E0 s5 27 (.ptr a7 0) v25a = some s6) (h9 : binA E0 .neq 29 (i64 n25b) (i64 0) = some TT) (h10 : buildA E0 27 [] = some v30) (h11 : storeA E0 s6 27 (.ptr a2 0) v30 = some s7) {T : Tm} (hT : f20L0 T (.ptr d 0)) : AW Try.prog (f20P 0) (fun ex T' st' => ex = .ret ∧ f20L1 T' (.ptr a2 0) (i64 20) ∧ st' = s7) T st := by
  obtain ⟨hn, g0⟩ := hT
  exact (gen_run (G := fun T => ([T.get 2, T.get 3] : List AV)) hE (f20_0_FFT_e d a2 a7 st s1 s2 s3 s4 s5 s6 s7 n9 n16b n25b v16a v25a v30) (Ob.ok_cons.2 ⟨h1, (Ob.ok_cons.2 ⟨h2, (Ob.ok_cons.2 ⟨h3, (Ob.ok_cons.2 ⟨h4, (Ob.ok_cons.2 ⟨h5, (Ob.ok_cons.2 ⟨h6, (Ob.ok_cons.2 ⟨h7, (Ob.ok_cons.2 ⟨h8, (Ob.ok_cons.2 ⟨h9, (Ob.ok_cons.2 ⟨h10, (Ob.ok_cons.2 ⟨h11, Ob.ok_nil⟩)⟩)⟩)⟩)⟩)⟩)⟩)⟩)⟩)⟩)⟩) hn (one g0)).mono fun ex T' st' ⟨q1, q2, q3, q4⟩ => by simp only [List.cons.injEq, and_true] at q3; exact ⟨q1, ⟨q2, q3⟩, q4⟩
theorem f20_0_FFF_e (d a2 a7 : Nat) (st s1 s2 s3 s4 s5 s6 s7 : St) (n9 n16b n25b : Int) (v16a v25a v31 : AV) : ((evS Try.prog E0 noOv noS 100000 [2002, 2007, 2031, 5000, 6013, 6025, 6058, 7011, 7012, 7020, 7021, 7029, 7030] (f20P 0) ⟨32, [(0, (.ptr d 0))], []⟩ st [.eff (.ptr a2 0) (fun _ => s1), .eff (i64 n9) (fun _ => s2), .av FF, .eff (.tup [v16a, (i64 n16b)]) (fun _ => s3), .av FF, .eff (.tup [v25a, (i64 n25b)]) (fun _ => s4), .eff (.ptr a7 0) (fun _ => s5), .eff .undef (fun _ => s6), .av FF, .eff v31 id, .eff .undef (fun _ => s7)]).map fun q => (q.1, q.2.1.n, ([q.2.1.get 2, q.2.1.get 3] : List AV), q.2.2.1, q.2.2.2.2)) = some (.ret, 32, [(.ptr a2 0), (i64 0)], s7, [allocA E0 st 27 = some ((.ptr a2 0), s1), obC 58 [(.ptr d 0)] s1 (i64 n9) s2, binA E0 .neq 29 (i64 n9) (i64 0) = some FF, obC 25 [(.ptr d 0), (str ⟨#[104, 101, 97, 100]⟩)] s2 (.tup [v16a, (i64 n16b)]) s3, binA E0 .neq 29 (i64 n16b) (i64 0) = some FF, obC 13 [v16a] s3 (.tup [v25a, (i64 n25b)]) s4, allocA E0 s4 27 = some ((.ptr a7 0), s5), storeA E0 s5 27 (.ptr a7 0) v25a = some s6, binA E0 .neq 29 (i64 n25b) (i64 0) = some FF, loadA E0 s6 27 (.ptr a7 0) = some v31 ∧ s6 = s6, storeA E0 s6 27 (.ptr a2 0) v31 = some s7]) := by kernel_rfl
theorem f20_0_FFF {d a2 a7 : Nat} {st s1 s2 s3 s4 s5 s6 s7 : St} {n9 n16b n25b : Int} {v16a v25a v31 : AV} (h1 : allocA E0 st 27 = some ((.ptr a2 0), s1)) (h2 : obC 58 [(.ptr d 0)] s1 (i64 n9) s2) (h3 : binA E0 .neq 29 (i64 n9) (i64 0) = some FF) (h4 : obC 25 [(.ptr d 0), (str ⟨#[104, 101, 97, 100]⟩)] s2 (.tup [v16a, (i64 n16b)]) s3) (h5 : binA E0 .neq 29 (i64 n16b) (i64 0) = some FF) (h6 : obC 13 [v16a] s3 (.tup [v25a, (i64 n25b)]) s4) (h7 : allocA E0 s4 27 = some ((.ptr a7 0), s5)) (h8 : storeA E0 s5 27 (.ptr a7 0) v25a = some s6) (h9 : binA E0 .neq 29 (i64 n25b) (i64 0) = some FF) (h10 : loadA E0 s6 27 (.ptr a7 0) = some v31) (h11 : storeA E0 s6 27 (.ptr a2 0) v31 = some s7) {T : Tm} (hT : f20L0 T (.ptr d 0)) : AW Try.prog (f20P 0) (fun ex T' st' => ex = .ret ∧ f20L1 T' (.ptr a2 0) (i64 0) ∧ st' = s7) T st := by
  obtain ⟨hn, g0⟩ := hT
  exact (gen_run (G := fun T => ([T.get 2, T.get 3] : List AV)) hE (f20_0_FFF_e d a2 a7 st s1 s2 s3 s4 s5 s6 s7 n9 n16b n25b v16a v25a v31) (Ob.ok_cons.2 ⟨h1, (Ob.ok_cons.2 ⟨h2, (Ob.ok_cons.2 ⟨h3, (Ob.ok_cons.2 ⟨h4, (Ob.ok_cons.2 ⟨h5, (Ob.ok_cons.2 ⟨h6, (Ob.ok_cons.2 ⟨h7, (Ob.ok_cons.2 ⟨h8, (Ob.ok_cons.2 ⟨h9, (Ob.ok_cons.2 ⟨⟨h10, rfl⟩, (Ob.ok_cons.2 ⟨h11, Ob.ok_nil⟩)⟩)⟩)⟩)⟩)⟩)⟩)⟩)⟩)⟩)⟩) hn (one g0)).mono fun ex T' st' ⟨q1, q2, q3, q4⟩ => by simp only [List.cons.injEq, and_true] at q3; exact ⟨q1, ⟨q2, q3⟩, q4⟩
noncomputable def f49P (i : Nat) : Code := match Try.f49.body with
  | some x0 => [x0].getD i .skip
  | _ => .skip
theorem f49body : Try.f49.body = some (f49P 0) := by kernel_rfl
def f49L0 (T : Tm) (a0 : AV) : Prop := T.n = 25 ∧ T.get 0 = a0
def f49L1 (T : Tm) (a2 a3 : AV) : Prop := T.n = 25 ∧ T.get 2 = a2 ∧ T.get 3 = a3
theorem f49_0_T_e (e a2 : Nat) (st s1 s2 s3 : St) (v9a v14 : AV) (n9b : Int) : ((evS Try.prog E0 noOv noS 100000 [2002, 2006, 2024, 5000, 6014, 6042, 7013, 7014, 7022, 7023] (f49P 0) ⟨25, [(0, (.ptr e 0))], []⟩ st [.eff (.ptr a2 0) (fun _ => s1), .eff (.tup [v9a, (i64 n9b)]) (fun _ => s2), .av TT, .av v14, .eff .undef (fun _ => s3)]).map fun q => (q.1, q.2.1.n, ([q.2.1.get 2, q.2.1.get 3] : List AV), q.2.2.1, q.2.2.2.2)) = some (.ret, 25, [(.ptr a2 0), (i64 n9b)], s3, [allocA E0 st 27 = some ((.ptr a2 0), s1), obC 42 [(.ptr e 0), (str ⟨#[104, 101, 97, 100]⟩)] s1 (.tup [v9a, (i64 n9b)]) s2, binA E0 .neq 3 (i64 n9b) (i64 0) = some TT, buildA E0 27 [] = some v14, storeA E0 s2 27 (.ptr a2 0) v14 = some s3]) := by kernel_rfl
theorem f49_0_T {e a2 : Nat} {st s1 s2 s3 : St} {v9a v14 : AV} {n9b : Int} (h1 : allocA E0 st 27 = some ((.ptr a2 0), s1)) (h2 : obC 42 [(.ptr e 0), (str ⟨#[104, 101, 97, 100]⟩)] s1 (.tup [v9a, (i64 n9b)]) s2) (h3 : binA E0 .neq 3 (i64 n9b) (i64 0) = some TT) (h4 : buildA E0 27 [] = some v14) (h5 : storeA E0 s2 27 (.ptr a2 0) v14 = some s3) {T : Tm} (hT : f49L0 T (.ptr e 0)) : AW Try.prog (f49P 0) (fun ex T' st' => ex = .ret ∧ f49L1 T' (.ptr a2 0) (i64 n9b) ∧ st' = s3) T st := by
  obtain ⟨hn, g0⟩ := hT
  exact (gen_run (G := fun T => ([T.get 2, T.get 3] : List AV)) hE (f49_0_T_e e a2 st s1 s2 s3 v9a v14 n9b) (Ob.ok_cons.2 ⟨h1, (Ob.ok_cons.2 ⟨h2, (Ob.ok_cons.2 ⟨h3, (Ob.ok_cons.2 ⟨h4, (Ob.ok_cons.2 ⟨h5, Ob.ok_nil⟩)⟩)⟩)⟩)⟩) hn (one g0)).mono fun ex T' st' ⟨q1, q2, q3, q4⟩ => by simp only [List.cons.injEq, and_true] at q3; exact ⟨q1, ⟨q2, q3⟩, q4⟩
theorem f49_0_FT_e (e a2 a6 : Nat) (st s1 s2 s3 s4 s5 s6 : St) (v9a v18a v23 : AV) (n9b n18b : Int) : ((evS Try.prog E0 noOv noS 100000 [2002, 2006, 2024, 5000, 6014, 6042, 7013, 7014, 7022, 7023] (f49P 0) ⟨25, [(0, (.ptr e 0))], []⟩ st [.eff (.ptr a2 0) (fun _ => s1), .eff (.tup [v9a, (i64 n9b)]) (fun _ => s2), .av FF, .eff (.tup [v18a, (i64 n18b)]) (fun _ => s3), .eff (.ptr a6 0) (fun _ => s4), .eff .undef (fun _ => s5), .av TT, .av v23, .eff .undef (fun _ => s6)]).map fun q => (q.1, q.2.1.n, ([q.2.1.get 2, q.2.1.get 3] : List AV), q.2.2.1, q.2.2.2.2)) = some (.ret, 25, [(.ptr a2 0), (i64 20)], s6, [allocA E0 st 27 = some ((.ptr a2 0), s1), obC 42 [(.ptr e 0), (str ⟨#[104, 101, 97, 100]⟩)] s1 (.tup [v9a, (i64 n9b)]) s2, binA E0 .neq 3 (i64 n9b) (i64 0) = some FF, obC 14 [v9a] s2 (.tup [v18a, (i64 n18b)]) s3, allocA E0 s3 27 = some ((.ptr a6 0), s4), storeA E0 s4 27 (.ptr a6 0) v18a = some s5, binA E0 .neq 3 (i64 n18b) (i64 0) = some TT, buildA E0 27 [] = some v23, storeA E0 s5 27 (.ptr a2 0) v23 = some s6]) := by kernel_rfl
theorem f49_0_FT {e a2 a6 : Nat} {st s1 s2 s3 s4 s5 s6 : St} {v9a v18a v23 : AV} {n9b n18b : Int} (h1 : allocA E0 st 27 = some ((.ptr a2 0), s1)) (h2 : obC 42 [(.ptr e 0), (str ⟨#[104, 101, 97, 100]⟩)] s1 (.tup [v9a, (i64 n9b)]) s2) (h3 : binA E0 .neq 3 (i64 n9b) (i64 0) = some FF) (h4 : obC 14 [v9a] s2 (.tup [v18a, (i64 n18b)]) s3) (h5 : allocA E0 s3 27 = some ((.ptr a6 0), s4)) (h6 : storeA E0 s4 27 (.ptr a6 0) v18a = some s5) (h7 : binA E0 .neq 3 (i64 n18b) (i64 0) = some TT) (h8 : buildA E0 27 [] = some v23) (h9 : storeA E0 s5 27 (.ptr a2 0) v23 = some s6) {T : Tm} (hT : f49L0 T (.ptr e 0)) : AW Try.prog (f49P 0) (fun ex T' st' => ex = .ret ∧ f49L1 T' (.ptr a2 0) (i64 20) ∧ st' = s6) T st := by
  obtain ⟨hn, g0⟩ := hT
  exact (gen_run (G := fun T => ([T.get 2, T.get 3] : List AV)) hE (f49_0_FT_e e a2 a6 st s1 s2 s3 s4 s5 s6 v9a v18a v23 n9b n18b) (Ob.ok_cons.2 ⟨h1, (Ob.ok_cons.2 ⟨h2, (Ob.ok_cons.2 ⟨h3, (Ob.ok_cons.2 ⟨h4, (Ob.ok_cons.2 ⟨h5, (Ob.ok_cons.2 ⟨h6, (Ob.ok_cons.2 ⟨h7, (Ob.ok_cons.2 ⟨h8, (Ob.ok_cons.2 ⟨h9, Ob.ok_nil⟩)⟩)⟩)⟩)⟩)⟩)⟩)⟩)⟩) hn (one g0)).mono fun ex T' st' ⟨q1, q2, q3, q4⟩ => by simp only [List.cons.injEq, and_true] at q3; exact ⟨q1, ⟨q2, q3⟩, q4⟩
theorem f49_0_FF_e (e a2 a6 : Nat) (st s1 s2 s3 s4 s5 s6 : St) (v9a v18a v24 : AV) (n9b n18b : Int) : ((evS Try.prog E0 noOv noS 100000 [2002, 2006, 2024, 5000, 6014, 6042, 7013, 7014, 7022, 7023] (f49P 0) ⟨25, [(0, (.ptr e 0))], []⟩ st [.eff (.ptr a2 0) (fun _ => s1), .eff (.tup [v9a, (i64 n9b)]) (fun _ => s2), .av FF, .eff (.tup [v18a, (i64 n18b)]) (fun _ => s3), .eff (.ptr a6 0) (fun _ => s4), .eff .undef (fun _ => s5), .av FF, .eff v24 id, .eff .undef (fun _ => s6)]).map fun q => (q.1, q.2.1.n, ([q.2.1.get 2, q.2.1.get 3] : List AV), q.2.2.1, q.2.2.2.2)) = some (.ret, 25, [(.ptr a2 0), (i64 0)], s6, [allocA E0 st 27 = some ((.ptr a2 0), s1), obC 42 [(.ptr e 0), (str ⟨#[104, 101, 97, 100]⟩)] s1 (.tup [v9a, (i64 n9b)]) s2, binA E0 .neq 3 (i64 n9b) (i64 0) = some FF, obC 14 [v9a] s2 (.tup [v18a, (i64 n18b)]) s3, allocA E0 s3 27 = some ((.ptr a6 0), s4), storeA E0 s4 27 (.ptr a6 0) v18a = some s5, binA E0 .neq 3 (i64 n18b) (i64 0) = some FF, loadA E0 s5 27 (.ptr a6 0) = some v24 ∧ s5 = s5, storeA E0 s5 27 (.ptr a2 0) v24 = some s6]) := by kernel_rfl
theorem f49_0_FF {e a2 a6 : Nat} {st s1 s2 s3 s4 s5 s6 : St} {v9a v18a v24 : AV} {n9b n18b : Int} (h1 : allocA E0 st 27 = some ((.ptr a2 0), s1)) (h2 : obC 42 [(.ptr e 0), (str ⟨#[104, 101, 97, 100]⟩)] s1 (.tup [v9a, (i64 n9b)]) s2) (h3 : binA E0 .neq 3 (i64 n9b) (i64 0) = some FF) (h4 : obC 14 [v9a] s2 (.tup [v18a, (i64 n18b)]) s3) (h5 : allocA E0 s3 27 = some ((.ptr a6 0), s4)) (h6 : storeA E0 s4 27 (.ptr a6 0) v18a = some s5) (h7 : binA E0 .neq 3 (i64 n18b) (i64 0) = some FF) (h8 : loadA E0 s5 27 (.ptr a6 0) = some v24) (h9 : storeA E0 s5 27 (.ptr a2 0) v24 = some s6) {T : Tm} (hT : f49L0 T (.ptr e 0)) : AW Try.prog (f49P 0) (fun ex T' st' => ex = .ret ∧ f49L1 T' (.ptr a2 0) (i64 0) ∧ st' = s6) T st := by
  obtain ⟨hn, g0⟩ := hT
  exact (gen_run (G := fun T => ([T.get 2, T.get 3] : List AV)) hE (f49_0_FF_e e a2 a6 st s1 s2 s3 s4 s5 s6 v9a v18a v24 n9b n18b) (Ob.ok_cons.2 ⟨h1, (Ob.ok_cons.2 ⟨h2, (Ob.ok_cons.2 ⟨h3, (Ob.ok_cons.2 ⟨h4, (Ob.ok_cons.2 ⟨h5, (Ob.ok_cons.2 ⟨h6, (Ob.ok_cons.2 ⟨h7, (Ob.ok_cons.2 ⟨⟨h8, rfl⟩, (Ob.ok_cons.2 ⟨h9, Ob.ok_nil⟩)⟩)⟩)⟩)⟩)⟩)⟩)⟩)⟩) hn (one g0)).mono fun ex T' st' ⟨q1, q2, q3, q4⟩ => by simp only [List.cons.injEq, and_true] at q3; exact ⟨q1, ⟨q2, q3⟩, q4⟩
end
section
set_option maxRecDepth 4000
/-! ### the bytes on the document's disk are bytes -/
def KB (l : List RF) : Prop := ∀ g ∈ l, F.bytesP g.lb ∧ F.bytesP g.ob
theorem bytesP_nil : F.bytesP [] := fun x h => by cases h
theorem bytesP_app {a b : List Int} (h1 : F.bytesP a) (h2 : F.bytesP b) : F.bytesP (a ++ b) := fun x h => by
  rcases List.mem_append.1 h with h | h
  · exact h1 x h
  · exact h2 x h
theorem bytesP_take {a : List Int} (h : F.bytesP a) (n : Nat) : F.bytesP (a.take n) := fun x hx => h x (List.mem_of_mem_take hx)
theorem KB.put {l : List RF} (h : KB l) {g : RF} (hg : F.bytesP g.lb ∧ F.bytesP g.ob) : KB (putF l g) := fun x hx => by
  unfold putF at hx
  split at hx
  · rcases List.mem_or_eq_of_mem_set hx with hx | rfl
    · exact h x hx
    · exact hg
  · rcases List.mem_append.1 hx with hx | hx
    · exact h x (List.mem_of_mem_take hx)
    · rcases List.mem_cons.1 hx with rfl | hx
      · exact hg
      · exact h x (List.mem_of_mem_drop hx)
theorem KB.erase {l : List RF} (h : KB l) (i : Nat) : KB (l.eraseIdx i) := fun x hx => h x (List.mem_of_mem_eraseIdx hx)
theorem KB.set {l : List RF} (h : KB l) (i : Nat) {g : RF} (hg : F.bytesP g.lb ∧ F.bytesP g.ob) : KB (l.set i g) := fun x hx => by
  rcases List.mem_or_eq_of_mem_set hx with hx | rfl
  · exact h x hx
  · exact hg
theorem KB.create {r : RS} (h : KB r.F) (n : ByteArray) : KB (rCreate r n).2.F := by
  unfold rCreate
  split
  · exact h
  split
  · exact h
  split
  · exact h
  split
  · exact h
  · exact KB.put h ⟨bytesP_nil, bytesP_nil⟩
theorem KB.remove {r : RS} (h : KB r.F) (n : ByteArray) : KB (rRemove r n).2.F := by
  unfold rRemove
  split
  · exact h
  split
  · exact h
  · exact KB.erase h _
theorem KB.rename {r : RS} (h : KB r.F) (n n2 : ByteArray) : KB (rRename r n n2).2.F := by
  unfold rRename
  split
  · exact h
  split
  · exact h
  split
  · exact h
  split
  · exact h
  · split
    · rename_i g hg
      exact KB.put (KB.erase h _) (h g (List.mem_of_getElem? hg))
    · exact h
theorem KB.sync {r r' : RS} {n : ByteArray} (h : KB r.F) (hs : RSync r n r') : KB r'.F := by
  unfold RSync at hs
  split at hs
  · rw [hs]; exact h
  split at hs
  · rw [hs]; exact h
  · obtain ⟨g, g', h1, h2, h3, h4, _, _, h5⟩ := hs
    have := h g (List.mem_of_getElem? h1)
    rw [h5]
    exact KB.set h _ ⟨by rw [h3]; exact bytesP_app this.1 this.2, by rw [h4]; exact bytesP_nil⟩
theorem KB.append {r r' : RS} {n : ByteArray} {c : List Int} (h : KB r.F) (hc : F.bytesP c) (hs : RApp r n c r') : KB r'.F := by
  unfold RApp at hs
  split at hs
  · rw [hs]; exact h
  split at hs
  · rw [hs]; exact h
  split at hs
  · rw [hs]; exact h
  · obtain ⟨g, g', h1, h2, h3, h4, _, _, h5⟩ := hs
    have := h g (List.mem_of_getElem? h1)
    rw [h5]
    exact KB.set h _ ⟨by rw [h3]; exact this.1, by rw [h4]; exact bytesP_app this.2 hc⟩
theorem KB.keys {l l' : List RF} {ps : List Int} (h : KB l) (hk : l'.map key = crL ps 0 (l.map key)) : KB l' := by
  have gen : ∀ (M : List K) (k : Nat), (∀ x ∈ M, F.bytesP x.2.1 ∧ F.bytesP x.2.2) → ∀ x ∈ crL ps k M, F.bytesP x.2.1 ∧ F.bytesP x.2.2 := fun M => by
    induction M with
    | nil => intro k _ x hx; cases hx
    | cons f r ih =>
      intro k hM x hx
      simp only [crL] at hx
      rcases List.mem_cons.1 hx with rfl | hx
      · have := hM f (by simp)
        unfold crK
        split
        · exact this
        · exact ⟨bytesP_app this.1 (bytesP_take this.2 _), bytesP_nil⟩
      · exact ih _ (fun y hy => hM y (by simp [hy])) x hx
  intro g hg
  have := gen (l.map key) 0 (fun x hx => by obtain ⟨g, hg, rfl⟩ := List.mem_map.1 hx; exact h g hg) (key g) (by rw [← hk]; exact List.mem_map.2 ⟨g, hg, rfl⟩)
  exact this
/-! ### what the document's calls leave, can be left -/
theorem rapp_ex (r : RS) (n : ByteArray) (c : List Int) (hg : RGood r.F) : ∃ r', RApp r n c r' := by
  unfold RApp
  split
  · exact ⟨_, rfl⟩
  split
  · exact ⟨_, rfl⟩
  split
  · exact ⟨_, rfl⟩
  · rename_i h1 _ _
    obtain ⟨_, _, hh⟩ := thE_off (by simpa using h1)
    obtain ⟨g, hg1, _⟩ := hit_get hh
    exact ⟨_, g, ⟨g.name, g.lv, .imm 1 (g.ob ++ c).length false ((g.ob ++ c).map u8), g.lb, g.ob ++ c⟩, hg1, rfl, rfl, rfl, (hg g (List.mem_of_getElem? hg1)).1, .inr ⟨false, rfl⟩, rfl⟩
theorem rsync_ex (r : RS) (n : ByteArray) : ∃ r', RSync r n r' := by
  unfold RSync
  split
  · exact ⟨_, rfl⟩
  split
  · exact ⟨_, rfl⟩
  · rename_i h1 _
    obtain ⟨_, _, hh⟩ := thE_off (by simpa using h1)
    obtain ⟨g, hg1, _⟩ := hit_get hh
    exact ⟨_, g, ⟨g.name, .imm 1 (g.lb ++ g.ob).length false ((g.lb ++ g.ob).map u8), .nils, g.lb ++ g.ob, []⟩, hg1, rfl, rfl, rfl, .inr ⟨false, rfl⟩, .inl ⟨rfl, rfl⟩, rfl⟩
def nNew : ByteArray := ⟨#[104, 101, 97, 100, 46, 110, 101, 119]⟩
def nHead : ByteArray := ⟨#[104, 101, 97, 100]⟩
/-- what the program's Write does to its disk -/
def PW (s : PS) (sz : Int) (c : List Int) (er : Int) (s' : PS) : Prop :=
  if s.off = true then er = 8 ∧ s' = s else if putE sz ≠ 0 then er = putE sz ∧ s' = s else
  if (pCreate s nNew).1 ≠ 0 then er = (pCreate s nNew).1 ∧ s' = (pCreate s nNew).2 else
  ∃ s2, AppS (pCreate s nNew).2 nNew c s2 ∧ if appE (pCreate s nNew).2 nNew c ≠ 0 then er = appE (pCreate s nNew).2 nNew c ∧ s' = s2 else
  if (pSync s2 nNew).1 ≠ 0 then er = (pSync s2 nNew).1 ∧ s' = (pSync s2 nNew).2 else er = (pRename (pSync s2 nNew).2 nNew nHead).1 ∧ s' = (pRename (pSync s2 nNew).2 nNew nHead).2
def RW (r : RS) (sz : Int) (c : List Int) (er : Int) (r' : RS) : Prop :=
  if r.off = true then er = 8 ∧ r' = r else if putE sz ≠ 0 then er = putE sz ∧ r' = r else
  if (rCreate r nNew).1 ≠ 0 then er = (rCreate r nNew).1 ∧ r' = (rCreate r nNew).2 else
  ∃ r2, RApp (rCreate r nNew).2 nNew c r2 ∧ if rAppE (rCreate r nNew).2 nNew c ≠ 0 then er = rAppE (rCreate r nNew).2 nNew c ∧ r' = r2 else
  ∃ r3, RSync r2 nNew r3 ∧ if rSyncE r2 nNew ≠ 0 then er = rSyncE r2 nNew ∧ r' = r3 else er = (rRename r3 nNew nHead).1 ∧ r' = (rRename r3 nNew nHead).2
theorem sim_write {s s' : PS} {r r' : RS} (h : Sim s r) (hk : KB r.F) {sz er er' : Int} {c : List Int} (hc : F.bytesP c) (hp : PW s sz c er s') (hr : RW r sz c er' r') : er = er' ∧ Sim s' r' ∧ KB r'.F ∧ usedR r'.F ≤ usedR r.F + c.length := by
  unfold PW at hp
  unfold RW at hr
  rw [h.off] at hp
  split at hp
  · rename_i h0
    rw [if_pos h0] at hr
    obtain ⟨rfl, rfl⟩ := hp
    obtain ⟨rfl, rfl⟩ := hr
    exact ⟨rfl, h, hk, by omega⟩
  rename_i h0
  rw [if_neg h0] at hr
  split at hp
  · rename_i h1
    rw [if_pos h1] at hr
    obtain ⟨rfl, rfl⟩ := hp
    obtain ⟨rfl, rfl⟩ := hr
    exact ⟨rfl, h, hk, by omega⟩
  rename_i h1
  rw [if_neg h1] at hr
  obtain ⟨e1, S1⟩ := sim_create h nNew
  have U1 := used_rCreate h nNew
  have K1 := KB.create hk nNew
  rw [e1] at hp
  split at hp
  · rename_i h2
    rw [if_pos h2] at hr
    obtain ⟨rfl, rfl⟩ := hp
    obtain ⟨rfl, rfl⟩ := hr
    exact ⟨rfl, S1, K1, by omega⟩
  rename_i h2
  rw [if_neg h2] at hr
  obtain ⟨s2, a1, a2⟩ := hp
  obtain ⟨r2, b1, b2⟩ := hr
  obtain ⟨e2, S2, U2⟩ := sim_append S1 nNew c a1 b1
  have K2 := KB.append K1 hc b1
  rw [e2] at a2
  split at a2
  · rename_i h3
    rw [if_pos h3] at b2
    obtain ⟨rfl, rfl⟩ := a2
    obtain ⟨rfl, rfl⟩ := b2
    exact ⟨rfl, S2, K2, by omega⟩
  rename_i h3
  rw [if_neg h3] at b2
  obtain ⟨r3, c1, c2⟩ := b2
  obtain ⟨e3, S3⟩ := sim_sync S2 nNew c1
  have U3 := used_rSync c1
  have K3 := KB.sync K2 c1
  rw [e3] at a2
  split at a2
  · rename_i h4
    rw [if_pos h4] at c2
    obtain ⟨rfl, rfl⟩ := a2
    obtain ⟨rfl, rfl⟩ := c2
    exact ⟨rfl, S3, K3, by omega⟩
  rename_i h4
  rw [if_neg h4] at c2
  obtain ⟨e4, S4⟩ := sim_rename S3 nNew nHead
  have U4 := used_rRename S3 nNew nHead
  obtain ⟨rfl, rfl⟩ := a2
  obtain ⟨rfl, rfl⟩ := c2
  exact ⟨e4, S4, KB.rename K3 _ _, by omega⟩
end
section
set_option maxRecDepth 4000
theorem avc_head (s t : Int) (r g : Nat → Int) : avCells (.agg (F.headCells s t r g)) = some (F.headCells s t r g) := by kernel_rfl
theorem head_len (s t : Int) (r g : Nat → Int) : (F.headCells s t r g).length = 98 := by simp [F.headCells, F.rootL, F.sigL]
theorem part27 {cs vs : List AV} {off : Nat} (h : (vs.drop off).take 98 = cs) (hl : off + 98 ≤ vs.length) : partA E0 27 vs off = some (.agg cs) := by
  have hp : (E0.ty 27).map (fun i => (isAggD i.desc, i.size)) = some (true, 98) := by kernel_rfl
  obtain ⟨i, h1, h2⟩ := Option.map_eq_some_iff.1 hp
  simp only [Prod.mk.injEq] at h2
  simp only [partA, h1, h2.1, h2.2, if_true]
  rw [if_pos hl, h]
theorem ld27 {st : St} {j : Nat} {s t : Int} {r g : Nat → Int} {ty : Nat} (h : st.get j = some (.row (F.headCells s t r g) ty)) : loadA E0 st 27 (.ptr j 0) = some (.agg (F.headCells s t r g)) :=
  load_row h (part27 (by rw [List.drop_zero, List.take_of_length_le (by rw [head_len]; omega)]) (by rw [head_len]; omega))
theorem ty41w : ∃ i, E0.ty 41 = some i ∧ isAggD i.desc = false := ⟨_, rfl, by kernel_rfl⟩
theorem ty98 : ∃ i, E0.ty 98 = some i ∧ isAggD i.desc = false := ⟨_, rfl, by kernel_rfl⟩
def fnRow (b c : Nat) : List AV := [.fn (.func 59) [] [.ptr b 0], .fn (.func 60) [] [.ptr b 0, .ptr c 0], .fn (.func 61) [] [.ptr b 0], .fn (.func 62) [] [.ptr b 0]]
theorem bs99 (st : St) (b c : Nat) : buildSliceA E0 st 99 4 [(0, .fn (.func 59) [] [.ptr b 0]), (1, .fn (.func 60) [] [.ptr b 0, .ptr c 0]), (2, .fn (.func 61) [] [.ptr b 0]), (3, .fn (.func 62) [] [.ptr b 0])] = some (.sl st.next 1 0 4 true, st.push (.row (fnRow b c) 98)) := by kernel_rfl
theorem len99 (j : Nat) : lenA E0 99 (.sl j 1 0 4 true) = some (i64 4) := by kernel_rfl
theorem idx99 {j i : Nat} (h : i < 4) : indexAddrA E0 99 (.sl j 1 0 4 true) (i64 i) = some (.ptr j i) := by
  obtain ⟨q, h1, h2⟩ : ∃ q, E0.ty 99 = some q ∧ q.desc = .slice 98 := ⟨_, rfl, by kernel_rfl⟩
  have h3 : tySize E0 98 = some 1 := by kernel_rfl
  simp only [indexAddrA, h1, h2, h3]
  rw [if_pos ⟨trivial, by omega, by omega⟩, Nat.zero_add, Nat.mul_one]
  rfl
/-- what the closures need -/
structure WK (z : St) (d b c fs : Nat) (fv : AV) : Prop where
  hb : z.get b = some (.row [.ptr d 0] 41)
  hc : z.get c = some (.row [fv] 28)
  hf : z.get fs = some (.row (fnRow b c) 98)
theorem WK.keep {z z' : St} {d m b c fs : Nat} {fv : AV} {bs : List Int} {s : PS} (h : WK z d b c fs fv) (hp : PDs z d m s) (hv : BV fv bs) (hr : RestF z z' [d, m]) : WK z' d b c fs fv := by
  obtain ⟨bb, cc, hm⟩ := hp.map
  have far : ∀ {j vs ty}, z.get j = some (.row vs ty) → ty ≠ 103 → j ∉ [d, m] := fun hj ht => by
    simp only [List.mem_cons, List.not_mem_nil, or_false, not_or]
    exact ⟨row_ne hj hp.row ht, map_ne_row hm hj⟩
  refine ⟨hr.keep _ _ (far h.hb (by decide)) h.hb (fun id vs _ => rfl), hr.keep _ _ (far h.hc (by decide)) h.hc (fun id vs _ => ?_), hr.keep _ _ (far h.hf (by decide)) h.hf (fun id vs _ => rfl)⟩
  show AObj.row (frzL id vs [fv]) 28 = _
  have : frz id vs fv = fv := by
    rcases hv with ⟨_, h⟩ | ⟨fl, h⟩
    · rw [h]; rfl
    · rw [h]; simp only [frz, frz_u8]
  simp only [frzL, this]
/-- the loop ends by a return -/
theorem AW.turnsRet {P : Program} {body : Code} {id : Nat} {In : Nat → Tm → Prop} {L : Tm → Prop} {c : Nat → St} {n : Nat} {T : Tm} {st sf : St} (h0 : st = c 0) (hT : In 0 T)
    (turn : ∀ i, i < n → ∀ T, In i T → AW P body (fun ex T' st' => ex = .normal ∧ In (i + 1) T' ∧ st' = c (i + 1)) T (c i))
    (fin : ∀ T, In n T → AW P body (fun ex T' st' => ex = .ret ∧ L T' ∧ st' = sf) T (c n)) :
    AW P (.block id (.loop body)) (fun ex T' st' => ex = .ret ∧ L T' ∧ st' = sf) T st := by
  subst h0
  refine .block ((AW.loop (fun m T st' => ∃ i : Nat, i ≤ n ∧ m = n - i ∧ st' = c i ∧ In i T) (Q := fun ex T' st' => ex = .ret ∧ L T' ∧ st' = sf) n ⟨0, by omega, rfl, rfl, hT⟩ fun m T st' hI => ?_).mono fun ex T' st' ⟨h1, h2, h3⟩ => ?_)
  · obtain ⟨i, hi, rfl, rfl, hin⟩ := hI
    by_cases hlt : i < n
    · refine (turn i hlt T hin).mono fun ex T' st2 ⟨he, hin', hst⟩ => ?_
      subst he
      exact ⟨n - (i + 1), by omega, i + 1, by omega, rfl, hst, hin'⟩
    · obtain rfl : i = n := by omega
      refine (fin T hin).mono fun ex T' st2 ⟨he, hL, hst⟩ => ?_
      subst he
      exact ⟨rfl, hL, hst⟩
  · subst h1
    exact ⟨rfl, h2, h3⟩
theorem AW.seqRet {P : Program} {a b : Code} {Q : Exit → Tm → St → Prop} {L : Tm → Prop} {T : Tm} {st s : St} (h : AW P a (fun ex T' st' => ex = .ret ∧ L T' ∧ st' = s) T st) (k : ∀ T', L T' → Q .ret T' s) : AW P (.seq a b) Q T st := .retThen h k
theorem ready58 {st : St} {d m : Nat} {s : PS} (hp : PDs st d m s) : obC 58 [.ptr d 0] st (i64 (if s.off = true then 8 else 0)) st := by
  have h := off_ok hp
  cases ho : s.off with
  | true => rw [ho] at h; simp only [if_true]; exact f58_T h
  | false => rw [ho] at h; simp only [Bool.false_eq_true, if_false]; exact f58_F h
end
section
set_option maxRecDepth 4000
theorem ldD {z : St} {b d : Nat} (h : z.get b = some (.row [.ptr d 0] 41)) : loadA E0 z 41 (.ptr b 0) = some (.ptr d 0) := by
  obtain ⟨i, h1, h2⟩ := ty41w
  exact load_row h (plainT h1 h2 rfl)
theorem ldF {z : St} {b c fs i : Nat} {a : AV} (h : z.get fs = some (.row (fnRow b c) 98)) (hi : (fnRow b c)[i]? = some a) : loadA E0 z 98 (.ptr fs i) = some a := by
  obtain ⟨q, h1, h2⟩ := ty98
  exact load_row h (plainT h1 h2 hi)
/-- the program's Write -/
theorem write_ok {st : St} {d m : Nat} {s : PS} {r : RS} {sz t : Int} {rt gg : Nat → Int} (hS : Sim s r) (hu : usedR r.F + 120 < 1000000000) (hp : PDs st d m s) (hw : st.wf) (hl : st.lock = []) (h : HR sz t rt gg) :
    ∃ st' er s', obC 18 [.ptr d 0, .agg (F.headCells sz t rt gg)] st (i64 er) st' ∧ PDs st' d m s' ∧ RestF st st' [d, m] ∧ PW s sz (putB sz t rt gg) er s' := by
  -- what the call lays down for itself
  have R1 := Rest.push hw (.row [.ptr d 0] 41) []
  have g1 : (st.push (.row [.ptr d 0] 41)).get st.next = some (.row [.ptr d 0] 41) := by rw [St.get_push, if_pos rfl]
  have l1 : (st.push (.row [.ptr d 0] 41)).lock = [] := hl
  have b1 : boxA st 41 (.ptr d 0) = some (.ptr st.next 0, st.push (.row [.ptr d 0] 41)) := rfl
  generalize st.push (.row [.ptr d 0] 41) = z1 at *
  have R2 := Rest.push R1.wf (.row (F.headCells sz t rt gg) 27) []
  have g2 : (z1.push (.row (F.headCells sz t rt gg) 27)).get z1.next = some (.row (F.headCells sz t rt gg) 27) := by rw [St.get_push, if_pos rfl]
  have l2 : (z1.push (.row (F.headCells sz t rt gg) 27)).lock = [] := l1
  have b2 : boxA z1 27 (.agg (F.headCells sz t rt gg)) = some (.ptr z1.next 0, z1.push (.row (F.headCells sz t rt gg) 27)) := by simp only [boxA, avc_head]
  generalize z1.push (.row (F.headCells sz t rt gg) 27) = z2 at *
  have R02 := R1.trans R2
  have hp2 := PD.rest hp R02
  have gb2 := R2.keep _ _ (by simp) g1
  have hrd := ready58 hp2
  have start : ∀ {Q : AV → St → Prop}, (∀ T, f18L1 T (.ptr st.next 0) (.ptr z1.next 0) → AW Try.prog (.seq (f18P 1) (.seq (f18P 2) (.seq (f18P 3) (.seq (.seq (f18P 4) (.block 0 (.loop (f18P 5)))) (f18P 6))))) (endA E0 Try.f18 Q) T z2) → ACalls Try.prog 18 [.ptr d 0, .agg (F.headCells sz t rt gg)] Q st := fun k => by
    refine ACalls.body (E := E0) hE Try.func18 f18body ?_
    exact .andThen (f18_0 (d := d) (hv := .agg (F.headCells sz t rt gg)) b1 b2 ⟨rfl, rfl, rfl⟩) k
  have retv : ∀ {T : Tm} {z : St} {e : Int}, f18L2 T (i64 e) → endA E0 Try.f18 (fun r s => r = i64 e ∧ s = z) .ret T z := fun {T z e} hT => ⟨[i64 e], by show some [T.get 4] = _; rw [hT.2], rfl, rfl⟩
  unfold PW
  by_cases ho : s.off = true
  · simp only [if_pos ho] at hrd ⊢
    exact ⟨z2, 8, s, start fun T hT => .seqRet (f18_1_T (ldD gb2) hrd (neqT (by decide)) hT) fun T' h' => retv h', hp2, (R02.f).weak (by simp), rfl, rfl⟩
  simp only [if_neg ho] at hrd ⊢
  obtain ⟨fv, z3, k3, hfv, R3⟩ := hput_ok (.inl rfl) h R02.wf
  have R03 := R02.trans R3
  have l3 : z3.lock = [] := R3.lock.trans l2
  obtain ⟨zr, hzr, hzl⟩ : ∃ q : List AV, zeroA E0 28 = some q ∧ q.length = 1 := by
    have h : (zeroA E0 28).map List.length = some 1 := by kernel_rfl
    obtain ⟨q, a, b⟩ := Option.map_eq_some_iff.1 h
    exact ⟨q, a, b⟩
  have ga : (z3.push (.row zr 28)).get z3.next = some (.row zr 28) := by rw [St.get_push, if_pos rfl]
  have Ra := Rest.push R3.wf (.row zr 28) []
  have hal : allocA E0 z3 28 = some (.ptr z3.next 0, z3.push (.row zr 28)) := by simp only [allocA, hzr]
  have hst : storeA E0 (z3.push (.row zr 28)) 28 (.ptr z3.next 0) fv = some ((z3.push (.row zr 28)).set z3.next (.row [fv] 28)) := by
    have hwg := St.wget_of ga (show z3.next ∉ (z3.push (.row zr 28)).lock by show z3.next ∉ z3.lock; rw [l3]; simp)
    have hcs : avCells fv = some [fv] := by rcases hfv with ⟨_, h⟩ | ⟨fl, h⟩ <;> rw [h] <;> rfl
    have hsz : tySize E0 28 = some 1 := by kernel_rfl
    simp only [storeA, hcs, hwg, hsz]
    rw [if_pos ⟨rfl, by simp [hzl]⟩]
    have hd : List.drop 1 zr = [] := List.drop_of_length_le (by omega)
    simp [hd]
  have R4 : Rest z3 ((z3.push (.row zr 28)).set z3.next (.row [fv] 28)) [] := Ra.old (Rest.set Ra.wf (Ra.wf _ _ ga) _ (S := [z3.next]) (by simp)) (by simp) R3.wf
  have g4 : ((z3.push (.row zr 28)).set z3.next (.row [fv] 28)).get z3.next = some (.row [fv] 28) := by rw [St.get_set, if_pos rfl]
  have l4 : ((z3.push (.row zr 28)).set z3.next (.row [fv] 28)).lock = [] := l3
  generalize (z3.push (.row zr 28)).set z3.next (.row [fv] 28) = z4 at *
  have R04 := R03.trans R4
  have hput : ∀ {T : Tm}, f18L1 T (.ptr st.next 0) (.ptr z1.next 0) → AW Try.prog (f18P 2) (fun ex T' st' => ex = .normal ∧ f18L3 T' (.ptr st.next 0) (.ptr z3.next 0) (i64 (putE sz)) ∧ st' = z4) T z2 := fun hT => f18_2 (b := st.next) (ld27 g2) k3 hal hst hT
  by_cases hpe : putE sz ≠ 0
  · simp only [if_pos hpe]
    exact ⟨z4, putE sz, s, start fun T hT => .andThen (f18_1_F (ldD gb2) hrd (neqF rfl) hT) fun T1 h1 => .andThen (hput h1) fun T2 h2 => .seqRet (f18_3_T (neqT hpe) h2) fun T' h' => retv h', PD.rest hp R04, (R04.f).weak (by simp), rfl, rfl⟩
  simp only [if_neg hpe]
  have hpe0 : putE sz = 0 := by simpa using hpe
  -- the closures
  have R5 := Rest.push R4.wf (.row (fnRow st.next z3.next) 98) []
  have g5 : (z4.push (.row (fnRow st.next z3.next) 98)).get z4.next = some (.row (fnRow st.next z3.next) 98) := by rw [St.get_push, if_pos rfl]
  have l5 : (z4.push (.row (fnRow st.next z3.next) 98)).lock = [] := l4
  have b5 := bs99 z4 st.next z3.next
  generalize z4.push (.row (fnRow st.next z3.next) 98) = z5 at *
  have R05 := R04.trans R5
  have hp5 := PD.rest hp R05
  have W5 : WK z5 d st.next z3.next z4.next fv := ⟨(R2.trans (R3.trans (R4.trans R5))).keep _ _ (by simp) g1, R5.keep _ _ (by simp) g4, g5⟩
  have pre : ∀ {Q : AV → St → Prop}, (∀ T, f18L5 T (.sl z4.next 1 0 4 true) (i64 4) (i64 (0 : Nat)) → AW Try.prog (.block 0 (.loop (f18P 5))) (thenA (AW Try.prog (f18P 6) (endA E0 Try.f18 Q)) (endA E0 Try.f18 Q)) T z5) → ACalls Try.prog 18 [.ptr d 0, .agg (F.headCells sz t rt gg)] Q st := fun k =>
    start fun T hT => .andThen (f18_1_F (ldD gb2) hrd (neqF rfl) hT) fun T1 h1 => .andThen (hput h1) fun T2 h2 => .andThen (f18_3_F (neqF hpe0) h2) fun T3 h3 => .seq (.andThen (f18_4 b5 (len99 _) h3) fun T4 h4 => k T4 h4)
  have early : ∀ {c : Nat → St} {n : Nat} {sf : St} {e : Int}, z5 = c 0 → (∀ i, i < n → ∀ T, f18L5 T (.sl z4.next 1 0 4 true) (i64 4) (i64 i) → AW Try.prog (f18P 5) (fun ex T' st' => ex = .normal ∧ f18L5 T' (.sl z4.next 1 0 4 true) (i64 4) (i64 ((i + 1 : Nat) : Int)) ∧ st' = c (i + 1)) T (c i)) →
      (∀ T, f18L5 T (.sl z4.next 1 0 4 true) (i64 4) (i64 n) → AW Try.prog (f18P 5) (fun ex T' st' => ex = .ret ∧ f18L2 T' (i64 e) ∧ st' = sf) T (c n)) → obC 18 [.ptr d 0, .agg (F.headCells sz t rt gg)] st (i64 e) sf := fun {c n sf e} h0 ht hf =>
    pre fun T hT => (AW.turnsRet (In := fun i T => f18L5 T (.sl z4.next 1 0 4 true) (i64 4) (i64 i)) (L := fun T => f18L2 T (i64 e)) h0 hT ht hf).mono fun ex T' st' ⟨q1, q2, q3⟩ => by
      subst q1; subst q3
      exact retv q2
  -- Create
  obtain ⟨y1, c1, p1, Q1⟩ := create_ok hp5 R05.wf l5 hS.fub nNew
  obtain ⟨_, S1⟩ := sim_create hS nNew
  have U1 := used_rCreate hS nNew
  have t0 : obC 59 [.ptr st.next 0] z5 (i64 (pCreate s nNew).1) y1 := f59 (ldD W5.hb) c1
  by_cases e1 : (pCreate s nNew).1 ≠ 0
  · simp only [if_pos e1]
    exact ⟨y1, _, _, early (c := fun _ => z5) (n := 0) rfl (fun i hi => by omega) fun T hT => f18_59__5_TT (b := st.next) (lssT (by omega)) (idx99 (i := 0) (by omega)) (ldF W5.hf rfl) t0 (neqT e1) hT, p1, (R05.f.weak (by simp)).trans Q1.f, rfl, rfl⟩
  simp only [if_neg e1]
  have e10 : (pCreate s nNew).1 = 0 := by simpa using e1
  have v1 : y1.lock = [] := Q1.lock.trans l5
  have W1 := W5.keep hp5 hfv Q1.f
  have turn0 : ∀ T, f18L5 T (.sl z4.next 1 0 4 true) (i64 4) (i64 (0 : Nat)) → AW Try.prog (f18P 5) (fun ex T' st' => ex = .normal ∧ f18L5 T' (.sl z4.next 1 0 4 true) (i64 4) (i64 ((0 + 1 : Nat) : Int)) ∧ st' = y1) T z5 := fun T hT => f18_59__5_TF (b := st.next) (lssT (by omega)) (idx99 (i := 0) (by omega)) (ldF W5.hf rfl) t0 (neqF e10) (add64 (by omega)) hT
  -- Append
  have hxa : ArgB y1 fv (putB sz t rt gg) := by
    rcases hfv with h | h
    · exact .inl h
    · exact .inr (.inl h)
  have hbl : (putB sz t rt gg).length ≤ 120 := by unfold putB; split <;> simp [F.form_len]
  obtain ⟨y2, s2, c2, p2, Q2, A2⟩ := append_ok p1 Q1.wf v1 S1.g (by rw [S1.used]; omega) S1.qb nNew hxa (by omega)
  obtain ⟨r2, hr2⟩ := rapp_ex (rCreate r nNew).2 nNew (putB sz t rt gg) S1.rgood
  obtain ⟨_, S2, U2⟩ := sim_append S1 nNew _ A2 hr2
  have t1 : obC 60 [.ptr st.next 0, .ptr z3.next 0] y1 (i64 (appE (pCreate s nNew).2 nNew (putB sz t rt gg))) y2 := f60 (ldD W1.hb) (load_row W1.hc (p28 rfl)) c2
  suffices hh : ∃ st' er s', obC 18 [.ptr d 0, .agg (F.headCells sz t rt gg)] st (i64 er) st' ∧ PDs st' d m s' ∧ RestF st st' [d, m] ∧ (if appE (pCreate s nNew).2 nNew (putB sz t rt gg) ≠ 0 then er = appE (pCreate s nNew).2 nNew (putB sz t rt gg) ∧ s' = s2 else if (pSync s2 nNew).1 ≠ 0 then er = (pSync s2 nNew).1 ∧ s' = (pSync s2 nNew).2 else er = (pRename (pSync s2 nNew).2 nNew nHead).1 ∧ s' = (pRename (pSync s2 nNew).2 nNew nHead).2) by
    obtain ⟨q1, q2, q3, q4, q5, q6, q7⟩ := hh
    exact ⟨q1, q2, q3, q4, q5, q6, s2, A2, q7⟩
  by_cases e2 : appE (pCreate s nNew).2 nNew (putB sz t rt gg) ≠ 0
  · simp only [if_pos e2]
    exact ⟨y2, _, _, early (c := fun i => if i = 0 then z5 else y1) (n := 1) rfl (fun i hi T hT => by
      have h0 : i = 0 := (by omega)
      subst h0
      exact turn0 T hT) fun T hT => f18_60__5_TT (b := st.next) (c := z3.next) (lssT (by omega)) (idx99 (i := 1) (by omega)) (ldF W1.hf rfl) t1 (neqT e2) hT, p2, ((R05.f.weak (by simp)).trans Q1.f).trans Q2, rfl, rfl⟩
  simp only [if_neg e2]
  have e20 : appE (pCreate s nNew).2 nNew (putB sz t rt gg) = 0 := by simpa using e2
  have v2 : y2.lock = [] := Q2.lock.trans v1
  have W2 := W1.keep p1 hfv Q2
  have turn1 : ∀ T, f18L5 T (.sl z4.next 1 0 4 true) (i64 4) (i64 (1 : Nat)) → AW Try.prog (f18P 5) (fun ex T' st' => ex = .normal ∧ f18L5 T' (.sl z4.next 1 0 4 true) (i64 4) (i64 ((1 + 1 : Nat) : Int)) ∧ st' = y2) T y1 := fun T hT => f18_60__5_TF (b := st.next) (c := z3.next) (lssT (by omega)) (idx99 (i := 1) (by omega)) (ldF W1.hf rfl) t1 (neqF e20) (add64 (by omega)) hT
  -- Sync
  obtain ⟨y3, c3, p3, Q3⟩ := sync_ok p2 Q2.wf v2 S2.g nNew
  obtain ⟨r3, hr3⟩ := rsync_ex r2 nNew
  obtain ⟨_, S3⟩ := sim_sync S2 nNew hr3
  have t2 : obC 61 [.ptr st.next 0] y2 (i64 (pSync s2 nNew).1) y3 := f61 (ldD W2.hb) c3
  by_cases e3 : (pSync s2 nNew).1 ≠ 0
  · simp only [if_pos e3]
    refine ⟨y3, _, _, early (c := fun i => if i = 0 then z5 else if i = 1 then y1 else y2) (n := 2) rfl (fun i hi T hT => ?_) fun T hT => f18_61__5_TT (b := st.next) (lssT (by omega)) (idx99 (i := 2) (by omega)) (ldF W2.hf rfl) t2 (neqT e3) hT, p3, (((R05.f.weak (by simp)).trans Q1.f).trans Q2).trans Q3.f, rfl, rfl⟩
    have : i = 0 ∨ i = 1 := by omega
    rcases this with rfl | rfl
    · exact turn0 T hT
    · exact turn1 T hT
  simp only [if_neg e3]
  have e30 : (pSync s2 nNew).1 = 0 := by simpa using e3
  have v3 : y3.lock = [] := Q3.lock.trans v2
  have W3 := W2.keep p2 hfv Q3.f
  have turn2 : ∀ T, f18L5 T (.sl z4.next 1 0 4 true) (i64 4) (i64 (2 : Nat)) → AW Try.prog (f18P 5) (fun ex T' st' => ex = .normal ∧ f18L5 T' (.sl z4.next 1 0 4 true) (i64 4) (i64 ((2 + 1 : Nat) : Int)) ∧ st' = y3) T y2 := fun T hT => f18_61__5_TF (b := st.next) (lssT (by omega)) (idx99 (i := 2) (by omega)) (ldF W2.hf rfl) t2 (neqF e30) (add64 (by omega)) hT
  -- Rename
  obtain ⟨y4, c4, p4, Q4⟩ := rename_ok p3 Q3.wf v3 S3.g nNew nHead
  have t3 : obC 62 [.ptr st.next 0] y3 (i64 (pRename (pSync s2 nNew).2 nNew nHead).1) y4 := f62 (ldD W3.hb) c4
  have RR := ((((R05.f.weak (by simp)).trans Q1.f).trans Q2).trans Q3.f).trans Q4.f
  have turns : ∀ i : Nat, i < 3 → ∀ T, f18L5 T (.sl z4.next 1 0 4 true) (i64 4) (i64 i) → AW Try.prog (f18P 5) (fun ex T' st' => ex = .normal ∧ f18L5 T' (.sl z4.next 1 0 4 true) (i64 4) (i64 ((i + 1 : Nat) : Int)) ∧ st' = (if i + 1 = 0 then z5 else if i + 1 = 1 then y1 else if i + 1 = 2 then y2 else if i + 1 = 3 then y3 else y4)) T (if i = 0 then z5 else if i = 1 then y1 else if i = 2 then y2 else if i = 3 then y3 else y4) := fun i hi T hT => by
    have : i = 0 ∨ i = 1 ∨ i = 2 := by omega
    rcases this with rfl | rfl | rfl
    · exact turn0 T hT
    · exact turn1 T hT
    · exact turn2 T hT
  by_cases e4 : (pRename (pSync s2 nNew).2 nNew nHead).1 ≠ 0
  · exact ⟨y4, _, _, early (c := fun i => if i = 0 then z5 else if i = 1 then y1 else if i = 2 then y2 else if i = 3 then y3 else y4) (n := 3) rfl turns fun T hT => f18_62__5_TT (b := st.next) (lssT (by omega)) (idx99 (i := 3) (by omega)) (ldF W3.hf rfl) t3 (neqT e4) hT, p4, RR, rfl, rfl⟩
  have e40 : (pRename (pSync s2 nNew).2 nNew nHead).1 = 0 := by simpa using e4
  refine ⟨y4, _, _, ?_, p4, RR, rfl, rfl⟩
  rw [e40]
  refine pre fun T hT => (AW.turns (In := fun i T => f18L5 T (.sl z4.next 1 0 4 true) (i64 4) (i64 i)) (L := fun T => f18L6 T) (c := fun i => if i = 0 then z5 else if i = 1 then y1 else if i = 2 then y2 else if i = 3 then y3 else y4) (n := 4) (sf := y4) rfl hT (fun i hi T hT => ?_) fun T hT => f18_59__5_F (lssF (by omega)) hT).mono fun ex T' st' ⟨q1, q2, q3⟩ => ?_
  · have : i < 3 ∨ i = 3 := by omega
    rcases this with hi | rfl
    · exact turns i hi T hT
    · exact f18_62__5_TF (b := st.next) (lssT (by omega)) (idx99 (i := 3) (by omega)) (ldF W3.hf rfl) t3 (neqF e40) (add64 (by omega)) hT
  · subst q1; subst q3
    exact .atRet (f18_6 q2) fun T9 h9 => retv h9
end
section
set_option maxRecDepth 4000
/-- all but the document's disk stays -/
structure KeepR (st st' : St) (e : Nat) : Prop where
  keep : ∀ j o, j ≠ e → (∀ vs, o ≠ .row vs 121) → st.get j = some o → Calm st.next o → st'.get j = some o
  next : st.next ≤ st'.next
  lock : st'.lock = st.lock
  gl : st'.gl = st.gl
  wf : st'.wf
theorem KeepR.trans {a b c : St} {e : Nat} (h : KeepR a b e) (k : KeepR b c e) : KeepR a c e :=
  ⟨fun j o h1 h2 h3 h4 => k.keep j o h1 h2 (h.keep j o h1 h2 h3 h4) (h4.mono h.next), Nat.le_trans h.next k.next, k.lock.trans h.lock, k.gl.trans h.gl, k.wf⟩
theorem RD.fid_row {st : St} {e : Nat} {fv : AV} {r : RS} (h : RD st e fv r) : ∀ i ∈ fid fv, ∃ vs, st.get i = some (.row vs 121) := fun i hi => by
  rcases h.fv with ⟨_, h⟩ | ⟨_, f, fl, h, hg⟩
  · rw [h] at hi; cases hi
  · rw [h] at hi
    simp only [fid, List.mem_singleton] at hi
    subst hi
    exact ⟨_, hg⟩
theorem RestF.keepR {st st' : St} {e : Nat} {fv : AV} {r : RS} (h : RestF st st' (e :: fid fv)) (hr : RD st e fv r) : KeepR st st' e :=
  ⟨fun j o h1 h2 h3 h4 => h.keep j o (fun hm => by
    rcases List.mem_cons.1 hm with hm | hm
    · exact h1 hm
    · obtain ⟨vs, hv⟩ := hr.fid_row j hm
      rw [h3] at hv
      exact h2 vs (by simpa using hv)) h3 h4, h.next, h.lock, h.gl, h.wf⟩
theorem Rest.keepR {st st' : St} (h : Rest st st' []) (e : Nat) : KeepR st st' e :=
  ⟨fun j o _ _ h3 _ => h.keep j o (by simp) h3, h.next, h.lock, h.gl, h.wf⟩
theorem papp_ex {s : PS} {r : RS} (h : Sim s r) (n : ByteArray) (c : List Int) : ∃ s', AppS s n c s' := by
  unfold AppS
  split
  · exact ⟨_, rfl⟩
  split
  · exact ⟨_, rfl⟩
  split
  · exact ⟨_, rfl⟩
  · rename_i h1 _ _
    obtain ⟨k, f, h2, h3, h4⟩ := rd0_find h1
    exact ⟨_, k, f, .imm 1 (f.bytes ++ c).length false ((f.bytes ++ c).map u8), h2, h3, h4, .inr ⟨false, rfl⟩, rfl⟩
theorem nNew_size : nNew.size ≤ 1000000000000 := by decide
theorem nHead_size : nHead.size ≤ 1000000000000 := by decide
/-- the document's Write -/
theorem rwrite_ok {st : St} {e : Nat} {fv : AV} {s : PS} {r : RS} {sz t : Int} {rt gg : Nat → Int} (hS : Sim s r) (hu : usedR r.F + 120 < 1000000000) (hr : RD st e fv r) (hw : st.wf) (hl : st.lock = []) (h : HR sz t rt gg) :
    ∃ st' er r' fv', obC 48 [.ptr e 0, .agg (F.headCells sz t rt gg)] st (i64 er) st' ∧ RD st' e fv' r' ∧ KeepR st st' e ∧ RW r sz (putB sz t rt gg) er r' := by
  have hlen := hS.len
  have hfu : ∀ {s : PS} {r : RS}, Sim s r → 0 ≤ r.fu ∧ r.fu ≤ 9223372036854775807 := fun h => by rw [← h.fu]; exact h.fub
  have R1 := Rest.push hw (.row (F.headCells sz t rt gg) 27) []
  have g1 : (st.push (.row (F.headCells sz t rt gg) 27)).get st.next = some (.row (F.headCells sz t rt gg) 27) := by rw [St.get_push, if_pos rfl]
  have b1 : boxA st 27 (.agg (F.headCells sz t rt gg)) = some (.ptr st.next 0, st.push (.row (F.headCells sz t rt gg) 27)) := by simp only [boxA, avc_head]
  have l1 : (st.push (.row (F.headCells sz t rt gg) 27)).lock = [] := hl
  generalize st.push (.row (F.headCells sz t rt gg) 27) = z1 at *
  have q1 := hr.rest R1 (by simp) (by simp)
  have o1 : loadA E0 z1 4 (.ptr e 3) = some (bo r.off) := load_row q1.row (p4 rfl)
  unfold RW
  cases ho : r.off with
  | true =>
    rw [ho] at o1
    simp only [if_true]
    exact ⟨z1, 8, r, fv, f48_T b1 o1, q1, R1.keepR e, rfl, rfl⟩
  | false =>
  rw [ho] at o1
  simp only [Bool.false_eq_true, if_false]
  obtain ⟨v, z2, k2, hv, R2⟩ := hput_ok (.inr rfl) h R1.wf
  have q2 := q1.rest R2 (by simp) (by simp)
  have l2 : z2.lock = [] := R2.lock.trans l1
  by_cases e0 : putE sz ≠ 0
  · simp only [if_pos e0]
    exact ⟨z2, _, r, fv, f48_FT b1 o1 (ld27 g1) k2 (neqT e0), q2, (R1.trans R2).keepR e, rfl, rfl⟩
  simp only [if_neg e0]
  have e00 : putE sz = 0 := by simpa using e0
  obtain ⟨z3, fv3, k3, q3, R3⟩ := rcreate_ok q2 R2.wf l2 (by omega) (hfu hS) nNew_size
  have S1 := (sim_create hS nNew).2
  have U1 := used_rCreate hS nNew
  have K3 := ((R1.trans R2).keepR e).trans (R3.f.keepR q2)
  have l3 : z3.lock = [] := R3.lock.trans l2
  by_cases e1 : (rCreate r nNew).1 ≠ 0
  · simp only [if_pos e1]
    exact ⟨z3, _, _, fv3, f48_FFT b1 o1 (ld27 g1) k2 (neqF e00) k3 (neqT e1), q3, K3, rfl, rfl⟩
  simp only [if_neg e1]
  have e10 : (rCreate r nNew).1 = 0 := by simpa using e1
  have hbl : (putB sz t rt gg).length ≤ 120 := by unfold putB; split <;> simp [F.form_len]
  obtain ⟨z4, r2, k4, q4, R4, A4⟩ := rappend_ok q3 R3.wf l3 S1.rgood (by omega) (by have := S1.len; omega) (hfu S1) nNew_size hv (by omega)
  obtain ⟨s2, hs2⟩ := papp_ex S1 nNew (putB sz t rt gg)
  obtain ⟨_, S2, U2⟩ := sim_append S1 nNew _ hs2 A4
  have K4 := K3.trans (R4.keepR q3)
  have l4 : z4.lock = [] := R4.lock.trans l3
  suffices hh : ∃ st' er r' fv', obC 48 [.ptr e 0, .agg (F.headCells sz t rt gg)] st (i64 er) st' ∧ RD st' e fv' r' ∧ KeepR st st' e ∧ (if rAppE (rCreate r nNew).2 nNew (putB sz t rt gg) ≠ 0 then er = rAppE (rCreate r nNew).2 nNew (putB sz t rt gg) ∧ r' = r2 else
      ∃ r3, RSync r2 nNew r3 ∧ if rSyncE r2 nNew ≠ 0 then er = rSyncE r2 nNew ∧ r' = r3 else er = (rRename r3 nNew nHead).1 ∧ r' = (rRename r3 nNew nHead).2) by
    obtain ⟨a1, a2, a3, a4, a5, a6, a7, a8⟩ := hh
    exact ⟨a1, a2, a3, a4, a5, a6, a7, r2, A4, a8⟩
  by_cases e2 : rAppE (rCreate r nNew).2 nNew (putB sz t rt gg) ≠ 0
  · simp only [if_pos e2]
    exact ⟨z4, _, _, fv3, f48_FFFT b1 o1 (ld27 g1) k2 (neqF e00) k3 (neqF e10) k4 (neqT e2), q4, K4, rfl, rfl⟩
  simp only [if_neg e2]
  have e20 : rAppE (rCreate r nNew).2 nNew (putB sz t rt gg) = 0 := by simpa using e2
  have hbig : (1000000000 : Nat) ≤ big := by decide
  obtain ⟨z5, r3, k5, q5, R5, A5⟩ := rsync_ok q4 R4.wf l4 S2.rgood (by omega) (by have := S2.len; omega) (hfu S2) nNew_size
  obtain ⟨_, S3⟩ := sim_sync S2 nNew A5
  have K5 := K4.trans (R5.keepR q4)
  have l5 : z5.lock = [] := R5.lock.trans l4
  suffices hh : ∃ st' er r' fv', obC 48 [.ptr e 0, .agg (F.headCells sz t rt gg)] st (i64 er) st' ∧ RD st' e fv' r' ∧ KeepR st st' e ∧ (if rSyncE r2 nNew ≠ 0 then er = rSyncE r2 nNew ∧ r' = r3 else er = (rRename r3 nNew nHead).1 ∧ r' = (rRename r3 nNew nHead).2) by
    obtain ⟨a1, a2, a3, a4, a5, a6, a7, a8⟩ := hh
    exact ⟨a1, a2, a3, a4, a5, a6, a7, r3, A5, a8⟩
  by_cases e3 : rSyncE r2 nNew ≠ 0
  · simp only [if_pos e3]
    exact ⟨z5, _, _, fv3, f48_FFFFT b1 o1 (ld27 g1) k2 (neqF e00) k3 (neqF e10) k4 (neqF e20) k5 (neqT e3), q5, K5, rfl, rfl⟩
  simp only [if_neg e3]
  have e30 : rSyncE r2 nNew = 0 := by simpa using e3
  obtain ⟨z6, fv6, k6, q6, R6⟩ := rrename_ok q5 R5.wf l5 (by have := S3.len; omega) (hfu S3) nNew_size nHead_size
  exact ⟨z6, _, _, fv6, f48_FFFFF b1 o1 (ld27 g1) k2 (neqF e00) k3 (neqF e10) k4 (neqF e20) k5 (neqF e30) k6, q6, K5.trans (R6.f.keepR q5), rfl, rfl⟩
end
section
set_option maxRecDepth 4000
/-- what a call hands back as bytes of its own becomes a value -/
theorem frz_tup {f : Nat} {args : List AV} {st st' : St} {v : AV} {er : Int} {bs : List Int} (h : obC f args st (.tup [v, i64 er]) st') (hv : OwnB st' v bs) (hfr : ∀ i ∈ fid v, st.next ≤ i) (hR : Rest st st' []) (hl : st.lock = []) (hw : st.wf) :
    ∃ v2 st2, obC f args st (.tup [v2, i64 er]) st2 ∧ BV v2 bs ∧ RestF st st2 [] := by
  have main : ∀ j fl, v = .sl j 1 0 bs.length fl → st'.get j = some (.row (bs.map u8) 5) → ∃ v2 st2, obC f args st (.tup [v2, i64 er]) st2 ∧ BV v2 bs ∧ RestF st st2 [] := fun j fl e hj => by
    have hjn := hfr j (by rw [e]; simp [fid])
    have hF := frzSt_ok (id := j) (vs := bs.map u8) hR.wf
    have hl' : st'.lock = [] := hR.lock.trans hl
    refine ⟨.imm 1 bs.length fl (bs.map u8), frzSt j (bs.map u8) st', ?_, .inr ⟨fl, rfl⟩, ⟨fun i p _ hp hc => ?_, hR.next, hR.lock, hR.gl, frz_wf hR.wf⟩⟩
    · refine ACalls.freeze h fun b s' ⟨e1, e2⟩ _ _ => ⟨j, bs.map u8, 5, by rw [e2]; exact hj, by rw [e2]; exact hl', ?_, by rw [e2]⟩
      rw [e1, e]
      simp only [frz, frzL, if_true]
      rw [if_pos (by simp), List.drop_zero, List.take_of_length_le (by simp)]
    · have := hw _ _ hp
      rw [hF.get, if_neg (by omega), hR.keep i p (by simp) hp, Option.map_some, hc j _ hjn]
  rcases hv with ⟨rfl, rfl⟩ | ⟨rfl, j, rfl, hj⟩ | ⟨_, j, rfl, hj⟩
  · exact ⟨.nils, st', h, .inl ⟨rfl, rfl⟩, hR.f⟩
  · exact main j true rfl hj
  · exact main j false rfl hj
/-- what a file holds -/
def cont (r : RS) (n : ByteArray) : List Int := if thE r n ≠ 0 then [] else match r.F[pos n r.F]? with
  | some g => g.lb ++ g.ob
  | none => []
theorem cont_bytes {r : RS} (h : KB r.F) (n : ByteArray) : F.bytesP (cont r n) := by
  unfold cont
  split
  · exact bytesP_nil
  split
  · rename_i g hg
    exact bytesP_app (h g (List.mem_of_getElem? hg)).1 (h g (List.mem_of_getElem? hg)).2
  · exact bytesP_nil
theorem cont_len {r : RS} (n : ByteArray) (hu : usedR r.F < 1000000000) : (cont r n).length < 1000000000 := by
  unfold cont
  split
  · simp
  split
  · rename_i g hg
    have := used_get hg
    rw [List.length_append]; omega
  · simp
theorem read_imm {st : St} {d m : Nat} {s : PS} {r : RS} (hS : Sim s r) (hp : PDs st d m s) (hw : st.wf) (hl : st.lock = []) (hu : usedR r.F < 1000000000) (n : ByteArray) :
    ∃ v st', obC 25 [.ptr d 0, str n] st (.tup [v, i64 (thE r n)]) st' ∧ BV v (cont r n) ∧ RestF st st' [] := by
  have hb : (1000000000 : Nat) ≤ big := by decide
  obtain ⟨v, s1, a1, a2, a3⟩ := read_ok hp hw hl hS.g (by rw [hS.used]; omega) n
  rw [hS.err n] at a1 a3
  rcases a3 with ⟨h1, rfl⟩ | ⟨h0, k, f, h1, h2, h3, h4⟩
  · exact ⟨.nils, s1, a1, .inl ⟨by unfold cont; rw [if_pos h1], rfl⟩, a2.f⟩
  · obtain ⟨f', g, c1, c2, c3, c4, c5, c6, c7⟩ := hS.there h1
    rw [h2] at c1
    obtain rfl : f = f' := by simpa using c1
    have hc : cont r n = f.bytes := by
      unfold cont
      rw [if_neg (by rw [h0]; simp), c3, sim_bytes c6]
    rw [hc]
    refine frz_tup a1 h3 (fun i hi => ?_) a2 hl hw
    rcases h4 with rfl | ⟨j, o, l, g', rfl, hj⟩
    · cases hi
    · simp only [fid, List.mem_singleton] at hi
      rw [hi]; exact hj
theorem rread_imm {st : St} {e : Nat} {fv : AV} {r : RS} (hr : RD st e fv r) (hg : RGood r.F) (hw : st.wf) (hl : st.lock = []) (hlen : r.F.length ≤ 4096) (hu : usedR r.F < 1000000000) {n : ByteArray} (hn : n.size ≤ 1000000000000) :
    ∃ v st', obC 42 [.ptr e 0, str n] st (.tup [v, i64 (thE r n)]) st' ∧ BV v (cont r n) ∧ RestF st st' [] := by
  have hb : (1000000000 : Nat) ≤ big := by decide
  obtain ⟨w, s2, b1, b2, b3, b4⟩ := rread_ok hr hw hl hg (by omega) (by omega) hn
  rcases b3 with ⟨h1, rfl⟩ | ⟨h0, g, h1, h2⟩
  · exact ⟨.nils, s2, b1, .inl ⟨by unfold cont; rw [if_pos h1], rfl⟩, b2.f⟩
  · have hc : cont r n = g.lb ++ g.ob := by
      unfold cont
      rw [if_neg (by rw [h0]; simp), h1]
    rw [hc]
    exact frz_tup b1 h2 b4 b2 hl hw
/-! ### Read of both -/
theorem bld27 : buildA E0 27 [] = some (.agg (F.headCells 0 0 (fun _ => 0) (fun _ => 0))) := by kernel_rfl
def zH : List AV := F.headCells 0 0 (fun _ => 0) (fun _ => 0)
theorem new27 (st : St) : allocA E0 st 27 = some (.ptr st.next 0, st.push (.row zH 27)) := by
  have h : zeroA E0 27 = some zH := by kernel_rfl
  simp only [allocA, h]
theorem st27 {st : St} {j : Nat} {a b : Int} {x y : Nat → Int} (hg : st.get j = some (.row (F.headCells a b x y) 27)) (hl : st.lock = []) (s t : Int) (r g : Nat → Int) : storeA E0 st 27 (.ptr j 0) (.agg (F.headCells s t r g)) = some (st.set j (.row (F.headCells s t r g) 27)) := by
  have hwg := St.wget_of hg (show j ∉ st.lock by rw [hl]; simp)
  have hsz : tySize E0 27 = some 98 := by kernel_rfl
  simp only [storeA, avc_head, hwg, hsz]
  rw [if_pos ⟨by rw [head_len], by rw [head_len, head_len]; omega⟩]
  have hd : List.drop 98 (F.headCells a b x y) = [] := List.drop_of_length_le (by rw [head_len]; omega)
  simp [head_len, hd]
/-- what a Read comes to, once the file's bytes are there -/
theorem calm27 (s t : Int) (r g : Nat → Int) (n ty : Nat) : Calm n (.row (F.headCells s t r g) ty) := fun id vs _ => by
  show AObj.row (frzL id vs (F.headCells s t r g)) ty = _
  have : frzL id vs (F.headCells s t r g) = F.headCells s t r g := by kernel_rfl
  rw [this]
/-- a cell of a head in a store: laid, and kept by what freezes no more than rows that are new -/
theorem cell27 {st : St} (hw : st.wf) : Rest st (st.push (.row zH 27)) [] ∧ (st.push (.row zH 27)).get st.next = some (.row zH 27) := ⟨Rest.push hw _ _, by rw [St.get_push, if_pos rfl]⟩
theorem set27 {st z : St} {j : Nat} {s t : Int} {r g : Nat → Int} {a b : Int} {x y : Nat → Int} (hg : z.get j = some (.row (F.headCells a b x y) 27)) (hR : RestF st z []) (hj : st.next ≤ j) (hl : z.lock = []) (hw : st.wf) :
    ∃ z', storeA E0 z 27 (.ptr j 0) (.agg (F.headCells s t r g)) = some z' ∧ z'.get j = some (.row (F.headCells s t r g) 27) ∧ RestF st z' [] ∧ z'.lock = [] :=
  ⟨_, st27 hg hl s t r g, by rw [St.get_set, if_pos rfl], hR.old (Rest.set hR.wf (hR.wf _ _ hg) _ (S := [j]) (by simp)).f (by simp; exact hj) hw, hl⟩
theorem end20 {T : Tm} {z : St} {j : Nat} {s t : Int} {r g : Nat → Int} {er : Int} (hg : z.get j = some (.row (F.headCells s t r g) 27)) (hT : f20L1 T (.ptr j 0) (i64 er)) : endA E0 Try.f20 (fun a s' => a = .tup [.agg (F.headCells s t r g), i64 er] ∧ s' = z) .ret T z := by
  refine ⟨[.agg (F.headCells s t r g), i64 er], ?_, rfl, rfl⟩
  show (match T.get 2 with | .ptr id off => (match loadA E0 z 27 (.ptr id off) with | some v => (some [T.get 3]).map (v :: ·) | none => none) | _ => none) = _
  rw [hT.2.1, hT.2.2]
  simp only [ld27 hg, Option.map_some]
theorem end49 {T : Tm} {z : St} {j : Nat} {s t : Int} {r g : Nat → Int} {er : Int} (hg : z.get j = some (.row (F.headCells s t r g) 27)) (hT : f49L1 T (.ptr j 0) (i64 er)) : endA E0 Try.f49 (fun a s' => a = .tup [.agg (F.headCells s t r g), i64 er] ∧ s' = z) .ret T z := by
  refine ⟨[.agg (F.headCells s t r g), i64 er], ?_, rfl, rfl⟩
  show (match T.get 2 with | .ptr id off => (match loadA E0 z 27 (.ptr id off) with | some v => (some [T.get 3]).map (v :: ·) | none => none) | _ => none) = _
  rw [hT.2.1, hT.2.2]
  simp only [ld27 hg, Option.map_some]
theorem cread_ok {s : PS} {r : RS} (hS : Sim s r) (hk : KB r.F) (hu : usedR r.F < 1000000000) :
    ∃ (er sz t : Int) (rt gg : Nat → Int), HR sz t rt gg ∧
      (∀ {st : St} {d m : Nat}, PDs st d m s → st.wf → st.lock = [] → ∃ st', obC 20 [.ptr d 0] st (.tup [.agg (F.headCells sz t rt gg), i64 er]) st' ∧ RestF st st' []) ∧
      (∀ {st : St} {e : Nat} {fv : AV}, RD st e fv r → st.wf → st.lock = [] → ∃ st', obC 49 [.ptr e 0] st (.tup [.agg (F.headCells sz t rt gg), i64 er]) st' ∧ RestF st st' []) := by
  have hlen := hS.len
  obtain ⟨te, ts, tt, tr, tg, tH, tk⟩ := take_ok (cont_bytes hk nHead)
  have hoff8 : s.off = true → thE r nHead = 8 := fun h => by unfold thE; rw [← hS.off, if_pos h]
  by_cases h0 : thE r nHead ≠ 0
  · refine ⟨thE r nHead, 0, 0, fun _ => 0, fun _ => 0, hr_zero, fun {st d m} hp hw hl => ?_, fun {st e fv} hr hw hl => ?_⟩
    · obtain ⟨R1, g1⟩ := cell27 hw
      have hp1 := PD.rest hp R1
      have hrd := ready58 hp1
      have l1 : (st.push (.row zH 27)).lock = [] := hl
      by_cases ho : s.off = true
      · rw [if_pos ho] at hrd
        rw [hoff8 ho]
        obtain ⟨z', k1, k2, k3, _⟩ := set27 (s := 0) (t := 0) (r := fun _ => 0) (g := fun _ => 0) g1 R1.f (Nat.le_refl _) l1 hw
        refine ⟨z', ?_, k3⟩
        refine ACalls.body (E := E0) hE Try.func20 f20body ?_
        exact .atRet (f20_0_T (d := d) (new27 st) hrd (neqT (by decide)) bld27 k1 ⟨rfl, rfl⟩) fun T h => end20 k2 h
      · rw [if_neg ho] at hrd
        obtain ⟨v, z2, k2, hv, R2⟩ := read_imm hS hp1 R1.wf l1 hu nHead
        have g2 : z2.get st.next = some (.row zH 27) := R2.keep _ _ (by simp) g1 (calm27 _ _ _ _ _ _)
        obtain ⟨z', q1, q2, q3, _⟩ := set27 (s := 0) (t := 0) (r := fun _ => 0) (g := fun _ => 0) g2 (R1.f.trans R2) (Nat.le_refl _) (R2.lock.trans l1) hw
        refine ⟨z', ?_, q3⟩
        refine ACalls.body (E := E0) hE Try.func20 f20body ?_
        exact .atRet (f20_0_FT (d := d) (new27 st) hrd (neqF rfl) k2 (neqT h0) bld27 q1 ⟨rfl, rfl⟩) fun T h => end20 q2 h
    · obtain ⟨R1, g1⟩ := cell27 hw
      have l1 : (st.push (.row zH 27)).lock = [] := hl
      obtain ⟨v, z2, k2, hv, R2⟩ := rread_imm (hr.rest R1 (by simp) (by simp)) hS.rgood R1.wf l1 hlen hu nHead_size
      have g2 : z2.get st.next = some (.row zH 27) := R2.keep _ _ (by simp) g1 (calm27 _ _ _ _ _ _)
      obtain ⟨z', q1, q2, q3, _⟩ := set27 (s := 0) (t := 0) (r := fun _ => 0) (g := fun _ => 0) g2 (R1.f.trans R2) (Nat.le_refl _) (R2.lock.trans l1) hw
      refine ⟨z', ?_, q3⟩
      refine ACalls.body (E := E0) hE Try.func49 f49body ?_
      exact .atRet (f49_0_T (e := e) (new27 st) k2 (neqT h0) bld27 q1 ⟨rfl, rfl⟩) fun T h => end49 q2 h
  have h00 : thE r nHead = 0 := by simpa using h0
  have hoff : ¬ s.off = true := fun h => by have := hoff8 h; omega
  -- the file's bytes are taken
  have both : ∀ {st : St}, st.wf → st.lock = [] → ∀ {z2 : St} {v : AV} {f : Nat}, (f = 13 ∨ f = 14) → BV v (cont r nHead) → RestF (st.push (.row zH 27)) z2 [] →
      ∃ z3 z5, obC f [v] z2 (.tup [.agg (F.headCells ts tt tr tg), i64 te]) z3 ∧ allocA E0 z3 27 = some (.ptr z3.next 0, z3.push (.row zH 27)) ∧ storeA E0 (z3.push (.row zH 27)) 27 (.ptr z3.next 0) (.agg (F.headCells ts tt tr tg)) = some z5 ∧ z5.get z3.next = some (.row (F.headCells ts tt tr tg) 27) ∧ z5.get st.next = some (.row zH 27) ∧ RestF st z5 [] ∧ z5.lock = [] := fun {st} hw hl {z2 v f} hf hv R2 => by
    obtain ⟨R1, g1⟩ := cell27 hw
    obtain ⟨z3, k3, R3⟩ := tk hf hv R2.wf
    have R03 := (R1.f.trans R2).trans R3.f
    have l3 : z3.lock = [] := R3.lock.trans (R2.lock.trans hl)
    have g3 : z3.get st.next = some (.row zH 27) := R3.keep _ _ (by simp) (R2.keep _ _ (by simp) g1 (calm27 _ _ _ _ _ _))
    obtain ⟨R4, g4⟩ := cell27 R3.wf
    have g4' : (z3.push (.row zH 27)).get st.next = some (.row zH 27) := R4.keep _ _ (by simp) g3
    obtain ⟨z5, q1, q2, q3, q4⟩ := set27 (s := ts) (t := tt) (r := tr) (g := tg) g4 (R03.trans R4.f) (Nat.le_trans R03.next (Nat.le_refl _)) l3 hw
    have hne : st.next ≠ z3.next := by have := R3.wf _ _ g3; omega
    have hs := st27 g4 (show (z3.push (.row zH 27)).lock = [] from l3) ts tt tr tg
    rw [hs] at q1
    simp only [Option.some.injEq] at q1
    exact ⟨z3, z5, k3, new27 z3, by rw [← q1]; exact hs, q2, by rw [← q1, St.get_set, if_neg hne]; exact g4', q3, q4⟩
  by_cases ht : te ≠ 0
  · refine ⟨20, 0, 0, fun _ => 0, fun _ => 0, hr_zero, fun {st d m} hp hw hl => ?_, fun {st e fv} hr hw hl => ?_⟩
    · obtain ⟨R1, g1⟩ := cell27 hw
      have hp1 := PD.rest hp R1
      have hrd := ready58 hp1
      rw [if_neg hoff] at hrd
      obtain ⟨v, z2, k2, hv, R2⟩ := read_imm hS hp1 R1.wf hl hu nHead
      rw [h00] at k2
      obtain ⟨z3, z5, b1, b2, b3, b4, b5, b6, b7⟩ := both hw hl (.inl rfl) hv R2
      obtain ⟨z', q1, q2, q3, _⟩ := set27 (s := 0) (t := 0) (r := fun _ => 0) (g := fun _ => 0) b5 b6 (Nat.le_refl _) b7 hw
      refine ⟨z', ?_, q3⟩
      refine ACalls.body (E := E0) hE Try.func20 f20body ?_
      exact .atRet (f20_0_FFT (d := d) (new27 st) hrd (neqF rfl) k2 (neqF rfl) b1 b2 b3 (neqT ht) bld27 q1 ⟨rfl, rfl⟩) fun T h => end20 q2 h
    · obtain ⟨R1, g1⟩ := cell27 hw
      obtain ⟨v, z2, k2, hv, R2⟩ := rread_imm (hr.rest R1 (by simp) (by simp)) hS.rgood R1.wf hl hlen hu nHead_size
      rw [h00] at k2
      obtain ⟨z3, z5, b1, b2, b3, b4, b5, b6, b7⟩ := both hw hl (.inr rfl) hv R2
      obtain ⟨z', q1, q2, q3, _⟩ := set27 (s := 0) (t := 0) (r := fun _ => 0) (g := fun _ => 0) b5 b6 (Nat.le_refl _) b7 hw
      refine ⟨z', ?_, q3⟩
      refine ACalls.body (E := E0) hE Try.func49 f49body ?_
      exact .atRet (f49_0_FT (e := e) (new27 st) k2 (neqF rfl) b1 b2 b3 (neqT ht) bld27 q1 ⟨rfl, rfl⟩) fun T h => end49 q2 h
  have ht0 : te = 0 := by simpa using ht
  refine ⟨0, ts, tt, tr, tg, tH, fun {st d m} hp hw hl => ?_, fun {st e fv} hr hw hl => ?_⟩
  · obtain ⟨R1, g1⟩ := cell27 hw
    have hp1 := PD.rest hp R1
    have hrd := ready58 hp1
    rw [if_neg hoff] at hrd
    obtain ⟨v, z2, k2, hv, R2⟩ := read_imm hS hp1 R1.wf hl hu nHead
    rw [h00] at k2
    obtain ⟨z3, z5, b1, b2, b3, b4, b5, b6, b7⟩ := both hw hl (.inl rfl) hv R2
    obtain ⟨z', q1, q2, q3, _⟩ := set27 (s := ts) (t := tt) (r := tr) (g := tg) b5 b6 (Nat.le_refl _) b7 hw
    refine ⟨z', ?_, q3⟩
    refine ACalls.body (E := E0) hE Try.func20 f20body ?_
    exact .atRet (f20_0_FFF (d := d) (new27 st) hrd (neqF rfl) k2 (neqF rfl) b1 b2 b3 (neqF ht0) (ld27 b4) q1 ⟨rfl, rfl⟩) fun T h => end20 q2 h
  · obtain ⟨R1, g1⟩ := cell27 hw
    obtain ⟨v, z2, k2, hv, R2⟩ := rread_imm (hr.rest R1 (by simp) (by simp)) hS.rgood R1.wf hl hlen hu nHead_size
    rw [h00] at k2
    obtain ⟨z3, z5, b1, b2, b3, b4, b5, b6, b7⟩ := both hw hl (.inr rfl) hv R2
    obtain ⟨z', q1, q2, q3, _⟩ := set27 (s := ts) (t := tt) (r := tr) (g := tg) b5 b6 (Nat.le_refl _) b7 hw
    refine ⟨z', ?_, q3⟩
    refine ACalls.body (E := E0) hE Try.func49 f49body ?_
    exact .atRet (f49_0_FF (e := e) (new27 st) k2 (neqF rfl) b1 b2 b3 (neqF ht0) (ld27 b4) q1 ⟨rfl, rfl⟩) fun T h => end49 q2 h
end
end Go.Proofs.Ytniaiciabfdbnaa.E
