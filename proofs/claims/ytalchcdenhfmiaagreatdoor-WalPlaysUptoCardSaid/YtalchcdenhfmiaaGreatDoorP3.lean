/- Part 3 of the proof, over the abstract machine: contracts of the functions that the statement reaches, joined out of several texts. Condition: none beyond those that the lemmas name. -/
import Derived.Test.YtalchcdenhfmiaaGreatDoorP2
namespace Go.Proofs.YtalchcdenhfmiaaGreatDoor.E
open Go Go.Proofs
section
set_option maxRecDepth 100000
noncomputable abbrev evC(ss:List Nat)(f:Nat)(args:List AV)(st:St)(x:List Or):=evCallS Tryz.prog E0 noOv (fun _=>ss) 100000 f args st x
abbrev sL0:List Nat:= [2011,2017,2023,2030,6005,6052,7018]
noncomputable abbrev Bt(t:Nat)(o:BinOp)(a b:Int)(r:AV):Prop:=binA E0 o t (i64 a) (i64 b)=some r
noncomputable abbrev LI(s:St)(p o:Nat)(n:Int):Prop:=loadA E0 s 3 (.ptr p o)=some (i64 n)
abbrev pt(p:Nat):AV:= .ptr p 0
theorem f18_T_e(st:St)(w p11:Nat)(n17:Int):evC sL0 18 [(pt w)] st [.eff (pt p11) id,.eff (i64 n17) id,.av TT]=some ((i64 0),st,[],[loadA E0 st 38 (pt w)=some (pt p11)∧st=st,LI st w 2 n17∧st=st,Bt 3 .eql n17 0 TT]):=by kernel_rfl
theorem kk{p:Prop}{ps:Ob}(h:p)(k:Ob.ok ps):Ob.ok (p::ps):=Ob.ok_cons.2 ⟨h,k⟩
theorem f18_T{st:St}{w p11:Nat}{n17:Int}(h1:loadA E0 st 38 (pt w)=some (pt p11))(h2:LI st w 2 n17)(h3:Bt 3 .eql n17 0 TT):obC 18 [(pt w)] st (i64 0) st:=ACalls.run hE noOv_ok (f18_T_e st w p11 n17) (kk ⟨h1,rfl⟩ (kk ⟨h2,rfl⟩ (kk h3 Ob.ok_nil)))
theorem f18_F_e(st s1 s2:St)(w p11 p30:Nat)(n17 n23 n24b n32:Int)(w24a:ByteArray):evC sL0 18 [(pt w)] st [.eff (pt p11) id,.eff (i64 n17) id,.av FF,.eff (i64 n23) id,.eff (.tup [(str w24a),(i64 n24b)]) (fun _=>s1),.eff (pt p30) id,.eff (i64 n32) (fun _=>s2)]=some ((i64 n32),s2,[],[loadA E0 st 38 (pt w)=some (pt p11)∧st=st,LI st w 2 n17∧st=st,Bt 3 .eql n17 0 FF,LI st w 2 n23∧st=st,obC 5 [(i64 n23)] st (.tup [(str w24a),(i64 n24b)]) s1,loadA E0 s1 38 (pt w)=some (pt p30)∧s1=s1,obC 52 [(pt p30),(str w24a)] s1 (i64 n32) s2]):=by kernel_rfl
theorem f18_F{st s1 s2:St}{w p11 p30:Nat}{n17 n23 n24b n32:Int}{w24a:ByteArray}(h1:loadA E0 st 38 (pt w)=some (pt p11))(h2:LI st w 2 n17)(h3:Bt 3 .eql n17 0 FF)(h4:LI st w 2 n23)(h5:obC 5 [(i64 n23)] st (.tup [(str w24a),(i64 n24b)]) s1)(h6:loadA E0 s1 38 (pt w)=some (pt p30))(h7:obC 52 [(pt p30),(str w24a)] s1 (i64 n32) s2):obC 18 [(pt w)] st (i64 n32) s2:=ACalls.run hE noOv_ok (f18_F_e st s1 s2 w p11 p30 n17 n23 n24b n32 w24a) (kk ⟨h1,rfl⟩ (kk ⟨h2,rfl⟩ (kk h3 (kk ⟨h4,rfl⟩ (kk h5 (kk ⟨h6,rfl⟩ (kk h7 Ob.ok_nil)))))))
abbrev sL1:List Nat:= [2010,2019,2030,2038,5000,6005,6030,7015,7023,7039]
theorem f51_T_e(st s1:St)(w:Nat)(n10 n11b:Int)(w11a:ByteArray):evC sL1 51 [(pt w)] st [.eff (i64 n10) id,.eff (.tup [(str w11a),(i64 n11b)]) (fun _=>s1),.av TT]=some ((i64 7),s1,[],[LI st w 1 n10∧st=st,obC 5 [(i64 n10)] st (.tup [(str w11a),(i64 n11b)]) s1,Bt 23 .neq n11b 0 TT]):=by kernel_rfl
theorem f51_T{st s1:St}{w:Nat}{n10 n11b:Int}{w11a:ByteArray}(h1:LI st w 1 n10)(h2:obC 5 [(i64 n10)] st (.tup [(str w11a),(i64 n11b)]) s1)(h3:Bt 23 .neq n11b 0 TT):obC 51 [(pt w)] st (i64 7) s1:=ACalls.run hE noOv_ok (f51_T_e st s1 w n10 n11b w11a) (kk ⟨h1,rfl⟩ (kk h2 (kk h3 Ob.ok_nil)))
theorem f51_FT_e(st s1 s2:St)(w p19:Nat)(n10 n11b n21:Int)(w11a:ByteArray):evC sL1 51 [(pt w)] st [.eff (i64 n10) id,.eff (.tup [(str w11a),(i64 n11b)]) (fun _=>s1),.av FF,.eff (pt p19) id,.eff (i64 n21) (fun _=>s2),.av TT]=some ((i64 n21),s2,[],[LI st w 1 n10∧st=st,obC 5 [(i64 n10)] st (.tup [(str w11a),(i64 n11b)]) s1,Bt 23 .neq n11b 0 FF,loadA E0 s1 38 (pt w)=some (pt p19)∧s1=s1,obC 30 [(pt p19),(str w11a)] s1 (i64 n21) s2,Bt 23 .neq n21 0 TT]):=by kernel_rfl
theorem f51_FT{st s1 s2:St}{w p19:Nat}{n10 n11b n21:Int}{w11a:ByteArray}(h1:LI st w 1 n10)(h2:obC 5 [(i64 n10)] st (.tup [(str w11a),(i64 n11b)]) s1)(h3:Bt 23 .neq n11b 0 FF)(h4:loadA E0 s1 38 (pt w)=some (pt p19))(h5:obC 30 [(pt p19),(str w11a)] s1 (i64 n21) s2)(h6:Bt 23 .neq n21 0 TT):obC 51 [(pt w)] st (i64 n21) s2:=ACalls.run hE noOv_ok (f51_FT_e st s1 s2 w p19 n10 n11b n21 w11a) (kk ⟨h1,rfl⟩ (kk h2 (kk h3 (kk ⟨h4,rfl⟩ (kk h5 (kk h6 Ob.ok_nil))))))
theorem f51_FF_e(st s1 s2 s3 s4 s5:St)(w p19:Nat)(n10 n11b n21 n30 n38 n39:Int)(w11a:ByteArray):evC sL1 51 [(pt w)] st [.eff (i64 n10) id,.eff (.tup [(str w11a),(i64 n11b)]) (fun _=>s1),.av FF,.eff (pt p19) id,.eff (i64 n21) (fun _=>s2),.av FF,.eff (i64 n30) id,.eff .undef (fun _=>s3),.eff .undef (fun _=>s4),.eff (i64 n38) id,.av (i64 n39),.eff .undef (fun _=>s5)]=some ((i64 0),s5,[],[LI st w 1 n10∧st=st,obC 5 [(i64 n10)] st (.tup [(str w11a),(i64 n11b)]) s1,Bt 23 .neq n11b 0 FF,loadA E0 s1 38 (pt w)=some (pt p19)∧s1=s1,obC 30 [(pt p19),(str w11a)] s1 (i64 n21) s2,Bt 23 .neq n21 0 FF,LI s2 w 1 n30∧s2=s2,storeA E0 s2 3 (.ptr w 2) (i64 n30)=some s3,storeA E0 s3 3 (.ptr w 3) (i64 0)=some s4,LI s4 w 1 n38∧s4=s4,Bt 3 .add n38 1 (i64 n39),storeA E0 s4 3 (.ptr w 1) (i64 n39)=some s5]):=by kernel_rfl
theorem f51_FF{st s1 s2 s3 s4 s5:St}{w p19:Nat}{n10 n11b n21 n30 n38 n39:Int}{w11a:ByteArray}(h1:LI st w 1 n10)(h2:obC 5 [(i64 n10)] st (.tup [(str w11a),(i64 n11b)]) s1)(h3:Bt 23 .neq n11b 0 FF)(h4:loadA E0 s1 38 (pt w)=some (pt p19))(h5:obC 30 [(pt p19),(str w11a)] s1 (i64 n21) s2)(h6:Bt 23 .neq n21 0 FF)(h7:LI s2 w 1 n30)(h8:storeA E0 s2 3 (.ptr w 2) (i64 n30)=some s3)(h9:storeA E0 s3 3 (.ptr w 3) (i64 0)=some s4)(h10:LI s4 w 1 n38)(h11:Bt 3 .add n38 1 (i64 n39))(h12:storeA E0 s4 3 (.ptr w 1) (i64 n39)=some s5):obC 51 [(pt w)] st (i64 0) s5:=ACalls.run hE noOv_ok (f51_FF_e st s1 s2 s3 s4 s5 w p19 n10 n11b n21 n30 n38 n39 w11a) (kk ⟨h1,rfl⟩ (kk h2 (kk h3 (kk ⟨h4,rfl⟩ (kk h5 (kk h6 (kk ⟨h7,rfl⟩ (kk h8 (kk h9 (kk ⟨h10,rfl⟩ (kk h11 (kk h12 Ob.ok_nil))))))))))))
theorem f34_e(st:St)(w:Nat)(n8:Int):evC [2008] 34 [(pt w)] st [.eff (i64 n8) id]=some ((i64 n8),st,[],[LI st w 1 n8∧st=st]):=by kernel_rfl
theorem f34{st:St}{w:Nat}{n8:Int}(h1:loadA E0 st 3 (.ptr w 1)=some (i64 n8)):obC 34 [(.ptr w 0)] st (i64 n8) st:=ACalls.run hE noOv_ok (f34_e st w n8) (kk ⟨h1,rfl⟩ Ob.ok_nil)
abbrev sL2:List Nat:= [2019,2033,2039,2053,2064,2071,2081,2088,5000,6005,6007,6018,6032,6051,7028,7034,7040,7045,7054,7058,7076,7082]
theorem f16_T_e(st s1:St)(w p19:Nat)(x v24a:AV)(n24b:Int):evC sL2 16 [(pt w),x] st [.eff (pt p19) id,.eff (.tup [v24a,(i64 n24b)]) (fun _=>s1),.av TT]=some ((.tup [(i64 0),(i64 n24b)]),s1,[],[loadA E0 st 38 (pt w)=some (pt p19)∧st=st,obC 7 [x] st (.tup [v24a,(i64 n24b)]) s1,Bt 23 .neq n24b 0 TT]):=by kernel_rfl
theorem f16_T{st s1:St}{w p19:Nat}{x v24a:AV}{n24b:Int}(h1:loadA E0 st 38 (pt w)=some (pt p19))(h2:obC 7 [x] st (.tup [v24a,(i64 n24b)]) s1)(h3:Bt 23 .neq n24b 0 TT):obC 16 [(pt w),x] st (.tup [(i64 0),(i64 n24b)]) s1:=ACalls.run hE noOv_ok (f16_T_e st s1 w p19 x v24a n24b) (kk ⟨h1,rfl⟩ (kk h2 (kk h3 Ob.ok_nil)))
theorem f16_FTTT_e(st s1 s2:St)(w p19:Nat)(x v24a:AV)(n24b n33 n39 n43:Int):evC sL2 16 [(pt w),x] st [.eff (pt p19) id,.eff (.tup [v24a,(i64 n24b)]) (fun _=>s1),.av FF,.eff (i64 n33) id,.av TT,.eff (i64 n39) id,.av TT,.eff (i64 n43) (fun _=>s2),.av TT]=some ((.tup [(i64 0),(i64 n43)]),s2,[],[loadA E0 st 38 (pt w)=some (pt p19)∧st=st,obC 7 [x] st (.tup [v24a,(i64 n24b)]) s1,Bt 23 .neq n24b 0 FF,LI s1 w 2 n33∧s1=s1,Bt 3 .gtr n33 0 TT,LI s1 w 3 n39∧s1=s1,Bt 3 .eql n39 8 TT,obC 18 [(pt w)] s1 (i64 n43) s2,Bt 23 .neq n43 0 TT]):=by kernel_rfl
theorem f16_FTTT{st s1 s2:St}{w p19:Nat}{x v24a:AV}{n24b n33 n39 n43:Int}(h1:loadA E0 st 38 (pt w)=some (pt p19))(h2:obC 7 [x] st (.tup [v24a,(i64 n24b)]) s1)(h3:Bt 23 .neq n24b 0 FF)(h4:LI s1 w 2 n33)(h5:Bt 3 .gtr n33 0 TT)(h6:LI s1 w 3 n39)(h7:Bt 3 .eql n39 8 TT)(h8:obC 18 [(pt w)] s1 (i64 n43) s2)(h9:Bt 23 .neq n43 0 TT):obC 16 [(pt w),x] st (.tup [(i64 0),(i64 n43)]) s2:=ACalls.run hE noOv_ok (f16_FTTT_e st s1 s2 w p19 x v24a n24b n33 n39 n43) (kk ⟨h1,rfl⟩ (kk h2 (kk h3 (kk ⟨h4,rfl⟩ (kk h5 (kk ⟨h6,rfl⟩ (kk h7 (kk h8 (kk h9 Ob.ok_nil)))))))))
theorem f16_FTTFTT_e(st s1 s2 s3 s4:St)(w p19:Nat)(x v24a:AV)(n24b n33 n39 n43 n53 n56:Int):evC sL2 16 [(pt w),x] st [.eff (pt p19) id,.eff (.tup [v24a,(i64 n24b)]) (fun _=>s1),.av FF,.eff (i64 n33) id,.av TT,.eff (i64 n39) id,.av TT,.eff (i64 n43) (fun _=>s2),.av FF,.eff .undef (fun _=>s3),.eff (i64 n53) id,.av TT,.eff (i64 n56) (fun _=>s4),.av TT]=some ((.tup [(i64 0),(i64 n56)]),s4,[],[loadA E0 st 38 (pt w)=some (pt p19)∧st=st,obC 7 [x] st (.tup [v24a,(i64 n24b)]) s1,Bt 23 .neq n24b 0 FF,LI s1 w 2 n33∧s1=s1,Bt 3 .gtr n33 0 TT,LI s1 w 3 n39∧s1=s1,Bt 3 .eql n39 8 TT,obC 18 [(pt w)] s1 (i64 n43) s2,Bt 23 .neq n43 0 FF,storeA E0 s2 3 (.ptr w 2) (i64 0)=some s3,LI s3 w 2 n53∧s3=s3,Bt 3 .eql n53 0 TT,obC 51 [(pt w)] s3 (i64 n56) s4,Bt 23 .neq n56 0 TT]):=by kernel_rfl
theorem f16_FTTFTT{st s1 s2 s3 s4:St}{w p19:Nat}{x v24a:AV}{n24b n33 n39 n43 n53 n56:Int}(h1:loadA E0 st 38 (pt w)=some (pt p19))(h2:obC 7 [x] st (.tup [v24a,(i64 n24b)]) s1)(h3:Bt 23 .neq n24b 0 FF)(h4:LI s1 w 2 n33)(h5:Bt 3 .gtr n33 0 TT)(h6:LI s1 w 3 n39)(h7:Bt 3 .eql n39 8 TT)(h8:obC 18 [(pt w)] s1 (i64 n43) s2)(h9:Bt 23 .neq n43 0 FF)(h10:storeA E0 s2 3 (.ptr w 2) (i64 0)=some s3)(h11:LI s3 w 2 n53)(h12:Bt 3 .eql n53 0 TT)(h13:obC 51 [(pt w)] s3 (i64 n56) s4)(h14:Bt 23 .neq n56 0 TT):obC 16 [(pt w),x] st (.tup [(i64 0),(i64 n56)]) s4:=ACalls.run hE noOv_ok (f16_FTTFTT_e st s1 s2 s3 s4 w p19 x v24a n24b n33 n39 n43 n53 n56) (kk ⟨h1,rfl⟩ (kk h2 (kk h3 (kk ⟨h4,rfl⟩ (kk h5 (kk ⟨h6,rfl⟩ (kk h7 (kk h8 (kk h9 (kk h10 (kk ⟨h11,rfl⟩ (kk h12 (kk h13 (kk h14 Ob.ok_nil))))))))))))))
theorem f16_FTTFTFT_e(st s1 s2 s3 s4 s5 s6:St)(w p19 p71:Nat)(x v24a:AV)(n24b n33 n39 n43 n53 n56 n64 n65b n74:Int)(w65a:ByteArray):evC sL2 16 [(pt w),x] st [.eff (pt p19) id,.eff (.tup [v24a,(i64 n24b)]) (fun _=>s1),.av FF,.eff (i64 n33) id,.av TT,.eff (i64 n39) id,.av TT,.eff (i64 n43) (fun _=>s2),.av FF,.eff .undef (fun _=>s3),.eff (i64 n53) id,.av TT,.eff (i64 n56) (fun _=>s4),.av FF,.eff (i64 n64) id,.eff (.tup [(str w65a),(i64 n65b)]) (fun _=>s5),.eff (pt p71) id,.eff (i64 n74) (fun _=>s6),.av TT]=some ((.tup [(i64 0),(i64 n74)]),s6,[],[loadA E0 st 38 (pt w)=some (pt p19)∧st=st,obC 7 [x] st (.tup [v24a,(i64 n24b)]) s1,Bt 23 .neq n24b 0 FF,LI s1 w 2 n33∧s1=s1,Bt 3 .gtr n33 0 TT,LI s1 w 3 n39∧s1=s1,Bt 3 .eql n39 8 TT,obC 18 [(pt w)] s1 (i64 n43) s2,Bt 23 .neq n43 0 FF,storeA E0 s2 3 (.ptr w 2) (i64 0)=some s3,LI s3 w 2 n53∧s3=s3,Bt 3 .eql n53 0 TT,obC 51 [(pt w)] s3 (i64 n56) s4,Bt 23 .neq n56 0 FF,LI s4 w 2 n64∧s4=s4,obC 5 [(i64 n64)] s4 (.tup [(str w65a),(i64 n65b)]) s5,loadA E0 s5 38 (pt w)=some (pt p71)∧s5=s5,obC 32 [(pt p71),(str w65a),v24a] s5 (i64 n74) s6,Bt 23 .neq n74 0 TT]):=by kernel_rfl
theorem f16_FTTFTFT{st s1 s2 s3 s4 s5 s6:St}{w p19 p71:Nat}{x v24a:AV}{n24b n33 n39 n43 n53 n56 n64 n65b n74:Int}{w65a:ByteArray}(h1:loadA E0 st 38 (pt w)=some (pt p19))(h2:obC 7 [x] st (.tup [v24a,(i64 n24b)]) s1)(h3:Bt 23 .neq n24b 0 FF)(h4:LI s1 w 2 n33)(h5:Bt 3 .gtr n33 0 TT)(h6:LI s1 w 3 n39)(h7:Bt 3 .eql n39 8 TT)(h8:obC 18 [(pt w)] s1 (i64 n43) s2)(h9:Bt 23 .neq n43 0 FF)(h10:storeA E0 s2 3 (.ptr w 2) (i64 0)=some s3)(h11:LI s3 w 2 n53)(h12:Bt 3 .eql n53 0 TT)(h13:obC 51 [(pt w)] s3 (i64 n56) s4)(h14:Bt 23 .neq n56 0 FF)(h15:LI s4 w 2 n64)(h16:obC 5 [(i64 n64)] s4 (.tup [(str w65a),(i64 n65b)]) s5)(h17:loadA E0 s5 38 (pt w)=some (pt p71))(h18:obC 32 [(pt p71),(str w65a),v24a] s5 (i64 n74) s6)(h19:Bt 23 .neq n74 0 TT):obC 16 [(pt w),x] st (.tup [(i64 0),(i64 n74)]) s6:=ACalls.run hE noOv_ok (f16_FTTFTFT_e st s1 s2 s3 s4 s5 s6 w p19 p71 x v24a n24b n33 n39 n43 n53 n56 n64 n65b n74 w65a) (kk ⟨h1,rfl⟩ (kk h2 (kk h3 (kk ⟨h4,rfl⟩ (kk h5 (kk ⟨h6,rfl⟩ (kk h7 (kk h8 (kk h9 (kk h10 (kk ⟨h11,rfl⟩ (kk h12 (kk h13 (kk h14 (kk ⟨h15,rfl⟩ (kk h16 (kk ⟨h17,rfl⟩ (kk h18 (kk h19 Ob.ok_nil)))))))))))))))))))
theorem f16_FTTFTFF_e(st s1 s2 s3 s4 s5 s6 s7:St)(w p19 p71:Nat)(x v24a:AV)(n24b n33 n39 n43 n53 n56 n64 n65b n74 n81 n82 n88:Int)(w65a:ByteArray):evC sL2 16 [(pt w),x] st [.eff (pt p19) id,.eff (.tup [v24a,(i64 n24b)]) (fun _=>s1),.av FF,.eff (i64 n33) id,.av TT,.eff (i64 n39) id,.av TT,.eff (i64 n43) (fun _=>s2),.av FF,.eff .undef (fun _=>s3),.eff (i64 n53) id,.av TT,.eff (i64 n56) (fun _=>s4),.av FF,.eff (i64 n64) id,.eff (.tup [(str w65a),(i64 n65b)]) (fun _=>s5),.eff (pt p71) id,.eff (i64 n74) (fun _=>s6),.av FF,.eff (i64 n81) id,.av (i64 n82),.eff .undef (fun _=>s7),.eff (i64 n88) id]=some ((.tup [(i64 n88),(i64 0)]),s7,[],[loadA E0 st 38 (pt w)=some (pt p19)∧st=st,obC 7 [x] st (.tup [v24a,(i64 n24b)]) s1,Bt 23 .neq n24b 0 FF,LI s1 w 2 n33∧s1=s1,Bt 3 .gtr n33 0 TT,LI s1 w 3 n39∧s1=s1,Bt 3 .eql n39 8 TT,obC 18 [(pt w)] s1 (i64 n43) s2,Bt 23 .neq n43 0 FF,storeA E0 s2 3 (.ptr w 2) (i64 0)=some s3,LI s3 w 2 n53∧s3=s3,Bt 3 .eql n53 0 TT,obC 51 [(pt w)] s3 (i64 n56) s4,Bt 23 .neq n56 0 FF,LI s4 w 2 n64∧s4=s4,obC 5 [(i64 n64)] s4 (.tup [(str w65a),(i64 n65b)]) s5,loadA E0 s5 38 (pt w)=some (pt p71)∧s5=s5,obC 32 [(pt p71),(str w65a),v24a] s5 (i64 n74) s6,Bt 23 .neq n74 0 FF,LI s6 w 3 n81∧s6=s6,Bt 3 .add n81 1 (i64 n82),storeA E0 s6 3 (.ptr w 3) (i64 n82)=some s7,LI s7 w 2 n88∧s7=s7]):=by kernel_rfl
theorem f16_FTTFTFF{st s1 s2 s3 s4 s5 s6 s7:St}{w p19 p71:Nat}{x v24a:AV}{n24b n33 n39 n43 n53 n56 n64 n65b n74 n81 n82 n88:Int}{w65a:ByteArray}(h1:loadA E0 st 38 (pt w)=some (pt p19))(h2:obC 7 [x] st (.tup [v24a,(i64 n24b)]) s1)(h3:Bt 23 .neq n24b 0 FF)(h4:LI s1 w 2 n33)(h5:Bt 3 .gtr n33 0 TT)(h6:LI s1 w 3 n39)(h7:Bt 3 .eql n39 8 TT)(h8:obC 18 [(pt w)] s1 (i64 n43) s2)(h9:Bt 23 .neq n43 0 FF)(h10:storeA E0 s2 3 (.ptr w 2) (i64 0)=some s3)(h11:LI s3 w 2 n53)(h12:Bt 3 .eql n53 0 TT)(h13:obC 51 [(pt w)] s3 (i64 n56) s4)(h14:Bt 23 .neq n56 0 FF)(h15:LI s4 w 2 n64)(h16:obC 5 [(i64 n64)] s4 (.tup [(str w65a),(i64 n65b)]) s5)(h17:loadA E0 s5 38 (pt w)=some (pt p71))(h18:obC 32 [(pt p71),(str w65a),v24a] s5 (i64 n74) s6)(h19:Bt 23 .neq n74 0 FF)(h20:LI s6 w 3 n81)(h21:Bt 3 .add n81 1 (i64 n82))(h22:storeA E0 s6 3 (.ptr w 3) (i64 n82)=some s7)(h23:LI s7 w 2 n88):obC 16 [(pt w),x] st (.tup [(i64 n88),(i64 0)]) s7:=ACalls.run hE noOv_ok (f16_FTTFTFF_e st s1 s2 s3 s4 s5 s6 s7 w p19 p71 x v24a n24b n33 n39 n43 n53 n56 n64 n65b n74 n81 n82 n88 w65a) (kk ⟨h1,rfl⟩ (kk h2 (kk h3 (kk ⟨h4,rfl⟩ (kk h5 (kk ⟨h6,rfl⟩ (kk h7 (kk h8 (kk h9 (kk h10 (kk ⟨h11,rfl⟩ (kk h12 (kk h13 (kk h14 (kk ⟨h15,rfl⟩ (kk h16 (kk ⟨h17,rfl⟩ (kk h18 (kk h19 (kk ⟨h20,rfl⟩ (kk h21 (kk h22 (kk ⟨h23,rfl⟩ Ob.ok_nil)))))))))))))))))))))))
theorem f16_FTFFT_e(st s1 s2 s3:St)(w p19 p71:Nat)(x v24a:AV)(n24b n33 n39 n53 n64 n65b n74:Int)(w65a:ByteArray):evC sL2 16 [(pt w),x] st [.eff (pt p19) id,.eff (.tup [v24a,(i64 n24b)]) (fun _=>s1),.av FF,.eff (i64 n33) id,.av TT,.eff (i64 n39) id,.av FF,.eff (i64 n53) id,.av FF,.eff (i64 n64) id,.eff (.tup [(str w65a),(i64 n65b)]) (fun _=>s2),.eff (pt p71) id,.eff (i64 n74) (fun _=>s3),.av TT]=some ((.tup [(i64 0),(i64 n74)]),s3,[],[loadA E0 st 38 (pt w)=some (pt p19)∧st=st,obC 7 [x] st (.tup [v24a,(i64 n24b)]) s1,Bt 23 .neq n24b 0 FF,LI s1 w 2 n33∧s1=s1,Bt 3 .gtr n33 0 TT,LI s1 w 3 n39∧s1=s1,Bt 3 .eql n39 8 FF,LI s1 w 2 n53∧s1=s1,Bt 3 .eql n53 0 FF,LI s1 w 2 n64∧s1=s1,obC 5 [(i64 n64)] s1 (.tup [(str w65a),(i64 n65b)]) s2,loadA E0 s2 38 (pt w)=some (pt p71)∧s2=s2,obC 32 [(pt p71),(str w65a),v24a] s2 (i64 n74) s3,Bt 23 .neq n74 0 TT]):=by kernel_rfl
theorem f16_FTFFT{st s1 s2 s3:St}{w p19 p71:Nat}{x v24a:AV}{n24b n33 n39 n53 n64 n65b n74:Int}{w65a:ByteArray}(h1:loadA E0 st 38 (pt w)=some (pt p19))(h2:obC 7 [x] st (.tup [v24a,(i64 n24b)]) s1)(h3:Bt 23 .neq n24b 0 FF)(h4:LI s1 w 2 n33)(h5:Bt 3 .gtr n33 0 TT)(h6:LI s1 w 3 n39)(h7:Bt 3 .eql n39 8 FF)(h8:LI s1 w 2 n53)(h9:Bt 3 .eql n53 0 FF)(h10:LI s1 w 2 n64)(h11:obC 5 [(i64 n64)] s1 (.tup [(str w65a),(i64 n65b)]) s2)(h12:loadA E0 s2 38 (pt w)=some (pt p71))(h13:obC 32 [(pt p71),(str w65a),v24a] s2 (i64 n74) s3)(h14:Bt 23 .neq n74 0 TT):obC 16 [(pt w),x] st (.tup [(i64 0),(i64 n74)]) s3:=ACalls.run hE noOv_ok (f16_FTFFT_e st s1 s2 s3 w p19 p71 x v24a n24b n33 n39 n53 n64 n65b n74 w65a) (kk ⟨h1,rfl⟩ (kk h2 (kk h3 (kk ⟨h4,rfl⟩ (kk h5 (kk ⟨h6,rfl⟩ (kk h7 (kk ⟨h8,rfl⟩ (kk h9 (kk ⟨h10,rfl⟩ (kk h11 (kk ⟨h12,rfl⟩ (kk h13 (kk h14 Ob.ok_nil))))))))))))))
theorem f16_FTFFF_e(st s1 s2 s3 s4:St)(w p19 p71:Nat)(x v24a:AV)(n24b n33 n39 n53 n64 n65b n74 n81 n82 n88:Int)(w65a:ByteArray):evC sL2 16 [(pt w),x] st [.eff (pt p19) id,.eff (.tup [v24a,(i64 n24b)]) (fun _=>s1),.av FF,.eff (i64 n33) id,.av TT,.eff (i64 n39) id,.av FF,.eff (i64 n53) id,.av FF,.eff (i64 n64) id,.eff (.tup [(str w65a),(i64 n65b)]) (fun _=>s2),.eff (pt p71) id,.eff (i64 n74) (fun _=>s3),.av FF,.eff (i64 n81) id,.av (i64 n82),.eff .undef (fun _=>s4),.eff (i64 n88) id]=some ((.tup [(i64 n88),(i64 0)]),s4,[],[loadA E0 st 38 (pt w)=some (pt p19)∧st=st,obC 7 [x] st (.tup [v24a,(i64 n24b)]) s1,Bt 23 .neq n24b 0 FF,LI s1 w 2 n33∧s1=s1,Bt 3 .gtr n33 0 TT,LI s1 w 3 n39∧s1=s1,Bt 3 .eql n39 8 FF,LI s1 w 2 n53∧s1=s1,Bt 3 .eql n53 0 FF,LI s1 w 2 n64∧s1=s1,obC 5 [(i64 n64)] s1 (.tup [(str w65a),(i64 n65b)]) s2,loadA E0 s2 38 (pt w)=some (pt p71)∧s2=s2,obC 32 [(pt p71),(str w65a),v24a] s2 (i64 n74) s3,Bt 23 .neq n74 0 FF,LI s3 w 3 n81∧s3=s3,Bt 3 .add n81 1 (i64 n82),storeA E0 s3 3 (.ptr w 3) (i64 n82)=some s4,LI s4 w 2 n88∧s4=s4]):=by kernel_rfl
theorem f16_FTFFF{st s1 s2 s3 s4:St}{w p19 p71:Nat}{x v24a:AV}{n24b n33 n39 n53 n64 n65b n74 n81 n82 n88:Int}{w65a:ByteArray}(h1:loadA E0 st 38 (pt w)=some (pt p19))(h2:obC 7 [x] st (.tup [v24a,(i64 n24b)]) s1)(h3:Bt 23 .neq n24b 0 FF)(h4:LI s1 w 2 n33)(h5:Bt 3 .gtr n33 0 TT)(h6:LI s1 w 3 n39)(h7:Bt 3 .eql n39 8 FF)(h8:LI s1 w 2 n53)(h9:Bt 3 .eql n53 0 FF)(h10:LI s1 w 2 n64)(h11:obC 5 [(i64 n64)] s1 (.tup [(str w65a),(i64 n65b)]) s2)(h12:loadA E0 s2 38 (pt w)=some (pt p71))(h13:obC 32 [(pt p71),(str w65a),v24a] s2 (i64 n74) s3)(h14:Bt 23 .neq n74 0 FF)(h15:LI s3 w 3 n81)(h16:Bt 3 .add n81 1 (i64 n82))(h17:storeA E0 s3 3 (.ptr w 3) (i64 n82)=some s4)(h18:LI s4 w 2 n88):obC 16 [(pt w),x] st (.tup [(i64 n88),(i64 0)]) s4:=ACalls.run hE noOv_ok (f16_FTFFF_e st s1 s2 s3 s4 w p19 p71 x v24a n24b n33 n39 n53 n64 n65b n74 n81 n82 n88 w65a) (kk ⟨h1,rfl⟩ (kk h2 (kk h3 (kk ⟨h4,rfl⟩ (kk h5 (kk ⟨h6,rfl⟩ (kk h7 (kk ⟨h8,rfl⟩ (kk h9 (kk ⟨h10,rfl⟩ (kk h11 (kk ⟨h12,rfl⟩ (kk h13 (kk h14 (kk ⟨h15,rfl⟩ (kk h16 (kk h17 (kk ⟨h18,rfl⟩ Ob.ok_nil))))))))))))))))))
theorem f16_FFTT_e(st s1 s2:St)(w p19:Nat)(x v24a:AV)(n24b n33 n53 n56:Int):evC sL2 16 [(pt w),x] st [.eff (pt p19) id,.eff (.tup [v24a,(i64 n24b)]) (fun _=>s1),.av FF,.eff (i64 n33) id,.av FF,.eff (i64 n53) id,.av TT,.eff (i64 n56) (fun _=>s2),.av TT]=some ((.tup [(i64 0),(i64 n56)]),s2,[],[loadA E0 st 38 (pt w)=some (pt p19)∧st=st,obC 7 [x] st (.tup [v24a,(i64 n24b)]) s1,Bt 23 .neq n24b 0 FF,LI s1 w 2 n33∧s1=s1,Bt 3 .gtr n33 0 FF,LI s1 w 2 n53∧s1=s1,Bt 3 .eql n53 0 TT,obC 51 [(pt w)] s1 (i64 n56) s2,Bt 23 .neq n56 0 TT]):=by kernel_rfl
theorem f16_FFTT{st s1 s2:St}{w p19:Nat}{x v24a:AV}{n24b n33 n53 n56:Int}(h1:loadA E0 st 38 (pt w)=some (pt p19))(h2:obC 7 [x] st (.tup [v24a,(i64 n24b)]) s1)(h3:Bt 23 .neq n24b 0 FF)(h4:LI s1 w 2 n33)(h5:Bt 3 .gtr n33 0 FF)(h6:LI s1 w 2 n53)(h7:Bt 3 .eql n53 0 TT)(h8:obC 51 [(pt w)] s1 (i64 n56) s2)(h9:Bt 23 .neq n56 0 TT):obC 16 [(pt w),x] st (.tup [(i64 0),(i64 n56)]) s2:=ACalls.run hE noOv_ok (f16_FFTT_e st s1 s2 w p19 x v24a n24b n33 n53 n56) (kk ⟨h1,rfl⟩ (kk h2 (kk h3 (kk ⟨h4,rfl⟩ (kk h5 (kk ⟨h6,rfl⟩ (kk h7 (kk h8 (kk h9 Ob.ok_nil)))))))))
theorem f16_FFTFT_e(st s1 s2 s3 s4:St)(w p19 p71:Nat)(x v24a:AV)(n24b n33 n53 n56 n64 n65b n74:Int)(w65a:ByteArray):evC sL2 16 [(pt w),x] st [.eff (pt p19) id,.eff (.tup [v24a,(i64 n24b)]) (fun _=>s1),.av FF,.eff (i64 n33) id,.av FF,.eff (i64 n53) id,.av TT,.eff (i64 n56) (fun _=>s2),.av FF,.eff (i64 n64) id,.eff (.tup [(str w65a),(i64 n65b)]) (fun _=>s3),.eff (pt p71) id,.eff (i64 n74) (fun _=>s4),.av TT]=some ((.tup [(i64 0),(i64 n74)]),s4,[],[loadA E0 st 38 (pt w)=some (pt p19)∧st=st,obC 7 [x] st (.tup [v24a,(i64 n24b)]) s1,Bt 23 .neq n24b 0 FF,LI s1 w 2 n33∧s1=s1,Bt 3 .gtr n33 0 FF,LI s1 w 2 n53∧s1=s1,Bt 3 .eql n53 0 TT,obC 51 [(pt w)] s1 (i64 n56) s2,Bt 23 .neq n56 0 FF,LI s2 w 2 n64∧s2=s2,obC 5 [(i64 n64)] s2 (.tup [(str w65a),(i64 n65b)]) s3,loadA E0 s3 38 (pt w)=some (pt p71)∧s3=s3,obC 32 [(pt p71),(str w65a),v24a] s3 (i64 n74) s4,Bt 23 .neq n74 0 TT]):=by kernel_rfl
theorem f16_FFTFT{st s1 s2 s3 s4:St}{w p19 p71:Nat}{x v24a:AV}{n24b n33 n53 n56 n64 n65b n74:Int}{w65a:ByteArray}(h1:loadA E0 st 38 (pt w)=some (pt p19))(h2:obC 7 [x] st (.tup [v24a,(i64 n24b)]) s1)(h3:Bt 23 .neq n24b 0 FF)(h4:LI s1 w 2 n33)(h5:Bt 3 .gtr n33 0 FF)(h6:LI s1 w 2 n53)(h7:Bt 3 .eql n53 0 TT)(h8:obC 51 [(pt w)] s1 (i64 n56) s2)(h9:Bt 23 .neq n56 0 FF)(h10:LI s2 w 2 n64)(h11:obC 5 [(i64 n64)] s2 (.tup [(str w65a),(i64 n65b)]) s3)(h12:loadA E0 s3 38 (pt w)=some (pt p71))(h13:obC 32 [(pt p71),(str w65a),v24a] s3 (i64 n74) s4)(h14:Bt 23 .neq n74 0 TT):obC 16 [(pt w),x] st (.tup [(i64 0),(i64 n74)]) s4:=ACalls.run hE noOv_ok (f16_FFTFT_e st s1 s2 s3 s4 w p19 p71 x v24a n24b n33 n53 n56 n64 n65b n74 w65a) (kk ⟨h1,rfl⟩ (kk h2 (kk h3 (kk ⟨h4,rfl⟩ (kk h5 (kk ⟨h6,rfl⟩ (kk h7 (kk h8 (kk h9 (kk ⟨h10,rfl⟩ (kk h11 (kk ⟨h12,rfl⟩ (kk h13 (kk h14 Ob.ok_nil))))))))))))))
theorem f16_FFTFF_e(st s1 s2 s3 s4 s5:St)(w p19 p71:Nat)(x v24a:AV)(n24b n33 n53 n56 n64 n65b n74 n81 n82 n88:Int)(w65a:ByteArray):evC sL2 16 [(pt w),x] st [.eff (pt p19) id,.eff (.tup [v24a,(i64 n24b)]) (fun _=>s1),.av FF,.eff (i64 n33) id,.av FF,.eff (i64 n53) id,.av TT,.eff (i64 n56) (fun _=>s2),.av FF,.eff (i64 n64) id,.eff (.tup [(str w65a),(i64 n65b)]) (fun _=>s3),.eff (pt p71) id,.eff (i64 n74) (fun _=>s4),.av FF,.eff (i64 n81) id,.av (i64 n82),.eff .undef (fun _=>s5),.eff (i64 n88) id]=some ((.tup [(i64 n88),(i64 0)]),s5,[],[loadA E0 st 38 (pt w)=some (pt p19)∧st=st,obC 7 [x] st (.tup [v24a,(i64 n24b)]) s1,Bt 23 .neq n24b 0 FF,LI s1 w 2 n33∧s1=s1,Bt 3 .gtr n33 0 FF,LI s1 w 2 n53∧s1=s1,Bt 3 .eql n53 0 TT,obC 51 [(pt w)] s1 (i64 n56) s2,Bt 23 .neq n56 0 FF,LI s2 w 2 n64∧s2=s2,obC 5 [(i64 n64)] s2 (.tup [(str w65a),(i64 n65b)]) s3,loadA E0 s3 38 (pt w)=some (pt p71)∧s3=s3,obC 32 [(pt p71),(str w65a),v24a] s3 (i64 n74) s4,Bt 23 .neq n74 0 FF,LI s4 w 3 n81∧s4=s4,Bt 3 .add n81 1 (i64 n82),storeA E0 s4 3 (.ptr w 3) (i64 n82)=some s5,LI s5 w 2 n88∧s5=s5]):=by kernel_rfl
theorem f16_FFTFF{st s1 s2 s3 s4 s5:St}{w p19 p71:Nat}{x v24a:AV}{n24b n33 n53 n56 n64 n65b n74 n81 n82 n88:Int}{w65a:ByteArray}(h1:loadA E0 st 38 (pt w)=some (pt p19))(h2:obC 7 [x] st (.tup [v24a,(i64 n24b)]) s1)(h3:Bt 23 .neq n24b 0 FF)(h4:LI s1 w 2 n33)(h5:Bt 3 .gtr n33 0 FF)(h6:LI s1 w 2 n53)(h7:Bt 3 .eql n53 0 TT)(h8:obC 51 [(pt w)] s1 (i64 n56) s2)(h9:Bt 23 .neq n56 0 FF)(h10:LI s2 w 2 n64)(h11:obC 5 [(i64 n64)] s2 (.tup [(str w65a),(i64 n65b)]) s3)(h12:loadA E0 s3 38 (pt w)=some (pt p71))(h13:obC 32 [(pt p71),(str w65a),v24a] s3 (i64 n74) s4)(h14:Bt 23 .neq n74 0 FF)(h15:LI s4 w 3 n81)(h16:Bt 3 .add n81 1 (i64 n82))(h17:storeA E0 s4 3 (.ptr w 3) (i64 n82)=some s5)(h18:LI s5 w 2 n88):obC 16 [(pt w),x] st (.tup [(i64 n88),(i64 0)]) s5:=ACalls.run hE noOv_ok (f16_FFTFF_e st s1 s2 s3 s4 s5 w p19 p71 x v24a n24b n33 n53 n56 n64 n65b n74 n81 n82 n88 w65a) (kk ⟨h1,rfl⟩ (kk h2 (kk h3 (kk ⟨h4,rfl⟩ (kk h5 (kk ⟨h6,rfl⟩ (kk h7 (kk h8 (kk h9 (kk ⟨h10,rfl⟩ (kk h11 (kk ⟨h12,rfl⟩ (kk h13 (kk h14 (kk ⟨h15,rfl⟩ (kk h16 (kk h17 (kk ⟨h18,rfl⟩ Ob.ok_nil))))))))))))))))))
abbrev sL3:List Nat:= [6047,6048,7019,7022]
theorem f13_FF_e(st s1 s2:St)(q n10b n15b:Int)(p10a p15a:Nat):evC sL3 13 [(i64 q)] st [.eff (.tup [(pt p10a),(i64 n10b)]) (fun _=>s1),.eff (.tup [(pt p15a),(i64 n15b)]) (fun _=>s2),.av FF,.av FF]=some ((.tup [(pt p10a),(pt p15a)]),s2,[],[obC 47 [(i64 q)] st (.tup [(pt p10a),(i64 n10b)]) s1,obC 48 [(i64 q)] s1 (.tup [(pt p15a),(i64 n15b)]) s2,Bt 23 .neq n10b 0 FF,Bt 3 .neq n15b 0 FF]):=by kernel_rfl
theorem f13_FF{st s1 s2:St}{q n10b n15b:Int}{p10a p15a:Nat}(h1:obC 47 [(i64 q)] st (.tup [(pt p10a),(i64 n10b)]) s1)(h2:obC 48 [(i64 q)] s1 (.tup [(pt p15a),(i64 n15b)]) s2)(h3:Bt 23 .neq n10b 0 FF)(h4:Bt 3 .neq n15b 0 FF):obC 13 [(i64 q)] st (.tup [(pt p10a),(pt p15a)]) s2:=ACalls.run hE noOv_ok (f13_FF_e st s1 s2 q n10b n15b p10a p15a) (kk h1 (kk h2 (kk h3 (kk h4 Ob.ok_nil))))
abbrev sL4:List Nat:= [2006,2008,7009]
theorem f11_T_e(st:St)(x y:AV)(w6 w8:ByteArray):evC sL4 11 [x,y] st [.eff (str w6) id,.eff (str w8) id,.av TT]=some (TT,st,[],[convO E0 st 22 9 x=some ((str w6),st),convO E0 st 22 9 y=some ((str w8),st),binA E0 .eql 9 (str w6) (str w8)=some TT]):=by kernel_rfl
theorem f11_T{st:St}{x y:AV}{w6 w8:ByteArray}(h1:convO E0 st 22 9 x=some ((str w6),st))(h2:convO E0 st 22 9 y=some ((str w8),st))(h3:binA E0 .eql 9 (str w6) (str w8)=some TT):obC 11 [x,y] st TT st:=ACalls.run hE noOv_ok (f11_T_e st x y w6 w8) (kk h1 (kk h2 (kk h3 Ob.ok_nil)))
noncomputable def f36P(i:Nat):Code:=match Tryz.f36.body with
 |some (.seq x0 (.seq x1 (.seq x2 (.seq (.seq x3 (.block 0 (.loop x4))) x5))))=> [x0,x1,x2,x3,x4,x5].getD i .skip
 |_=> .skip
theorem f36body:Tryz.f36.body=some (.seq (f36P 0) (.seq (f36P 1) (.seq (f36P 2) (.seq (.seq (f36P 3) (.block 0 (.loop (f36P 4)))) (f36P 5))))):=by kernel_rfl
def f36L0(T:Tm)(a0:AV):Prop:=T.n=29∧T.get 0=a0
noncomputable abbrev evR(G:Tm→List AV)(ss:List Nat)(c:Code)(T:Tm)(st:St)(x:List Or):=(evS Tryz.prog E0 noOv noS 100000 ss c T st x).map fun q=>(q.1,q.2.1.n,G q.2.1,q.2.2.1,q.2.2.2.2)
theorem genR{G:Tm→List AV}{ss:List Nat}{c:Code}{n0 n:Nat}{l:List (Nat×AV)}{st st1:St}{x:List Or}{e:Exit}{F:List AV}{ob:Ob}{Q:Exit→Tm→St→Prop}(h:evR G ss c ⟨n0,l,[]⟩ st x=some (e,n,F,st1,ob))(hob:ob.ok){T:Tm}(hn:T.n=n0)(hT:∀p∈l,T.get p.1=p.2)(k:∀T',T'.n=n→G T'=F→Q e T' st1):AW Tryz.prog c Q T st:=
  (gen_run hE h hob hn hT).mono fun ex T' st' ⟨q1,q2,q3,q4⟩=>by subst q1;subst q4;exact k T' q2 q3
abbrev gA0(T:Tm):List AV:= [T.get 0]
theorem f36_0_e(w:Nat)(st:St):evR gA0 [] (f36P 0) ⟨29,[(0,(pt w))],[]⟩ st []=some (.normal,29,[(pt w)],st,[]):=by kernel_rfl
theorem f36_0{w:Nat}{st:St}{T:Tm}(hT:f36L0 T (pt w)):AW Tryz.prog (f36P 0) (fun ex T' st'=>ex= .normal∧f36L0 T' (pt w)∧st'=st) T st:=by
 obtain ⟨hn,g0⟩:=hT
 exact genR (f36_0_e w st) Ob.ok_nil hn (one g0) fun T' q2 q3=>by simp only [gA0,List.cons.injEq,and_true] at q3;exact ⟨rfl,⟨q2,q3⟩,rfl⟩
theorem f36_1_e(w:Nat)(st:St):evR gA0 [] (f36P 1) ⟨29,[(0,(pt w))],[]⟩ st []=some (.normal,29,[(pt w)],st,[]):=by kernel_rfl
theorem f36_1{w:Nat}{st:St}{T:Tm}(hT:f36L0 T (pt w)):AW Tryz.prog (f36P 1) (fun ex T' st'=>ex= .normal∧f36L0 T' (pt w)∧st'=st) T st:=by
 obtain ⟨hn,g0⟩:=hT
 exact genR (f36_1_e w st) Ob.ok_nil hn (one g0) fun T' q2 q3=>by simp only [gA0,List.cons.injEq,and_true] at q3;exact ⟨rfl,⟨q2,q3⟩,rfl⟩
def f36L1(T:Tm)(a0 a3:AV):Prop:=T.n=29∧T.get 0=a0∧T.get 3=a3
abbrev gA1(T:Tm):List AV:= [T.get 0,T.get 3]
theorem f36_2_e(w:Nat)(st:St):evR gA1 [] (f36P 2) ⟨29,[(0,(pt w))],[]⟩ st []=some (.normal,29,[(pt w),.nils],st,[]):=by kernel_rfl
theorem f36_2{w:Nat}{st:St}{T:Tm}(hT:f36L0 T (pt w)):AW Tryz.prog (f36P 2) (fun ex T' st'=>ex= .normal∧f36L1 T' (pt w) .nils∧st'=st) T st:=by
 obtain ⟨hn,g0⟩:=hT
 exact genR (f36_2_e w st) Ob.ok_nil hn (one g0) fun T' q2 q3=>by simp only [gA1,List.cons.injEq,and_true] at q3;exact ⟨rfl,⟨q2,q3⟩,rfl⟩
def f36L2(T:Tm)(a3 a13 a14 a15:AV):Prop:=T.n=29∧T.get 3=a3∧T.get 13=a13∧T.get 14=a14∧T.get 15=a15
abbrev gA2(T:Tm):List AV:= [T.get 3,T.get 13,T.get 14,T.get 15]
abbrev sL5:List Nat:= [2012,6056,7014]
theorem f36_3_e(w p12:Nat)(v3 v13:AV)(st s1:St)(n14:Int):evR gA2 sL5 (f36P 3) ⟨29,[(0,(pt w)),(3,v3)],[]⟩ st [.eff (pt p12) id,.eff v13 (fun _=>s1),.av (i64 n14)]=some (.normal,29,[v3,v13,(i64 n14),(i64 0)],s1,[loadA E0 st 38 (pt w)=some (pt p12)∧st=st,obC 56 [(pt p12)] st v13 s1,lenA E0 101 v13=some (i64 n14)]):=by kernel_rfl
theorem f36_3{w p12:Nat}{v3 v13:AV}{st s1:St}{n14:Int}(h1:loadA E0 st 38 (pt w)=some (pt p12))(h2:obC 56 [(pt p12)] st v13 s1)(h3:lenA E0 101 v13=some (i64 n14)){T:Tm}(hT:f36L1 T (pt w) v3):AW Tryz.prog (f36P 3) (fun ex T' st'=>ex= .normal∧f36L2 T' v3 v13 (i64 n14) (i64 0)∧st'=s1) T st:=by
 obtain ⟨hn,g0,g3⟩:=hT
 exact genR (f36_3_e w p12 v3 v13 st s1 n14) (kk ⟨h1,rfl⟩ (kk h2 (kk h3 Ob.ok_nil))) hn (conz g0 (one g3)) fun T' q2 q3=>by simp only [gA2,List.cons.injEq,and_true] at q3;exact ⟨rfl,⟨q2,q3⟩,rfl⟩
abbrev sL6:List Nat:= [2018,2025,2026,6071,7016,7017,7022,7027]
theorem f36_4_TT_e(v3 v13 q17 v25 v26:AV)(n14 n15 n20 n27:Int)(st s1 s2 s3:St)(w18:ByteArray):evR gA2 sL6 (f36P 4) ⟨29,[(3,v3),(13,v13),(14,(i64 n14)),(15,(i64 n15))],[]⟩ st [.av TT,.av q17,.eff (str w18) id,.eff (i64 n20) (fun _=>s1),.av TT,.eff v25 (fun _=>s2),.eff v26 (fun _=>s3),.av (i64 n27)]=some (.normal,29,[v26,v13,(i64 n14),(i64 n27)],s3,[Bt 3 .lss n15 n14 TT,indexAddrA E0 101 v13 (i64 n15)=some q17,loadA E0 st 9 q17=some (str w18)∧st=st,obC 71 [(str w18)] st (i64 n20) s1,Bt 3 .gtr n20 0 TT,buildSliceA E0 s1 73 1 [(0,(i64 n20))]=some (v25,s2),appendA E0 s2 73 73 v3 v25=some (v26,s3),Bt 3 .add n15 1 (i64 n27)]):=by kernel_rfl
theorem f36_4_TT{v3 v13 q17 v25 v26:AV}{n14 n15 n20 n27:Int}{st s1 s2 s3:St}{w18:ByteArray}(h1:Bt 3 .lss n15 n14 TT)(h2:indexAddrA E0 101 v13 (i64 n15)=some q17)(h3:loadA E0 st 9 q17=some (str w18))(h4:obC 71 [(str w18)] st (i64 n20) s1)(h5:Bt 3 .gtr n20 0 TT)(h6:buildSliceA E0 s1 73 1 [(0,(i64 n20))]=some (v25,s2))(h7:appendA E0 s2 73 73 v3 v25=some (v26,s3))(h8:Bt 3 .add n15 1 (i64 n27)){T:Tm}(hT:f36L2 T v3 v13 (i64 n14) (i64 n15)):AW Tryz.prog (f36P 4) (fun ex T' st'=>ex= .normal∧f36L2 T' v26 v13 (i64 n14) (i64 n27)∧st'=s3) T st:=by
 obtain ⟨hn,g3,g13,g14,g15⟩:=hT
 exact genR (f36_4_TT_e v3 v13 q17 v25 v26 n14 n15 n20 n27 st s1 s2 s3 w18) (kk h1 (kk h2 (kk ⟨h3,rfl⟩ (kk h4 (kk h5 (kk h6 (kk h7 (kk h8 Ob.ok_nil)))))))) hn (conz g3 (conz g13 (conz g14 (one g15)))) fun T' q2 q3=>by simp only [gA2,List.cons.injEq,and_true] at q3;exact ⟨rfl,⟨q2,q3⟩,rfl⟩
theorem f36_4_TF_e(v3 v13 q17:AV)(n14 n15 n20 n27:Int)(st s1:St)(w18:ByteArray):evR gA2 sL6 (f36P 4) ⟨29,[(3,v3),(13,v13),(14,(i64 n14)),(15,(i64 n15))],[]⟩ st [.av TT,.av q17,.eff (str w18) id,.eff (i64 n20) (fun _=>s1),.av FF,.av (i64 n27)]=some (.normal,29,[v3,v13,(i64 n14),(i64 n27)],s1,[Bt 3 .lss n15 n14 TT,indexAddrA E0 101 v13 (i64 n15)=some q17,loadA E0 st 9 q17=some (str w18)∧st=st,obC 71 [(str w18)] st (i64 n20) s1,Bt 3 .gtr n20 0 FF,Bt 3 .add n15 1 (i64 n27)]):=by kernel_rfl
theorem f36_4_TF{v3 v13 q17:AV}{n14 n15 n20 n27:Int}{st s1:St}{w18:ByteArray}(h1:Bt 3 .lss n15 n14 TT)(h2:indexAddrA E0 101 v13 (i64 n15)=some q17)(h3:loadA E0 st 9 q17=some (str w18))(h4:obC 71 [(str w18)] st (i64 n20) s1)(h5:Bt 3 .gtr n20 0 FF)(h6:Bt 3 .add n15 1 (i64 n27)){T:Tm}(hT:f36L2 T v3 v13 (i64 n14) (i64 n15)):AW Tryz.prog (f36P 4) (fun ex T' st'=>ex= .normal∧f36L2 T' v3 v13 (i64 n14) (i64 n27)∧st'=s1) T st:=by
 obtain ⟨hn,g3,g13,g14,g15⟩:=hT
 exact genR (f36_4_TF_e v3 v13 q17 n14 n15 n20 n27 st s1 w18) (kk h1 (kk h2 (kk ⟨h3,rfl⟩ (kk h4 (kk h5 (kk h6 Ob.ok_nil)))))) hn (conz g3 (conz g13 (conz g14 (one g15)))) fun T' q2 q3=>by simp only [gA2,List.cons.injEq,and_true] at q3;exact ⟨rfl,⟨q2,q3⟩,rfl⟩
def f36L3(T:Tm)(a3:AV):Prop:=T.n=29∧T.get 3=a3
abbrev gA3(T:Tm):List AV:= [T.get 3]
theorem f36_4_F_e(v3 v13:AV)(n14 n15:Int)(st:St):evR gA3 sL6 (f36P 4) ⟨29,[(3,v3),(13,v13),(14,(i64 n14)),(15,(i64 n15))],[]⟩ st [.av FF]=some ((.exit 0),29,[v3],st,[Bt 3 .lss n15 n14 FF]):=by kernel_rfl
theorem f36_4_F{v3 v13:AV}{n14 n15:Int}{st:St}(h1:Bt 3 .lss n15 n14 FF){T:Tm}(hT:f36L2 T v3 v13 (i64 n14) (i64 n15)):AW Tryz.prog (f36P 4) (fun ex T' st'=>ex=(.exit 0)∧f36L3 T' v3∧st'=st) T st:=by
 obtain ⟨hn,g3,g13,g14,g15⟩:=hT
 exact genR (f36_4_F_e v3 v13 n14 n15 st) (kk h1 Ob.ok_nil) hn (conz g3 (conz g13 (conz g14 (one g15)))) fun T' q2 q3=>by simp only [gA3,List.cons.injEq,and_true] at q3;exact ⟨rfl,⟨q2,q3⟩,rfl⟩
def f36L4(T:Tm)(a2:AV):Prop:=T.n=29∧T.get 2=a2
abbrev gA4(T:Tm):List AV:= [T.get 2]
theorem f36_5_e(v3:AV)(st:St):evR gA4 [] (f36P 5) ⟨29,[(3,v3)],[]⟩ st []=some (.ret,29,[v3],st,[]):=by kernel_rfl
theorem f36_5{v3:AV}{st:St}{T:Tm}(hT:f36L3 T v3):AW Tryz.prog (f36P 5) (fun ex T' st'=>ex= .ret∧f36L4 T' v3∧st'=st) T st:=by
 obtain ⟨hn,g3⟩:=hT
 exact genR (f36_5_e v3 st) Ob.ok_nil hn (one g3) fun T' q2 q3=>by simp only [gA4,List.cons.injEq,and_true] at q3;exact ⟨rfl,⟨q2,q3⟩,rfl⟩
noncomputable def f20P(i:Nat):Code:=match Tryz.f20.body with
 |some (.seq x0 (.seq x1 (.seq (.seq x2 (.block 0 (.loop x3))) x4)))=> [x0,x1,x2,x3,x4].getD i .skip
 |_=> .skip
theorem f20body:Tryz.f20.body=some (.seq (f20P 0) (.seq (f20P 1) (.seq (.seq (f20P 2) (.block 0 (.loop (f20P 3)))) (f20P 4)))):=by kernel_rfl
def f20L0(T:Tm)(a0 a1:AV):Prop:=T.n=52∧T.get 0=a0∧T.get 1=a1
abbrev gA5(T:Tm):List AV:= [T.get 0,T.get 1]
theorem f20_0_e(w:Nat)(n1:Int)(st:St):evR gA5 [] (f20P 0) ⟨52,[(0,(pt w)),(1,(i64 n1))],[]⟩ st []=some (.normal,52,[(pt w),(i64 n1)],st,[]):=by kernel_rfl
theorem f20_0{w:Nat}{n1:Int}{st:St}{T:Tm}(hT:f20L0 T (pt w) (i64 n1)):AW Tryz.prog (f20P 0) (fun ex T' st'=>ex= .normal∧f20L0 T' (pt w) (i64 n1)∧st'=st) T st:=by
 obtain ⟨hn,g0,g1⟩:=hT
 exact genR (f20_0_e w n1 st) Ob.ok_nil hn (conz g0 (one g1)) fun T' q2 q3=>by simp only [gA5,List.cons.injEq,and_true] at q3;exact ⟨rfl,⟨q2,q3⟩,rfl⟩
theorem f20_1_e(w p16:Nat)(n1:Int)(st:St):evR gA5 [2016] (f20P 1) ⟨52,[(0,(pt w)),(1,(i64 n1))],[]⟩ st [.eff (pt p16) id]=some (.normal,52,[(pt w),(i64 n1)],st,[loadA E0 st 38 (pt w)=some (pt p16)∧st=st]):=by kernel_rfl
theorem f20_1{w p16:Nat}{n1:Int}{st:St}(h1:loadA E0 st 38 (pt w)=some (pt p16)){T:Tm}(hT:f20L0 T (pt w) (i64 n1)):AW Tryz.prog (f20P 1) (fun ex T' st'=>ex= .normal∧f20L0 T' (pt w) (i64 n1)∧st'=st) T st:=by
 obtain ⟨hn,g0,g1⟩:=hT
 exact genR (f20_1_e w p16 n1 st) (kk ⟨h1,rfl⟩ Ob.ok_nil) hn (conz g0 (one g1)) fun T' q2 q3=>by simp only [gA5,List.cons.injEq,and_true] at q3;exact ⟨rfl,⟨q2,q3⟩,rfl⟩
def f20L1(T:Tm)(a0 a1 a20 a21 a22:AV):Prop:=T.n=52∧T.get 0=a0∧T.get 1=a1∧T.get 20=a20∧T.get 21=a21∧T.get 22=a22
abbrev gA6(T:Tm):List AV:= [T.get 0,T.get 1,T.get 20,T.get 21,T.get 22]
theorem f20_2_e(w:Nat)(n1 n21:Int)(st s1:St)(v20:AV):evR gA6 [6036,7021] (f20P 2) ⟨52,[(0,(pt w)),(1,(i64 n1))],[]⟩ st [.eff v20 (fun _=>s1),.av (i64 n21)]=some (.normal,52,[(pt w),(i64 n1),v20,(i64 n21),(i64 0)],s1,[obC 36 [(pt w)] st v20 s1,lenA E0 73 v20=some (i64 n21)]):=by kernel_rfl
theorem f20_2{w:Nat}{n1 n21:Int}{st s1:St}{v20:AV}(h1:obC 36 [(pt w)] st v20 s1)(h2:lenA E0 73 v20=some (i64 n21)){T:Tm}(hT:f20L0 T (pt w) (i64 n1)):AW Tryz.prog (f20P 2) (fun ex T' st'=>ex= .normal∧f20L1 T' (pt w) (i64 n1) v20 (i64 n21) (i64 0)∧st'=s1) T st:=by
 obtain ⟨hn,g0,g1⟩:=hT
 exact genR (f20_2_e w n1 n21 st s1 v20) (kk h1 (kk h2 Ob.ok_nil)) hn (conz g0 (one g1)) fun T' q2 q3=>by simp only [gA6,List.cons.injEq,and_true] at q3;exact ⟨rfl,⟨q2,q3⟩,rfl⟩
abbrev sL7:List Nat:= [2025,2034,2045,6005,6054,7023,7024,7028,7035,7049,7051]
theorem f20_3_TT_e(w:Nat)(n1 n21 n22 n25 n51:Int)(v20 q24:AV)(st:St):evR gA6 sL7 (f20P 3) ⟨52,[(0,(pt w)),(1,(i64 n1)),(20,v20),(21,(i64 n21)),(22,(i64 n22))],[]⟩ st [.av TT,.av q24,.eff (i64 n25) id,.av TT,.av (i64 n51)]=some (.normal,52,[(pt w),(i64 n1),v20,(i64 n21),(i64 n51)],st,[Bt 3 .lss n22 n21 TT,indexAddrA E0 73 v20 (i64 n22)=some q24,loadA E0 st 3 q24=some (i64 n25)∧st=st,Bt 3 .geq n25 n1 TT,Bt 3 .add n22 1 (i64 n51)]):=by kernel_rfl
theorem f20_3_TT{w:Nat}{n1 n21 n22 n25 n51:Int}{v20 q24:AV}{st:St}(h1:Bt 3 .lss n22 n21 TT)(h2:indexAddrA E0 73 v20 (i64 n22)=some q24)(h3:loadA E0 st 3 q24=some (i64 n25))(h4:Bt 3 .geq n25 n1 TT)(h5:Bt 3 .add n22 1 (i64 n51)){T:Tm}(hT:f20L1 T (pt w) (i64 n1) v20 (i64 n21) (i64 n22)):AW Tryz.prog (f20P 3) (fun ex T' st'=>ex= .normal∧f20L1 T' (pt w) (i64 n1) v20 (i64 n21) (i64 n51)∧st'=st) T st:=by
 obtain ⟨hn,g0,g1,g20,g21,g22⟩:=hT
 exact genR (f20_3_TT_e w n1 n21 n22 n25 n51 v20 q24 st) (kk h1 (kk h2 (kk ⟨h3,rfl⟩ (kk h4 (kk h5 Ob.ok_nil))))) hn (conz g0 (conz g1 (conz g20 (conz g21 (one g22))))) fun T' q2 q3=>by simp only [gA6,List.cons.injEq,and_true] at q3;exact ⟨rfl,⟨q2,q3⟩,rfl⟩
theorem f20_3_TFT_e(w:Nat)(n1 n21 n22 n25 n34 n51:Int)(v20 q24:AV)(st:St):evR gA6 sL7 (f20P 3) ⟨52,[(0,(pt w)),(1,(i64 n1)),(20,v20),(21,(i64 n21)),(22,(i64 n22))],[]⟩ st [.av TT,.av q24,.eff (i64 n25) id,.av FF,.eff (i64 n34) id,.av TT,.av (i64 n51)]=some (.normal,52,[(pt w),(i64 n1),v20,(i64 n21),(i64 n51)],st,[Bt 3 .lss n22 n21 TT,indexAddrA E0 73 v20 (i64 n22)=some q24,loadA E0 st 3 q24=some (i64 n25)∧st=st,Bt 3 .geq n25 n1 FF,LI st w 2 n34∧st=st,Bt 3 .eql n25 n34 TT,Bt 3 .add n22 1 (i64 n51)]):=by kernel_rfl
theorem f20_3_TFT{w:Nat}{n1 n21 n22 n25 n34 n51:Int}{v20 q24:AV}{st:St}(h1:Bt 3 .lss n22 n21 TT)(h2:indexAddrA E0 73 v20 (i64 n22)=some q24)(h3:loadA E0 st 3 q24=some (i64 n25))(h4:Bt 3 .geq n25 n1 FF)(h5:LI st w 2 n34)(h6:Bt 3 .eql n25 n34 TT)(h7:Bt 3 .add n22 1 (i64 n51)){T:Tm}(hT:f20L1 T (pt w) (i64 n1) v20 (i64 n21) (i64 n22)):AW Tryz.prog (f20P 3) (fun ex T' st'=>ex= .normal∧f20L1 T' (pt w) (i64 n1) v20 (i64 n21) (i64 n51)∧st'=st) T st:=by
 obtain ⟨hn,g0,g1,g20,g21,g22⟩:=hT
 exact genR (f20_3_TFT_e w n1 n21 n22 n25 n34 n51 v20 q24 st) (kk h1 (kk h2 (kk ⟨h3,rfl⟩ (kk h4 (kk ⟨h5,rfl⟩ (kk h6 (kk h7 Ob.ok_nil))))))) hn (conz g0 (conz g1 (conz g20 (conz g21 (one g22))))) fun T' q2 q3=>by simp only [gA6,List.cons.injEq,and_true] at q3;exact ⟨rfl,⟨q2,q3⟩,rfl⟩
def f20L2(T:Tm)(a4:AV):Prop:=T.n=52∧T.get 4=a4
abbrev gA7(T:Tm):List AV:= [T.get 4]
theorem f20_3_TFFT_e(w p45:Nat)(n1 n21 n22 n25 n34 n39b n47:Int)(v20 q24:AV)(st s1 s2:St)(w39a:ByteArray):evR gA7 sL7 (f20P 3) ⟨52,[(0,(pt w)),(1,(i64 n1)),(20,v20),(21,(i64 n21)),(22,(i64 n22))],[]⟩ st [.av TT,.av q24,.eff (i64 n25) id,.av FF,.eff (i64 n34) id,.av FF,.eff (.tup [(str w39a),(i64 n39b)]) (fun _=>s1),.eff (pt p45) id,.eff (i64 n47) (fun _=>s2),.av TT]=some (.ret,52,[(i64 n47)],s2,[Bt 3 .lss n22 n21 TT,indexAddrA E0 73 v20 (i64 n22)=some q24,loadA E0 st 3 q24=some (i64 n25)∧st=st,Bt 3 .geq n25 n1 FF,LI st w 2 n34∧st=st,Bt 3 .eql n25 n34 FF,obC 5 [(i64 n25)] st (.tup [(str w39a),(i64 n39b)]) s1,loadA E0 s1 38 (pt w)=some (pt p45)∧s1=s1,obC 54 [(pt p45),(str w39a)] s1 (i64 n47) s2,Bt 23 .neq n47 0 TT]):=by kernel_rfl
theorem f20_3_TFFT{w p45:Nat}{n1 n21 n22 n25 n34 n39b n47:Int}{v20 q24:AV}{st s1 s2:St}{w39a:ByteArray}(h1:Bt 3 .lss n22 n21 TT)(h2:indexAddrA E0 73 v20 (i64 n22)=some q24)(h3:loadA E0 st 3 q24=some (i64 n25))(h4:Bt 3 .geq n25 n1 FF)(h5:LI st w 2 n34)(h6:Bt 3 .eql n25 n34 FF)(h7:obC 5 [(i64 n25)] st (.tup [(str w39a),(i64 n39b)]) s1)(h8:loadA E0 s1 38 (pt w)=some (pt p45))(h9:obC 54 [(pt p45),(str w39a)] s1 (i64 n47) s2)(h10:Bt 23 .neq n47 0 TT){T:Tm}(hT:f20L1 T (pt w) (i64 n1) v20 (i64 n21) (i64 n22)):AW Tryz.prog (f20P 3) (fun ex T' st'=>ex= .ret∧f20L2 T' (i64 n47)∧st'=s2) T st:=by
 obtain ⟨hn,g0,g1,g20,g21,g22⟩:=hT
 exact genR (f20_3_TFFT_e w p45 n1 n21 n22 n25 n34 n39b n47 v20 q24 st s1 s2 w39a) (kk h1 (kk h2 (kk ⟨h3,rfl⟩ (kk h4 (kk ⟨h5,rfl⟩ (kk h6 (kk h7 (kk ⟨h8,rfl⟩ (kk h9 (kk h10 Ob.ok_nil)))))))))) hn (conz g0 (conz g1 (conz g20 (conz g21 (one g22))))) fun T' q2 q3=>by simp only [gA7,List.cons.injEq,and_true] at q3;exact ⟨rfl,⟨q2,q3⟩,rfl⟩
theorem f20_3_TFFF_e(w p45:Nat)(n1 n21 n22 n25 n34 n39b n47 n51:Int)(v20 q24:AV)(st s1 s2:St)(w39a:ByteArray):evR gA6 sL7 (f20P 3) ⟨52,[(0,(pt w)),(1,(i64 n1)),(20,v20),(21,(i64 n21)),(22,(i64 n22))],[]⟩ st [.av TT,.av q24,.eff (i64 n25) id,.av FF,.eff (i64 n34) id,.av FF,.eff (.tup [(str w39a),(i64 n39b)]) (fun _=>s1),.eff (pt p45) id,.eff (i64 n47) (fun _=>s2),.av FF,.av (i64 n51)]=some (.normal,52,[(pt w),(i64 n1),v20,(i64 n21),(i64 n51)],s2,[Bt 3 .lss n22 n21 TT,indexAddrA E0 73 v20 (i64 n22)=some q24,loadA E0 st 3 q24=some (i64 n25)∧st=st,Bt 3 .geq n25 n1 FF,LI st w 2 n34∧st=st,Bt 3 .eql n25 n34 FF,obC 5 [(i64 n25)] st (.tup [(str w39a),(i64 n39b)]) s1,loadA E0 s1 38 (pt w)=some (pt p45)∧s1=s1,obC 54 [(pt p45),(str w39a)] s1 (i64 n47) s2,Bt 23 .neq n47 0 FF,Bt 3 .add n22 1 (i64 n51)]):=by kernel_rfl
theorem f20_3_TFFF{w p45:Nat}{n1 n21 n22 n25 n34 n39b n47 n51:Int}{v20 q24:AV}{st s1 s2:St}{w39a:ByteArray}(h1:Bt 3 .lss n22 n21 TT)(h2:indexAddrA E0 73 v20 (i64 n22)=some q24)(h3:loadA E0 st 3 q24=some (i64 n25))(h4:Bt 3 .geq n25 n1 FF)(h5:LI st w 2 n34)(h6:Bt 3 .eql n25 n34 FF)(h7:obC 5 [(i64 n25)] st (.tup [(str w39a),(i64 n39b)]) s1)(h8:loadA E0 s1 38 (pt w)=some (pt p45))(h9:obC 54 [(pt p45),(str w39a)] s1 (i64 n47) s2)(h10:Bt 23 .neq n47 0 FF)(h11:Bt 3 .add n22 1 (i64 n51)){T:Tm}(hT:f20L1 T (pt w) (i64 n1) v20 (i64 n21) (i64 n22)):AW Tryz.prog (f20P 3) (fun ex T' st'=>ex= .normal∧f20L1 T' (pt w) (i64 n1) v20 (i64 n21) (i64 n51)∧st'=s2) T st:=by
 obtain ⟨hn,g0,g1,g20,g21,g22⟩:=hT
 exact genR (f20_3_TFFF_e w p45 n1 n21 n22 n25 n34 n39b n47 n51 v20 q24 st s1 s2 w39a) (kk h1 (kk h2 (kk ⟨h3,rfl⟩ (kk h4 (kk ⟨h5,rfl⟩ (kk h6 (kk h7 (kk ⟨h8,rfl⟩ (kk h9 (kk h10 (kk h11 Ob.ok_nil))))))))))) hn (conz g0 (conz g1 (conz g20 (conz g21 (one g22))))) fun T' q2 q3=>by simp only [gA6,List.cons.injEq,and_true] at q3;exact ⟨rfl,⟨q2,q3⟩,rfl⟩
def f20L3(T:Tm):Prop:=T.n=52
abbrev gA8(T:Tm):List AV:= []
theorem f20_3_F_e(w:Nat)(n1 n21 n22:Int)(v20:AV)(st:St):evR gA8 sL7 (f20P 3) ⟨52,[(0,(pt w)),(1,(i64 n1)),(20,v20),(21,(i64 n21)),(22,(i64 n22))],[]⟩ st [.av FF]=some ((.exit 0),52,[],st,[Bt 3 .lss n22 n21 FF]):=by kernel_rfl
theorem f20_3_F{w:Nat}{n1 n21 n22:Int}{v20:AV}{st:St}(h1:Bt 3 .lss n22 n21 FF){T:Tm}(hT:f20L1 T (pt w) (i64 n1) v20 (i64 n21) (i64 n22)):AW Tryz.prog (f20P 3) (fun ex T' st'=>ex=(.exit 0)∧f20L3 T'∧st'=st) T st:=by
 obtain ⟨hn,g0,g1,g20,g21,g22⟩:=hT
 exact (gen_run (G:=fun T=>([]:List AV)) hE (f20_3_F_e w n1 n21 n22 v20 st) (kk h1 Ob.ok_nil) hn (conz g0 (conz g1 (conz g20 (conz g21 (one g22)))))).mono fun ex T' st' ⟨q1,q2,q3,q4⟩=>by exact ⟨q1,q2,q4⟩
theorem f20_4_e(st:St):evR gA7 [] (f20P 4) ⟨52,[],[]⟩ st []=some (.ret,52,[(i64 0)],st,[]):=by kernel_rfl
theorem f20_4{st:St}{T:Tm}(hT:f20L3 T):AW Tryz.prog (f20P 4) (fun ex T' st'=>ex= .ret∧f20L2 T' (i64 0)∧st'=st) T st:=by
 have hn:T.n=52:=hT
 exact genR (f20_4_e st) Ob.ok_nil hn (fun q hq=>by cases hq) fun T' q2 q3=>by simp only [gA7,List.cons.injEq,and_true] at q3;exact ⟨rfl,⟨q2,q3⟩,rfl⟩
noncomputable def f14P(i:Nat):Code:=match Tryz.f14.body with
 |some (.seq x0 (.seq x1 (.seq x2 (.seq x3 (.seq (.seq x4 (.block 1 (.loop (.seq x5 (.seq x6 (.seq (.block 2 (.seq x7 (.seq x8 (.seq x9 (.seq x10 (.seq (.seq x11 (.block 3 (.loop x12))) x13)))))) x14)))))) x15)))))=> [x0,x1,x2,x3,x4,x5,x6,x7,x8,x9,x10,x11,x12,x13,x14,x15].getD i .skip
 |_=> .skip
theorem f14body:Tryz.f14.body=some (.seq (f14P 0) (.seq (f14P 1) (.seq (f14P 2) (.seq (f14P 3) (.seq (.seq (f14P 4) (.block 1 (.loop (.seq (f14P 5) (.seq (f14P 6) (.seq (.block 2 (.seq (f14P 7) (.seq (f14P 8) (.seq (f14P 9) (.seq (f14P 10) (.seq (.seq (f14P 11) (.block 3 (.loop (f14P 12)))) (f14P 13))))))) (f14P 14))))))) (f14P 15)))))):=by kernel_rfl
def f14L0(T:Tm)(a0:AV):Prop:=T.n=67∧T.get 0=a0
theorem f14_0_e(d:Nat)(st:St):evR gA0 [] (f14P 0) ⟨67,[(0,(pt d))],[]⟩ st []=some (.normal,67,[(pt d)],st,[]):=by kernel_rfl
theorem f14_0{d:Nat}{st:St}{T:Tm}(hT:f14L0 T (pt d)):AW Tryz.prog (f14P 0) (fun ex T' st'=>ex= .normal∧f14L0 T' (pt d)∧st'=st) T st:=by
 obtain ⟨hn,g0⟩:=hT
 exact genR (f14_0_e d st) Ob.ok_nil hn (one g0) fun T' q2 q3=>by simp only [gA0,List.cons.injEq,and_true] at q3;exact ⟨rfl,⟨q2,q3⟩,rfl⟩
def f14L1(T:Tm)(a2 a3 a4:AV):Prop:=T.n=67∧T.get 2=a2∧T.get 3=a3∧T.get 4=a4
abbrev gA9(T:Tm):List AV:= [T.get 2,T.get 3,T.get 4]
theorem f14_1_T_e(d:Nat)(st s1:St):evR gA9 [6049] (f14P 1) ⟨67,[(0,(pt d))],[]⟩ st [.eff TT (fun _=>s1)]=some (.ret,67,[.nilp,.nils,(i64 8)],s1,[obC 49 [(pt d)] st TT s1]):=by kernel_rfl
theorem f14_1_T{d:Nat}{st s1:St}(h1:obC 49 [(pt d)] st TT s1){T:Tm}(hT:f14L0 T (pt d)):AW Tryz.prog (f14P 1) (fun ex T' st'=>ex= .ret∧f14L1 T' .nilp .nils (i64 8)∧st'=s1) T st:=by
 obtain ⟨hn,g0⟩:=hT
 exact genR (f14_1_T_e d st s1) (kk h1 Ob.ok_nil) hn (one g0) fun T' q2 q3=>by simp only [gA9,List.cons.injEq,and_true] at q3;exact ⟨rfl,⟨q2,q3⟩,rfl⟩
theorem f14_1_F_e(d:Nat)(st s1:St):evR gA0 [6049] (f14P 1) ⟨67,[(0,(pt d))],[]⟩ st [.eff FF (fun _=>s1)]=some (.normal,67,[(pt d)],s1,[obC 49 [(pt d)] st FF s1]):=by kernel_rfl
theorem f14_1_F{d:Nat}{st s1:St}(h1:obC 49 [(pt d)] st FF s1){T:Tm}(hT:f14L0 T (pt d)):AW Tryz.prog (f14P 1) (fun ex T' st'=>ex= .normal∧f14L0 T' (pt d)∧st'=s1) T st:=by
 obtain ⟨hn,g0⟩:=hT
 exact genR (f14_1_F_e d st s1) (kk h1 Ob.ok_nil) hn (one g0) fun T' q2 q3=>by simp only [gA0,List.cons.injEq,and_true] at q3;exact ⟨rfl,⟨q2,q3⟩,rfl⟩
def f14L2(T:Tm)(a0 a5:AV):Prop:=T.n=67∧T.get 0=a0∧T.get 5=a5
abbrev gA10(T:Tm):List AV:= [T.get 0,T.get 5]
theorem f14_2_e(d a23:Nat)(st s1:St)(v22:AV):evR gA10 [2023,7022] (f14P 2) ⟨67,[(0,(pt d))],[]⟩ st [.av v22,.eff (pt a23) (fun _=>s1)]=some (.normal,67,[(pt d),(pt a23)],s1,[buildA E0 93 [(0,(pt d)),(1,(i64 1))]=some v22,boxA st 93 v22=some ((pt a23),s1)]):=by kernel_rfl
theorem f14_2{d a23:Nat}{st s1:St}{v22:AV}(h1:buildA E0 93 [(0,(pt d)),(1,(i64 1))]=some v22)(h2:boxA st 93 v22=some ((pt a23),s1)){T:Tm}(hT:f14L0 T (pt d)):AW Tryz.prog (f14P 2) (fun ex T' st'=>ex= .normal∧f14L2 T' (pt d) (pt a23)∧st'=s1) T st:=by
 obtain ⟨hn,g0⟩:=hT
 exact genR (f14_2_e d a23 st s1 v22) (kk h1 (kk h2 Ob.ok_nil)) hn (one g0) fun T' q2 q3=>by simp only [gA10,List.cons.injEq,and_true] at q3;exact ⟨rfl,⟨q2,q3⟩,rfl⟩
def f14L3(T:Tm)(a0 a5 a6:AV):Prop:=T.n=67∧T.get 0=a0∧T.get 5=a5∧T.get 6=a6
abbrev gA11(T:Tm):List AV:= [T.get 0,T.get 5,T.get 6]
theorem f14_3_e(d w:Nat)(st:St):evR gA11 [] (f14P 3) ⟨67,[(0,(pt d)),(5,(pt w))],[]⟩ st []=some (.normal,67,[(pt d),(pt w),.nils],st,[]):=by kernel_rfl
theorem f14_3{d w:Nat}{st:St}{T:Tm}(hT:f14L2 T (pt d) (pt w)):AW Tryz.prog (f14P 3) (fun ex T' st'=>ex= .normal∧f14L3 T' (pt d) (pt w) .nils∧st'=st) T st:=by
 obtain ⟨hn,g0,g5⟩:=hT
 exact genR (f14_3_e d w st) Ob.ok_nil hn (conz g0 (one g5)) fun T' q2 q3=>by simp only [gA11,List.cons.injEq,and_true] at q3;exact ⟨rfl,⟨q2,q3⟩,rfl⟩
def f14L4(T:Tm)(a0 a5 a6 a25 a26 a27:AV):Prop:=T.n=67∧T.get 0=a0∧T.get 5=a5∧T.get 6=a6∧T.get 25=a25∧T.get 26=a26∧T.get 27=a27
abbrev gA12(T:Tm):List AV:= [T.get 0,T.get 5,T.get 6,T.get 25,T.get 26,T.get 27]
theorem f14_4_e(d w:Nat)(v6 v25:AV)(st s1:St)(n26:Int):evR gA12 [6036,7026] (f14P 4) ⟨67,[(0,(pt d)),(5,(pt w)),(6,v6)],[]⟩ st [.eff v25 (fun _=>s1),.av (i64 n26)]=some (.normal,67,[(pt d),(pt w),v6,v25,(i64 n26),(i64 0)],s1,[obC 36 [(pt w)] st v25 s1,lenA E0 73 v25=some (i64 n26)]):=by kernel_rfl
theorem f14_4{d w:Nat}{v6 v25:AV}{st s1:St}{n26:Int}(h1:obC 36 [(pt w)] st v25 s1)(h2:lenA E0 73 v25=some (i64 n26)){T:Tm}(hT:f14L3 T (pt d) (pt w) v6):AW Tryz.prog (f14P 4) (fun ex T' st'=>ex= .normal∧f14L4 T' (pt d) (pt w) v6 v25 (i64 n26) (i64 0)∧st'=s1) T st:=by
 obtain ⟨hn,g0,g5,g6⟩:=hT
 exact genR (f14_4_e d w v6 v25 st s1 n26) (kk h1 (kk h2 Ob.ok_nil)) hn (conz g0 (conz g5 (one g6))) fun T' q2 q3=>by simp only [gA12,List.cons.injEq,and_true] at q3;exact ⟨rfl,⟨q2,q3⟩,rfl⟩
def f14L5(T:Tm)(a0 a5 a6 a25 a26 a27 a28:AV):Prop:=T.n=67∧T.get 0=a0∧T.get 5=a5∧T.get 6=a6∧T.get 25=a25∧T.get 26=a26∧T.get 27=a27∧T.get 28=a28
abbrev gA13(T:Tm):List AV:= [T.get 0,T.get 5,T.get 6,T.get 25,T.get 26,T.get 27,T.get 28]
theorem f14_5_T_e(d w:Nat)(v6 v25:AV)(n26 n27:Int)(st:St):evR gA13 [7028] (f14P 5) ⟨67,[(0,(pt d)),(5,(pt w)),(6,v6),(25,v25),(26,(i64 n26)),(27,(i64 n27))],[]⟩ st [.av TT]=some (.normal,67,[(pt d),(pt w),v6,v25,(i64 n26),(i64 n27),TT],st,[Bt 3 .lss n27 n26 TT]):=by kernel_rfl
theorem f14_5_T{d w:Nat}{v6 v25:AV}{n26 n27:Int}{st:St}(h1:Bt 3 .lss n27 n26 TT){T:Tm}(hT:f14L4 T (pt d) (pt w) v6 v25 (i64 n26) (i64 n27)):AW Tryz.prog (f14P 5) (fun ex T' st'=>ex= .normal∧f14L5 T' (pt d) (pt w) v6 v25 (i64 n26) (i64 n27) TT∧st'=st) T st:=by
 obtain ⟨hn,g0,g5,g6,g25,g26,g27⟩:=hT
 exact genR (f14_5_T_e d w v6 v25 n26 n27 st) (kk h1 Ob.ok_nil) hn (conz g0 (conz g5 (conz g6 (conz g25 (conz g26 (one g27)))))) fun T' q2 q3=>by simp only [gA13,List.cons.injEq,and_true] at q3;exact ⟨rfl,⟨q2,q3⟩,rfl⟩
theorem f14_5_F_e(d w:Nat)(v6 v25:AV)(n26 n27:Int)(st:St):evR gA13 [7028] (f14P 5) ⟨67,[(0,(pt d)),(5,(pt w)),(6,v6),(25,v25),(26,(i64 n26)),(27,(i64 n27))],[]⟩ st [.av FF]=some (.normal,67,[(pt d),(pt w),v6,v25,(i64 n26),(i64 n27),FF],st,[Bt 3 .lss n27 n26 FF]):=by kernel_rfl
theorem f14_5_F{d w:Nat}{v6 v25:AV}{n26 n27:Int}{st:St}(h1:Bt 3 .lss n27 n26 FF){T:Tm}(hT:f14L4 T (pt d) (pt w) v6 v25 (i64 n26) (i64 n27)):AW Tryz.prog (f14P 5) (fun ex T' st'=>ex= .normal∧f14L5 T' (pt d) (pt w) v6 v25 (i64 n26) (i64 n27) FF∧st'=st) T st:=by
 obtain ⟨hn,g0,g5,g6,g25,g26,g27⟩:=hT
 exact genR (f14_5_F_e d w v6 v25 n26 n27 st) (kk h1 Ob.ok_nil) hn (conz g0 (conz g5 (conz g6 (conz g25 (conz g26 (one g27)))))) fun T' q2 q3=>by simp only [gA13,List.cons.injEq,and_true] at q3;exact ⟨rfl,⟨q2,q3⟩,rfl⟩
theorem f14_6_T_e(d w:Nat)(v6 v25:AV)(n26 n27:Int)(st:St):evR gA12 [] (f14P 6) ⟨67,[(0,(pt d)),(5,(pt w)),(6,v6),(25,v25),(26,(i64 n26)),(27,(i64 n27)),(28,TT)],[]⟩ st []=some (.normal,67,[(pt d),(pt w),v6,v25,(i64 n26),(i64 n27)],st,[]):=by kernel_rfl
theorem f14_6_T{d w:Nat}{v6 v25:AV}{n26 n27:Int}{st:St}{T:Tm}(hT:f14L5 T (pt d) (pt w) v6 v25 (i64 n26) (i64 n27) TT):AW Tryz.prog (f14P 6) (fun ex T' st'=>ex= .normal∧f14L4 T' (pt d) (pt w) v6 v25 (i64 n26) (i64 n27)∧st'=st) T st:=by
 obtain ⟨hn,g0,g5,g6,g25,g26,g27,g28⟩:=hT
 exact genR (f14_6_T_e d w v6 v25 n26 n27 st) Ob.ok_nil hn (conz g0 (conz g5 (conz g6 (conz g25 (conz g26 (conz g27 (one g28))))))) fun T' q2 q3=>by simp only [gA12,List.cons.injEq,and_true] at q3;exact ⟨rfl,⟨q2,q3⟩,rfl⟩
def f14L6(T:Tm)(a5 a6:AV):Prop:=T.n=67∧T.get 5=a5∧T.get 6=a6
abbrev gA14(T:Tm):List AV:= [T.get 5,T.get 6]
theorem f14_6_F_e(d w:Nat)(v6 v25:AV)(n26 n27:Int)(st:St):evR gA14 [] (f14P 6) ⟨67,[(0,(pt d)),(5,(pt w)),(6,v6),(25,v25),(26,(i64 n26)),(27,(i64 n27)),(28,FF)],[]⟩ st []=some ((.exit 1),67,[(pt w),v6],st,[]):=by kernel_rfl
theorem f14_6_F{d w:Nat}{v6 v25:AV}{n26 n27:Int}{st:St}{T:Tm}(hT:f14L5 T (pt d) (pt w) v6 v25 (i64 n26) (i64 n27) FF):AW Tryz.prog (f14P 6) (fun ex T' st'=>ex=(.exit 1)∧f14L6 T' (pt w) v6∧st'=st) T st:=by
 obtain ⟨hn,g0,g5,g6,g25,g26,g27,g28⟩:=hT
 exact genR (f14_6_F_e d w v6 v25 n26 n27 st) Ob.ok_nil hn (conz g0 (conz g5 (conz g6 (conz g25 (conz g26 (conz g27 (one g28))))))) fun T' q2 q3=>by simp only [gA14,List.cons.injEq,and_true] at q3;exact ⟨rfl,⟨q2,q3⟩,rfl⟩
def f14L7(T:Tm)(a0 a5 a6 a8 a25 a26 a27:AV):Prop:=T.n=67∧T.get 0=a0∧T.get 5=a5∧T.get 6=a6∧T.get 8=a8∧T.get 25=a25∧T.get 26=a26∧T.get 27=a27
abbrev gA15(T:Tm):List AV:= [T.get 0,T.get 5,T.get 6,T.get 8,T.get 25,T.get 26,T.get 27]
theorem f14_7_e(d w:Nat)(v6 v25 q29:AV)(n26 n27 n30:Int)(st:St):evR gA15 [2030,7029] (f14P 7) ⟨67,[(0,(pt d)),(5,(pt w)),(6,v6),(25,v25),(26,(i64 n26)),(27,(i64 n27))],[]⟩ st [.av q29,.eff (i64 n30) id]=some (.normal,67,[(pt d),(pt w),v6,(i64 n30),v25,(i64 n26),(i64 n27)],st,[indexAddrA E0 73 v25 (i64 n27)=some q29,loadA E0 st 3 q29=some (i64 n30)∧st=st]):=by kernel_rfl
theorem f14_7{d w:Nat}{v6 v25 q29:AV}{n26 n27 n30:Int}{st:St}(h1:indexAddrA E0 73 v25 (i64 n27)=some q29)(h2:loadA E0 st 3 q29=some (i64 n30)){T:Tm}(hT:f14L4 T (pt d) (pt w) v6 v25 (i64 n26) (i64 n27)):AW Tryz.prog (f14P 7) (fun ex T' st'=>ex= .normal∧f14L7 T' (pt d) (pt w) v6 (i64 n30) v25 (i64 n26) (i64 n27)∧st'=st) T st:=by
 obtain ⟨hn,g0,g5,g6,g25,g26,g27⟩:=hT
 exact genR (f14_7_e d w v6 v25 q29 n26 n27 n30 st) (kk h1 (kk ⟨h2,rfl⟩ Ob.ok_nil)) hn (conz g0 (conz g5 (conz g6 (conz g25 (conz g26 (one g27)))))) fun T' q2 q3=>by simp only [gA15,List.cons.injEq,and_true] at q3;exact ⟨rfl,⟨q2,q3⟩,rfl⟩
def f14L8(T:Tm)(a0 a5 a6 a8 a9 a25 a26 a27:AV):Prop:=T.n=67∧T.get 0=a0∧T.get 5=a5∧T.get 6=a6∧T.get 8=a8∧T.get 9=a9∧T.get 25=a25∧T.get 26=a26∧T.get 27=a27
abbrev gA16(T:Tm):List AV:= [T.get 0,T.get 5,T.get 6,T.get 8,T.get 9,T.get 25,T.get 26,T.get 27]
theorem f14_8_e(d w:Nat)(v6 v25:AV)(n8 n26 n27 n33b:Int)(st s1:St)(w33a:ByteArray):evR gA16 [6005] (f14P 8) ⟨67,[(0,(pt d)),(5,(pt w)),(6,v6),(8,(i64 n8)),(25,v25),(26,(i64 n26)),(27,(i64 n27))],[]⟩ st [.eff (.tup [(str w33a),(i64 n33b)]) (fun _=>s1)]=some (.normal,67,[(pt d),(pt w),v6,(i64 n8),(str w33a),v25,(i64 n26),(i64 n27)],s1,[obC 5 [(i64 n8)] st (.tup [(str w33a),(i64 n33b)]) s1]):=by kernel_rfl
theorem f14_8{d w:Nat}{v6 v25:AV}{n8 n26 n27 n33b:Int}{st s1:St}{w33a:ByteArray}(h1:obC 5 [(i64 n8)] st (.tup [(str w33a),(i64 n33b)]) s1){T:Tm}(hT:f14L7 T (pt d) (pt w) v6 (i64 n8) v25 (i64 n26) (i64 n27)):AW Tryz.prog (f14P 8) (fun ex T' st'=>ex= .normal∧f14L8 T' (pt d) (pt w) v6 (i64 n8) (str w33a) v25 (i64 n26) (i64 n27)∧st'=s1) T st:=by
 obtain ⟨hn,g0,g5,g6,g8,g25,g26,g27⟩:=hT
 exact genR (f14_8_e d w v6 v25 n8 n26 n27 n33b st s1 w33a) (kk h1 Ob.ok_nil) hn (conz g0 (conz g5 (conz g6 (conz g8 (conz g25 (conz g26 (one g27))))))) fun T' q2 q3=>by simp only [gA16,List.cons.injEq,and_true] at q3;exact ⟨rfl,⟨q2,q3⟩,rfl⟩
def f14L9(T:Tm)(a0 a5 a6 a8 a11 a12 a25 a26 a27:AV):Prop:=T.n=67∧T.get 0=a0∧T.get 5=a5∧T.get 6=a6∧T.get 8=a8∧T.get 11=a11∧T.get 12=a12∧T.get 25=a25∧T.get 26=a26∧T.get 27=a27
abbrev gA17(T:Tm):List AV:= [T.get 0,T.get 5,T.get 6,T.get 8,T.get 11,T.get 12,T.get 25,T.get 26,T.get 27]
theorem f14_9_e(d w:Nat)(v6 v25 v39a:AV)(n8 n26 n27 n39b:Int)(w9:ByteArray)(st s1:St):evR gA17 [6029] (f14P 9) ⟨67,[(0,(pt d)),(5,(pt w)),(6,v6),(8,(i64 n8)),(9,(str w9)),(25,v25),(26,(i64 n26)),(27,(i64 n27))],[]⟩ st [.eff (.tup [v39a,(i64 n39b)]) (fun _=>s1)]=some (.normal,67,[(pt d),(pt w),v6,(i64 n8),v39a,(i64 n39b),v25,(i64 n26),(i64 n27)],s1,[obC 29 [(pt d),(str w9)] st (.tup [v39a,(i64 n39b)]) s1]):=by kernel_rfl
theorem f14_9{d w:Nat}{v6 v25 v39a:AV}{n8 n26 n27 n39b:Int}{w9:ByteArray}{st s1:St}(h1:obC 29 [(pt d),(str w9)] st (.tup [v39a,(i64 n39b)]) s1){T:Tm}(hT:f14L8 T (pt d) (pt w) v6 (i64 n8) (str w9) v25 (i64 n26) (i64 n27)):AW Tryz.prog (f14P 9) (fun ex T' st'=>ex= .normal∧f14L9 T' (pt d) (pt w) v6 (i64 n8) v39a (i64 n39b) v25 (i64 n26) (i64 n27)∧st'=s1) T st:=by
 obtain ⟨hn,g0,g5,g6,g8,g9,g25,g26,g27⟩:=hT
 exact genR (f14_9_e d w v6 v25 v39a n8 n26 n27 n39b w9 st s1) (kk h1 Ob.ok_nil) hn (conz g0 (conz g5 (conz g6 (conz g8 (conz g9 (conz g25 (conz g26 (one g27)))))))) fun T' q2 q3=>by simp only [gA17,List.cons.injEq,and_true] at q3;exact ⟨rfl,⟨q2,q3⟩,rfl⟩
def f14L10(T:Tm)(a0 a5 a6 a8 a11 a25 a26 a27:AV):Prop:=T.n=67∧T.get 0=a0∧T.get 5=a5∧T.get 6=a6∧T.get 8=a8∧T.get 11=a11∧T.get 25=a25∧T.get 26=a26∧T.get 27=a27
abbrev gA18(T:Tm):List AV:= [T.get 0,T.get 5,T.get 6,T.get 8,T.get 11,T.get 25,T.get 26,T.get 27]
theorem f14_10_F_e(d w:Nat)(v6 v11 v25:AV)(n8 n12 n26 n27:Int)(st:St):evR gA18 [7043] (f14P 10) ⟨67,[(0,(pt d)),(5,(pt w)),(6,v6),(8,(i64 n8)),(11,v11),(12,(i64 n12)),(25,v25),(26,(i64 n26)),(27,(i64 n27))],[]⟩ st [.av FF]=some (.normal,67,[(pt d),(pt w),v6,(i64 n8),v11,v25,(i64 n26),(i64 n27)],st,[Bt 23 .neq n12 0 FF]):=by kernel_rfl
theorem f14_10_F{d w:Nat}{v6 v11 v25:AV}{n8 n12 n26 n27:Int}{st:St}(h1:Bt 23 .neq n12 0 FF){T:Tm}(hT:f14L9 T (pt d) (pt w) v6 (i64 n8) v11 (i64 n12) v25 (i64 n26) (i64 n27)):AW Tryz.prog (f14P 10) (fun ex T' st'=>ex= .normal∧f14L10 T' (pt d) (pt w) v6 (i64 n8) v11 v25 (i64 n26) (i64 n27)∧st'=st) T st:=by
 obtain ⟨hn,g0,g5,g6,g8,g11,g12,g25,g26,g27⟩:=hT
 exact genR (f14_10_F_e d w v6 v11 v25 n8 n12 n26 n27 st) (kk h1 Ob.ok_nil) hn (conz g0 (conz g5 (conz g6 (conz g8 (conz g11 (conz g12 (conz g25 (conz g26 (one g27))))))))) fun T' q2 q3=>by simp only [gA18,List.cons.injEq,and_true] at q3;exact ⟨rfl,⟨q2,q3⟩,rfl⟩
def f14L11(T:Tm)(a0 a5 a6 a8 a25 a26 a27 a46 a47 a48:AV):Prop:=T.n=67∧T.get 0=a0∧T.get 5=a5∧T.get 6=a6∧T.get 8=a8∧T.get 25=a25∧T.get 26=a26∧T.get 27=a27∧T.get 46=a46∧T.get 47=a47∧T.get 48=a48
abbrev gA19(T:Tm):List AV:= [T.get 0,T.get 5,T.get 6,T.get 8,T.get 25,T.get 26,T.get 27,T.get 46,T.get 47,T.get 48]
theorem f14_11_e(d w:Nat)(v6 v11 v25 v46:AV)(n8 n26 n27 n47:Int)(st s1:St):evR gA19 [6009,7047] (f14P 11) ⟨67,[(0,(pt d)),(5,(pt w)),(6,v6),(8,(i64 n8)),(11,v11),(25,v25),(26,(i64 n26)),(27,(i64 n27))],[]⟩ st [.eff v46 (fun _=>s1),.av (i64 n47)]=some (.normal,67,[(pt d),(pt w),v6,(i64 n8),v25,(i64 n26),(i64 n27),v46,(i64 n47),(i64 0)],s1,[obC 9 [v11] st v46 s1,lenA E0 32 v46=some (i64 n47)]):=by kernel_rfl
theorem f14_11{d w:Nat}{v6 v11 v25 v46:AV}{n8 n26 n27 n47:Int}{st s1:St}(h1:obC 9 [v11] st v46 s1)(h2:lenA E0 32 v46=some (i64 n47)){T:Tm}(hT:f14L10 T (pt d) (pt w) v6 (i64 n8) v11 v25 (i64 n26) (i64 n27)):AW Tryz.prog (f14P 11) (fun ex T' st'=>ex= .normal∧f14L11 T' (pt d) (pt w) v6 (i64 n8) v25 (i64 n26) (i64 n27) v46 (i64 n47) (i64 0)∧st'=s1) T st:=by
 obtain ⟨hn,g0,g5,g6,g8,g11,g25,g26,g27⟩:=hT
 exact genR (f14_11_e d w v6 v11 v25 v46 n8 n26 n27 n47 st s1) (kk h1 (kk h2 Ob.ok_nil)) hn (conz g0 (conz g5 (conz g6 (conz g8 (conz g11 (conz g25 (conz g26 (one g27)))))))) fun T' q2 q3=>by simp only [gA19,List.cons.injEq,and_true] at q3;exact ⟨rfl,⟨q2,q3⟩,rfl⟩
abbrev sL8:List Nat:= [2051,2056,2057,7049,7050,7055,7058]
theorem f14_12_T_e(d w:Nat)(v6 v25 v46 q50 v51 v55 v56 v57:AV)(n8 n26 n27 n47 n48 n58:Int)(st s1 s2:St):evR gA19 sL8 (f14P 12) ⟨67,[(0,(pt d)),(5,(pt w)),(6,v6),(8,(i64 n8)),(25,v25),(26,(i64 n26)),(27,(i64 n27)),(46,v46),(47,(i64 n47)),(48,(i64 n48))],[]⟩ st [.av TT,.av q50,.eff v51 id,.av v55,.eff v56 (fun _=>s1),.eff v57 (fun _=>s2),.av (i64 n58)]=some (.normal,67,[(pt d),(pt w),v57,(i64 n8),v25,(i64 n26),(i64 n27),v46,(i64 n47),(i64 n58)],s2,[Bt 3 .lss n48 n47 TT,indexAddrA E0 32 v46 (i64 n48)=some q50,loadA E0 st 22 q50=some v51∧st=st,buildA E0 95 [(0,(i64 n8)),(1,v51)]=some v55,buildSliceA E0 st 43 1 [(0,v55)]=some (v56,s1),appendA E0 s1 43 43 v6 v56=some (v57,s2),Bt 3 .add n48 1 (i64 n58)]):=by kernel_rfl
theorem f14_12_T{d w:Nat}{v6 v25 v46 q50 v51 v55 v56 v57:AV}{n8 n26 n27 n47 n48 n58:Int}{st s1 s2:St}(h1:Bt 3 .lss n48 n47 TT)(h2:indexAddrA E0 32 v46 (i64 n48)=some q50)(h3:loadA E0 st 22 q50=some v51)(h4:buildA E0 95 [(0,(i64 n8)),(1,v51)]=some v55)(h5:buildSliceA E0 st 43 1 [(0,v55)]=some (v56,s1))(h6:appendA E0 s1 43 43 v6 v56=some (v57,s2))(h7:Bt 3 .add n48 1 (i64 n58)){T:Tm}(hT:f14L11 T (pt d) (pt w) v6 (i64 n8) v25 (i64 n26) (i64 n27) v46 (i64 n47) (i64 n48)):AW Tryz.prog (f14P 12) (fun ex T' st'=>ex= .normal∧f14L11 T' (pt d) (pt w) v57 (i64 n8) v25 (i64 n26) (i64 n27) v46 (i64 n47) (i64 n58)∧st'=s2) T st:=by
 obtain ⟨hn,g0,g5,g6,g8,g25,g26,g27,g46,g47,g48⟩:=hT
 exact genR (f14_12_T_e d w v6 v25 v46 q50 v51 v55 v56 v57 n8 n26 n27 n47 n48 n58 st s1 s2) (kk h1 (kk h2 (kk ⟨h3,rfl⟩ (kk h4 (kk h5 (kk h6 (kk h7 Ob.ok_nil))))))) hn (conz g0 (conz g5 (conz g6 (conz g8 (conz g25 (conz g26 (conz g27 (conz g46 (conz g47 (one g48)))))))))) fun T' q2 q3=>by simp only [gA19,List.cons.injEq,and_true] at q3;exact ⟨rfl,⟨q2,q3⟩,rfl⟩
theorem f14_12_F_e(d w:Nat)(v6 v25 v46:AV)(n8 n26 n27 n47 n48:Int)(st:St):evR gA15 sL8 (f14P 12) ⟨67,[(0,(pt d)),(5,(pt w)),(6,v6),(8,(i64 n8)),(25,v25),(26,(i64 n26)),(27,(i64 n27)),(46,v46),(47,(i64 n47)),(48,(i64 n48))],[]⟩ st [.av FF]=some ((.exit 3),67,[(pt d),(pt w),v6,(i64 n8),v25,(i64 n26),(i64 n27)],st,[Bt 3 .lss n48 n47 FF]):=by kernel_rfl
theorem f14_12_F{d w:Nat}{v6 v25 v46:AV}{n8 n26 n27 n47 n48:Int}{st:St}(h1:Bt 3 .lss n48 n47 FF){T:Tm}(hT:f14L11 T (pt d) (pt w) v6 (i64 n8) v25 (i64 n26) (i64 n27) v46 (i64 n47) (i64 n48)):AW Tryz.prog (f14P 12) (fun ex T' st'=>ex=(.exit 3)∧f14L7 T' (pt d) (pt w) v6 (i64 n8) v25 (i64 n26) (i64 n27)∧st'=st) T st:=by
 obtain ⟨hn,g0,g5,g6,g8,g25,g26,g27,g46,g47,g48⟩:=hT
 exact genR (f14_12_F_e d w v6 v25 v46 n8 n26 n27 n47 n48 st) (kk h1 Ob.ok_nil) hn (conz g0 (conz g5 (conz g6 (conz g8 (conz g25 (conz g26 (conz g27 (conz g46 (conz g47 (one g48)))))))))) fun T' q2 q3=>by simp only [gA15,List.cons.injEq,and_true] at q3;exact ⟨rfl,⟨q2,q3⟩,rfl⟩
theorem f14_13_e(d w:Nat)(v6 v25:AV)(n8 n26 n27 n61:Int)(st s1:St):evR gA12 [5000,7061] (f14P 13) ⟨67,[(0,(pt d)),(5,(pt w)),(6,v6),(8,(i64 n8)),(25,v25),(26,(i64 n26)),(27,(i64 n27))],[]⟩ st [.av (i64 n61),.eff .undef (fun _=>s1)]=some (.normal,67,[(pt d),(pt w),v6,v25,(i64 n26),(i64 n27)],s1,[Bt 3 .add n8 1 (i64 n61),storeA E0 st 3 (.ptr w 1) (i64 n61)=some s1]):=by kernel_rfl
theorem f14_13{d w:Nat}{v6 v25:AV}{n8 n26 n27 n61:Int}{st s1:St}(h1:Bt 3 .add n8 1 (i64 n61))(h2:storeA E0 st 3 (.ptr w 1) (i64 n61)=some s1){T:Tm}(hT:f14L7 T (pt d) (pt w) v6 (i64 n8) v25 (i64 n26) (i64 n27)):AW Tryz.prog (f14P 13) (fun ex T' st'=>ex= .normal∧f14L4 T' (pt d) (pt w) v6 v25 (i64 n26) (i64 n27)∧st'=s1) T st:=by
 obtain ⟨hn,g0,g5,g6,g8,g25,g26,g27⟩:=hT
 exact genR (f14_13_e d w v6 v25 n8 n26 n27 n61 st s1) (kk h1 (kk h2 Ob.ok_nil)) hn (conz g0 (conz g5 (conz g6 (conz g8 (conz g25 (conz g26 (one g27))))))) fun T' q2 q3=>by simp only [gA12,List.cons.injEq,and_true] at q3;exact ⟨rfl,⟨q2,q3⟩,rfl⟩
theorem f14_14_e(d w:Nat)(v6 v25:AV)(n26 n27 n64:Int)(st:St):evR gA12 [7064] (f14P 14) ⟨67,[(0,(pt d)),(5,(pt w)),(6,v6),(25,v25),(26,(i64 n26)),(27,(i64 n27))],[]⟩ st [.av (i64 n64)]=some (.normal,67,[(pt d),(pt w),v6,v25,(i64 n26),(i64 n64)],st,[Bt 3 .add n27 1 (i64 n64)]):=by kernel_rfl
theorem f14_14{d w:Nat}{v6 v25:AV}{n26 n27 n64:Int}{st:St}(h1:Bt 3 .add n27 1 (i64 n64)){T:Tm}(hT:f14L4 T (pt d) (pt w) v6 v25 (i64 n26) (i64 n27)):AW Tryz.prog (f14P 14) (fun ex T' st'=>ex= .normal∧f14L4 T' (pt d) (pt w) v6 v25 (i64 n26) (i64 n64)∧st'=st) T st:=by
 obtain ⟨hn,g0,g5,g6,g25,g26,g27⟩:=hT
 exact genR (f14_14_e d w v6 v25 n26 n27 n64 st) (kk h1 Ob.ok_nil) hn (conz g0 (conz g5 (conz g6 (conz g25 (conz g26 (one g27)))))) fun T' q2 q3=>by simp only [gA12,List.cons.injEq,and_true] at q3;exact ⟨rfl,⟨q2,q3⟩,rfl⟩
theorem f14_15_e(w:Nat)(v6:AV)(st:St):evR gA9 [] (f14P 15) ⟨67,[(5,(pt w)),(6,v6)],[]⟩ st []=some (.ret,67,[(pt w),v6,(i64 0)],st,[]):=by kernel_rfl
theorem f14_15{w:Nat}{v6:AV}{st:St}{T:Tm}(hT:f14L6 T (pt w) v6):AW Tryz.prog (f14P 15) (fun ex T' st'=>ex= .ret∧f14L1 T' (pt w) v6 (i64 0)∧st'=st) T st:=by
 obtain ⟨hn,g5,g6⟩:=hT
 exact genR (f14_15_e w v6 st) Ob.ok_nil hn (conz g5 (one g6)) fun T' q2 q3=>by simp only [gA9,List.cons.injEq,and_true] at q3;exact ⟨rfl,⟨q2,q3⟩,rfl⟩
end
section
set_option maxRecDepth 4000
structure WA (st:St) (w d m:Nat) (s:PS) (nx op ct:Nat):Prop where
 disk:PDs st d m s
 row:st.get w=some (.row [.ptr d 0,i64 nx,i64 op,i64 ct] 93)
 wf:st.wf
 lock:st.lock= []
theorem p23{vs:List AV}{off:Nat}{a:AV}(h:vs[off]? =some a):partA E0 38 vs off=some a:=by
 have:(E0.ty 38).map (fun i=>isAggD i.desc)=some false:=by kernel_rfl
 obtain ⟨i,h1,h2⟩:=Option.map_eq_some_iff.1 this
 exact plainT h1 h2 h
theorem WA.wd{st:St}{w d m nx op ct:Nat}{s:PS}(h:WA st w d m s nx op ct):w≠d:=fun e=>by
 have:=h.disk.row;rw [←e,h.row] at this
 simp at this
theorem WA.wm{st:St}{w d m nx op ct:Nat}{s:PS}(h:WA st w d m s nx op ct):w≠m:=fun e=>by
 obtain ⟨_,_,hm⟩:=h.disk.map
 rw [←e,h.row] at hm;cases hm
section
variable {st:St} {w d m nx op ct:Nat} {s:PS}
theorem WA.l0(h:WA st w d m s nx op ct):loadA E0 st 38 (.ptr w 0)=some (.ptr d 0):=load_row h.row (p23 rfl)
theorem WA.l1(h:WA st w d m s nx op ct):loadA E0 st 3 (.ptr w 1)=some (i64 nx):=load_row h.row (p3 rfl)
theorem WA.l2(h:WA st w d m s nx op ct):loadA E0 st 3 (.ptr w 2)=some (i64 op):=load_row h.row (p3 rfl)
theorem WA.l3(h:WA st w d m s nx op ct):loadA E0 st 3 (.ptr w 3)=some (i64 ct):=load_row h.row (p3 rfl)
theorem WA.rest{st':St}(h:WA st w d m s nx op ct)(hr:Rest st st' []):WA st' w d m s nx op ct:=
 ⟨PD.rest h.disk hr,hr.keep _ _ (by simp) h.row,hr.wf,hr.lock.trans h.lock⟩
theorem WA.disk'{st':St}{s':PS}(h:WA st w d m s nx op ct)(hp:PDs st' d m s')(hr:Rest st st' [d,m]):WA st' w d m s' nx op ct:=
 ⟨hp,hr.keep _ _ (by simp [h.wd,h.wm]) h.row,hr.wf,hr.lock.trans h.lock⟩
theorem storeWl{st:St}{w:Nat}{vs:List AV}{ty:Nat}(hg:st.get w=some (.row vs ty))(hl:st.lock= []){k:Nat}(hk:k<vs.length)(x:Int):storeA E0 st 3 (.ptr w k) (i64 x)=some (st.set w (.row (vs.set k (i64 x)) ty)):=by
 have hwg:=St.wget_of hg (show w∉st.lock by rw [hl];simp)
 have:vs.take k++i64 x::vs.drop (k+1)=vs.set k (i64 x):=by rw [List.set_eq_take_append_cons_drop,if_pos hk]
 simp [storeA,avCells,oneA,size3,hwg,this]
 omega
theorem WA.set{vs:List AV}{nx' op' ct':Nat}(h:WA st w d m s nx op ct)(e:vs= [.ptr d 0,i64 nx',i64 op',i64 ct']):WA (st.set w (.row vs 93)) w d m s nx' op' ct'∧Rest st (st.set w (.row vs 93)) [w]:=by
 have hr:Rest st (st.set w (.row vs 93)) [w]:=Rest.set h.wf (h.wf _ _ h.row) _ (by simp)
 obtain ⟨bs,c,hm⟩:=h.disk.map
 exact ⟨⟨⟨hr.keep _ _ (by simp [h.wd.symm]) h.disk.row,bs,c,hr.keep _ _ (by simp [h.wm.symm]) hm⟩,by rw [St.get_set,if_pos rfl,e],hr.wf,hr.lock.trans h.lock⟩,hr⟩
end
end
section
set_option maxRecDepth 4000
structure Fine (s:PS) (U:Nat):Prop where
 good:Good s
 used:usedL s.L≤U
 q:0≤s.q∧s.q≤9223372036854775807
theorem burnN_range{fu:Int}(h:0≤fu∧fu≤9223372036854775807):0≤burnN fu∧burnN fu≤9223372036854775807:=by
 unfold burnN;split<;>omega
theorem Fine.burnt{s:PS}{U:Nat}(h:Fine s U):Fine (burnt s) U:=⟨⟨h.good.dv,burnN_range h.good.fu⟩,h.used,h.q⟩
theorem usedL_cons(f:PF)(L:List PF):usedL (f::L)=f.bytes.length+usedL L:=by simp [usedL]
theorem usedL_append(L M:List PF):usedL (L++M)=usedL L+usedL M:=by simp [usedL]
theorem usedL_put:∀{L:List PF} {k:Nat} {f f':PF},L[k]? =some f→usedL (L.set k f')+f.bytes.length=usedL L+f'.bytes.length
 | [],k,f,f',h=>by simp at h
 |g::r,0,f,f',h=>by
  simp only [List.getElem?_cons_zero,Option.some.injEq] at h;subst h
  rw [List.set_cons_zero,usedL_cons,usedL_cons];omega
 |g::r,k+1,f,f',h=>by
  rw [List.getElem?_cons_succ] at h
  rw [List.set_cons_succ,usedL_cons,usedL_cons]
  have:=usedL_put (f':=f') h
  omega
theorem mem_put{L:List PF}{k:Nat}{f' g:PF}(h:g∈L.set k f'):g=f'∨g∈L:=by
 rcases List.mem_or_eq_of_mem_set h with h|h
 ·exact .inr h
 ·exact .inl h
theorem Fine.create{s:PS}{U:Nat}(h:Fine s U)(n:ByteArray):Fine (pCreate s n).2 U:=by
 unfold pCreate
 split
 ·exact h
 split
 ·exact h
 split
 ·exact h.burnt
 ·refine ⟨⟨fun f hf=> ?_,burnN_range h.good.fu⟩,?_,h.q⟩
  ·show DV f∧_
   have hf:f∈putL s.L ⟨n,.nils,[],0⟩:=hf
   have hz:DV (⟨n,.nils,[],0⟩:PF)∧(0:Nat)≤([]:List Int).length:=⟨.inl ⟨rfl,rfl⟩,Nat.le_refl _⟩
   unfold putL at hf
   split at hf
   ·rcases mem_put hf with rfl|hf
    ·exact hz
    ·exact h.good.dv f hf
   ·rcases List.mem_append.1 hf with hf|hf
    ·exact h.good.dv f hf
    ·rw [List.mem_singleton.1 hf];exact hz
  ·show usedL (putL s.L ⟨n,.nils,[],0⟩)≤U
   have:=h.used
   unfold putL
   split
   ·rename_i k hk
    obtain ⟨f,h1,_⟩:=find_some hk
    have:=usedL_put (f':=⟨n,.nils,[],0⟩) h1
    simp only [List.length_nil] at this
    omega
   ·rw [usedL_append];simp [usedL] at*;omega
theorem Fine.sync{s:PS}{U:Nat}(h:Fine s U)(n:ByteArray):Fine (pSync s n).2 U:=by
 unfold pSync
 split
 ·exact h
 split
 ·exact h.burnt
 split
 ·rename_i k hk
  split
  ·rename_i f hf
   refine ⟨⟨fun g hg=> ?_,burnN_range h.good.fu⟩,?_,h.q⟩
   ·have hg:g∈s.L.set k {f with last:=f.bytes.length}:=hg
    rcases mem_put hg with rfl|hg
    ·exact ⟨(h.good.dv f (List.mem_of_getElem? hf)).1,Nat.le_refl _⟩
    ·exact h.good.dv g hg
   ·show usedL (s.L.set k {f with last:=f.bytes.length})≤U
    have:=usedL_put (f':={f with last:=f.bytes.length}) hf
    have:=h.used
    simp only at*
    omega
  ·exact h.burnt
 ·exact h.burnt
end
section
set_option maxRecDepth 4000
end
section
set_option maxRecDepth 100000
abbrev u32(n:Int):AV:= .val (.int .u32 n)
abbrev u64(n:Int):AV:= .val (.int .u64 n)
def gtU(a b:Int):Bool:=boolI (binOp .gtr 79 (.int .u64 a) (.int .u64 b))
def shlU(a b:Int):Int:=valI (binOp .shl 79 (.int .u64 a) (.int .u64 b))
def orU(a b:Int):Int:=valI (binOp .or 79 (.int .u64 a) (.int .u64 b))
def shrU(a b:Int):Int:=valI (binOp .shr 79 (.int .u64 a) (.int .u64 b))
def foldN(l:List Int):Int:=l.foldl (fun n b=>orU (shlU n 8) (IntKind.u64.wrap b)) 0
def sitesT:Nat→List Nat
 |7=> [1006,1010,2031,6040,6041]
 |40=> [1014,2036]
 |45=> [6046,2037,41]
 |46=> [2015,2020,2021,2026,2028,5000]
 |82=> [2007]
 |86=> [2012,2023,1015,1018]
 |_=> []
noncomputable def takeEv(r:Nat)(n:Int)(st:St)(x:List Or):=(evCallS Tryz.prog E0 noOv sitesT 100000 46 [.ptr r 0,i64 n] st x).map fun q=>(q.1,q.2.1,q.2.2.2)
theorem takeRun(r idb off len:Nat)(full:Bool)(n m:Int)(st:St)(a7:AV)(f1 f2 f3:St→St)(lf:AV):takeEv r n st [.eff TT id,FF,.eff (.sl idb 1 off len full) id,FF,.eff a7 f1,.eff (.sl idb 1 off len full) id,.eff (i64 m) f2,.eff (.sl idb 1 off len full) id,.eff lf id,.eff (.tup []) f3]
   =some (.tup [a7,i64 0],f3 (f2 (f1 st)),[obL st 4 (.ptr r 1) TT,bo (ltN n 0)=FF,obL st 22 (.ptr r 0) (.sl idb 1 off len full),bo (gtN n len)=FF,makeSliceA E0 st 22 (i64 n) (i64 n)=some (a7,f1 st),obL (f1 st) 22 (.ptr r 0) (.sl idb 1 off len full),
     copyA E0 (f1 st) 22 22 a7 (.sl idb 1 off len full)=some (i64 m,f2 (f1 st)),obL (f2 (f1 st)) 22 (.ptr r 0) (.sl idb 1 off len full),sliceA E0 (f2 (f1 st)) 22 (.sl idb 1 off len full) (some (i64 n)) none none=some lf∧f2 (f1 st)=f2 (f1 st),storeA E0 (f2 (f1 st)) 22 (.ptr r 0) lf=some (f3 (f2 (f1 st)))]):=by kernel_rfl
theorem takeShort(r idb off len:Nat)(full:Bool)(n:Int)(st:St):takeEv r n st [.eff TT id,FF,.eff (.sl idb 1 off len full) id,TT]=some (.tup [.nils,i64 4],st,[obL st 4 (.ptr r 1) TT,bo (ltN n 0)=FF,obL st 22 (.ptr r 0) (.sl idb 1 off len full),bo (gtN n len)=TT]):=by kernel_rfl
theorem takeShortI(r:Nat)(full:Bool)(n:Int)(st:St):takeEv r n st [.eff TT id,FF,.eff (.imm 1 0 full []) id,TT]=some (.tup [.nils,i64 4],st,[obL st 4 (.ptr r 1) TT,bo (ltN n 0)=FF,obL st 22 (.ptr r 0) (.imm 1 0 full []),bo (gtN n 0)=TT]):=by kernel_rfl
theorem takeShortN(r:Nat)(n:Int)(st:St):takeEv r n st [.eff TT id,FF,.eff .nils id,TT]=some (.tup [.nils,i64 4],st,[obL st 4 (.ptr r 1) TT,bo (ltN n 0)=FF,obL st 22 (.ptr r 0) .nils,bo (gtN n 0)=TT]):=by kernel_rfl
noncomputable def numEv(r:Nat)(st:St)(x:List Or):=(evCallS Tryz.prog E0 noOv sitesT 100000 45 [.ptr r 0,i64 4] st x).map fun q=>(q.1,q.2.1,q.2.2.2)
def obR_w(st:St)(r:Nat)(left:AV)(len:Int):Ob:= [obL st 4 (.ptr r 1) TT,bo (ltN 0 0)=FF,obL st 22 (.ptr r 0) left,bo (gtN 0 len)=FF]
theorem numRun(r idb off len new:Nat)(full:Bool)(st:St)(f:St→St)(b0 b1 b2 b3 s:Int):numEv r st [.eff TT id,FF,.eff (.sl idb 1 off len full) id,FF,.eff (.tup [.sl new 1 0 4 true,i64 0]) f,.eff (u8 b0) id,.eff (u8 b1) id,.eff (u8 b2) id,.eff (u8 b3) id,u64 s]
   =some (.tup [u64 s,i64 0],f st,obR_w st r (.sl idb 1 off len full) len++ [obC 46 [.ptr r 0,i64 4] st (.tup [.sl new 1 0 4 true,i64 0]) (f st),obL (f st) 5 (.ptr new 0) (u8 b0),obL (f st) 5 (.ptr new 1) (u8 b1),obL (f st) 5 (.ptr new 2) (u8 b2),obL (f st) 5 (.ptr new 3) (u8 b3),u64 (foldN [b0,b1,b2,b3])=u64 s]):=by kernel_rfl
theorem numShort(r idb off len:Nat)(full:Bool)(st:St):numEv r st [.eff TT id,FF,.eff (.sl idb 1 off len full) id,FF,.eff (.tup [.nils,i64 4]) id]
   =some (.tup [u64 0,i64 4],st,obR_w st r (.sl idb 1 off len full) len++ [obC 46 [.ptr r 0,i64 4] st (.tup [.nils,i64 4]) st]):=by kernel_rfl
theorem numShortI(r:Nat)(full:Bool)(st:St):numEv r st [.eff TT id,FF,.eff (.imm 1 0 full []) id,FF,.eff (.tup [.nils,i64 4]) id]
   =some (.tup [u64 0,i64 4],st,obR_w st r (.imm 1 0 full []) 0++ [obC 46 [.ptr r 0,i64 4] st (.tup [.nils,i64 4]) st]):=by kernel_rfl
theorem numShortN(r:Nat)(st:St):numEv r st [.eff TT id,FF,.eff .nils id,FF,.eff (.tup [.nils,i64 4]) id]
   =some (.tup [u64 0,i64 4],st,obR_w st r .nils 0++ [obC 46 [.ptr r 0,i64 4] st (.tup [.nils,i64 4]) st]):=by kernel_rfl
end
section
set_option maxRecDepth 4000
theorem el24:elemA E0 22=some (5,⟨.int .u8,1,1,some (.int .u8 0)⟩,[u8 0]):=by kernel_rfl
theorem str24:isStrTy E0 22=false:=by kernel_rfl
theorem size5:tySize E0 5=some 1:=by kernel_rfl
theorem make_ok(st:St)(n:Nat)(h:n≤140737488355328):makeSliceA E0 st 22 (i64 n) (i64 n)=some (.sl st.next 1 0 n true,st.push (.row (zerosA [u8 0] n) 5)):=by
 simp only [makeSliceA,el24]
 rw [if_pos ⟨by omega,by omega,by omega,by omega⟩]
 simp
theorem part24{vs:List AV}{off:Nat}{a:AV}(h:vs[off]? =some a):partA E0 22 vs off=some a:=by
 simp only [partA,ty28,isAggD,Bool.false_eq_true,if_false,h]
theorem part4{vs:List AV}{off:Nat}{a:AV}(h:vs[off]? =some a):partA E0 4 vs off=some a:=by
 simp only [partA,ty4,isAggD,Bool.false_eq_true,if_false,h]
theorem part5{vs:List AV}{off:Nat}{a:AV}(h:vs[off]? =some a):partA E0 5 vs off=some a:=by
 simp only [partA,ty5,isAggD,Bool.false_eq_true,if_false,h]
theorem zeros_len(n:Nat):(zerosA [u8 0] n).length=n:=by simp [zerosA]
theorem cells_sl{st:St}{id off len:Nat}{full:Bool}{A:List AV}{ty:Nat}(hg:st.get id=some (.row A ty))(h:off+len≤A.length):sliceCells st (.sl id 1 off len full)=some (len,(A.drop off).take len):=by
 simp only [sliceCells,hg,Nat.mul_one]
 rw [if_pos h]
theorem src_of{st:St}{x:AV}:srcA E0 st 22 x=sliceCells st x:=by simp only [srcA,ty28]
theorem copy_ok{st:St}{i idb off len n:Nat}{f2 full:Bool}{A Z:List AV}{ty:Nat}(hi:st.get i=some (.row Z 5))(hz:Z.length=n)(hl:i∉st.lock)(hb:st.get idb=some (.row A ty))(ho:off+len≤A.length)(hn:n≤len):
  copyA E0 st 22 22 (.sl i 1 0 n f2) (.sl idb 1 off len full)=some (i64 n,st.set i (.row ((A.drop off).take n) 5)):=by
 simp only [copyA,el24,src_of,cells_sl hb ho,str24,St.wget_of hi hl]
 have hlen:((A.drop off).take len).length=len:=by simp;omega
 rw [if_pos ⟨by rw [hlen];omega,fun h=>by cases h⟩,if_pos ⟨trivial,by omega⟩]
 have h1:min len n=n:=by omega
 have h2:List.take n (List.take len (List.drop off A))=List.take n (List.drop off A):=by rw [List.take_take,Nat.min_eq_left hn]
 have h3:(List.take n (List.drop off A)).length=n:=by simp;omega
 simp only [h1,Nat.mul_one,h2,List.take_zero,List.nil_append,h3,Nat.zero_add]
 have h4:List.drop n Z= []:=List.drop_eq_nil_of_le (by omega)
 rw [h4,List.append_nil]
theorem slice_ok(st:St)(id off len n:Nat)(full:Bool)(hn:n≤len):sliceA E0 st 22 (.sl id 1 off len full) (some (i64 n)) none none=some (if n=len then .imm 1 0 false [] else .sl id 1 (off+n) (len- n) full):=by
 have e1:natLe (i64 n) len=some n:=by
  show (if 0≤(n:Int)∧(n:Int)≤len then some (n:Int).toNat else none)=some n
  rw [if_pos ⟨by omega,by omega⟩];rfl
 have hb:boundsA len len (some (i64 n)) none none=some (n,len,len):=by
  delta boundsA
  simp only [e1]
 simp only [sliceA,ty28,size5,hb,if_true,Nat.mul_one,fullOf]
 by_cases h:n=len
 ·rw [if_pos h.symm,if_pos h]
 ·rw [if_neg fun e=>h e.symm,if_neg h];simp
theorem store_ok{st:St}{r:Nat}{v w b:AV}{ty:Nat}(hg:st.get r=some (.row [v,b] ty))(hl:r∉st.lock)(hw:avCells w=some [w]):storeA E0 st 22 (.ptr r 0) w=some (st.set r (.row [w,b] ty)):=by
 simp only [storeA,hw,St.wget_of hg hl,size28]
 simp
end
section
set_option maxRecDepth 4000
theorem run_of{o:Option (AV×St×List Or×Ob)}{a:AV}{st':St}{ob:Ob}(h:(o.map fun q=>(q.1,q.2.1,q.2.2.2))=some (a,st',ob)):∃x,o=some (a,st',x,ob):=by
 obtain ⟨⟨a1,s1,x1,o1⟩,h1,h2⟩:=Option.map_eq_some_iff.1 h
 simp only [Prod.mk.injEq] at h2
 obtain ⟨rfl,rfl,rfl⟩:=h2
 exact ⟨x1,h1⟩
theorem take_run{r:Nat}{n:Int}{st st':St}{x:List Or}{a:AV}{ob:Ob}(h:takeEv r n st x=some (a,st',ob))(hob:ob.ok):obC 46 [.ptr r 0,i64 n] st a st':=by
 obtain ⟨x1,h1⟩:=run_of h
 exact ACalls.run hE (ov:=noOv) noOv_ok h1 hob
theorem num_run{r:Nat}{st st':St}{x:List Or}{a:AV}{ob:Ob}(h:numEv r st x=some (a,st',ob))(hob:ob.ok):obC 45 [.ptr r 0,i64 4] st a st':=by
 obtain ⟨x1,h1⟩:=run_of h
 exact ACalls.run hE (ov:=noOv) noOv_ok h1 hob
def LeftR(st:St)(v:AV)(bs:List AV):Prop:=
 (bs= []∧(v= .nils∨∃f,v= .imm 1 0 f []))∨(bs≠ []∧∃id off full,∃B:List Int,v= .sl id 1 off bs.length full∧st.get id=some (.row (B.map u8) 5)∧(B.map u8).drop off=bs)
def takeSt(st:St)(r:Nat)(ty:Nat)(bs:List AV)(n:Nat)(lf:AV):St:=((st.push (.row (zerosA [u8 0] n) 5)).set st.next (.row (bs.take n) 5)).set r (.row [lf,TT] ty)
theorem take_ok{st:St}{r ty:Nat}{left:AV}{bs:List AV}{n:Nat}(hw:st.wf)(hl:st.lock= [])(hr:st.get r=some (.row [left,TT] ty))(hL:LeftR st left bs)(h0:0<n)(hn:n≤bs.length)(hb:n≤1000000)(hty:ty≠5):
  ∃lf,obC 46 [.ptr r 0,i64 n] st (.tup [.sl st.next 1 0 n true,i64 0]) (takeSt st r ty bs n lf)∧LeftR (takeSt st r ty bs n lf) lf (bs.drop n)∧∀i sz o l f,lf= .sl i sz o l f→i<st.next:=by
 rcases hL with ⟨rfl,_⟩|⟨hne,id,off,full,B,rfl,hg,hd⟩
 ·simp at hn;omega
 have hav:∀a:AV,(a= .imm 1 0 false []∨∃i o l f,a= .sl i 1 o l f)→avCells a=some [a]:=by
  rintro a (rfl|⟨i,o,l,f,rfl⟩)<;>rfl
 generalize hA:B.map u8=A at hg hd
 have hlen:off+bs.length≤A.length:=by
  have:=congrArg List.length hd
  simp at this
  have:0<bs.length:=List.length_pos_iff.2 hne
  omega
 have hid:=hw _ _ hg
 have hrl:=hw _ _ hr
 have hrid:r≠id:=fun e=>by
  rw [e,hg] at hr
  simp only [Option.some.injEq,AObj.row.injEq] at hr
  exact hty hr.2.symm
 refine ⟨if n=bs.length then .imm 1 0 false [] else .sl id 1 (off+n) (bs.length- n) full,?_,?_,?_⟩
 ·refine take_run (takeRun r id off bs.length full n n st (.sl st.next 1 0 n true) (fun s=>s.push (.row (zerosA [u8 0] n) 5)) (fun s=>s.set st.next (.row (bs.take n) 5)) (fun s=>s.set r (.row [if n=bs.length then .imm 1 0 false [] else .sl id 1 (off+n) (bs.length- n) full,TT] ty)) (if n=bs.length then .imm 1 0 false [] else .sl id 1 (off+n) (bs.length- n) full)) ?_
  have g1:(st.push (.row (zerosA [u8 0] n) 5)).get r=some (.row [.sl id 1 off bs.length full,TT] ty):=by rw [St.get_push,if_neg (by omega)];exact hr
  have g2:(st.push (.row (zerosA [u8 0] n) 5)).get id=some (.row A 5):=by rw [St.get_push,if_neg (by omega)];exact hg
  have g3:(st.push (.row (zerosA [u8 0] n) 5)).get st.next=some (.row (zerosA [u8 0] n) 5):=by rw [St.get_push,if_pos rfl]
  have g4:((st.push (.row (zerosA [u8 0] n) 5)).set st.next (.row (bs.take n) 5)).get r=some (.row [.sl id 1 off bs.length full,TT] ty):=by rw [St.get_set,if_neg (by omega)];exact g1
  simp only [Ob.ok_cons,Ob.ok_nil,and_true]
  refine ⟨⟨load_row hr (part4 rfl),rfl⟩,lt_F (by omega),⟨load_row hr (part24 rfl),rfl⟩,gt_F (by omega),make_ok st n (by omega),⟨load_row g1 (part24 rfl),rfl⟩,?_,⟨load_row g4 (part24 rfl),rfl⟩,slice_ok _ id off bs.length n full hn,?_⟩
  ·have:=copy_ok (f2:=true) (full:=full) g3 (zeros_len n) (by rw [St.lock_push,hl];simp) g2 hlen hn
   rw [hd] at this
   exact this
  ·exact store_ok g4 (by simp [hl]) (by split<;>rfl)
 ·by_cases he:n=bs.length
  ·rw [if_pos he]
   exact .inl ⟨by rw [he];exact List.drop_length,.inr ⟨false,rfl⟩⟩
  ·rw [if_neg he]
   refine .inr ⟨fun e=> ?_,id,off+n,full,B,by rw [List.length_drop],?_,by rw [hA,←hd,List.drop_drop]⟩
   ·have:=congrArg List.length e
    simp at this;omega
   ·unfold takeSt
    rw [St.get_set,if_neg (fun e=>hrid e.symm),St.get_set,if_neg (by omega),St.get_push,if_neg (by omega)]
    rw [hA];exact hg
 ·intro i sz o l f e
  split at e
  ·cases e
  ·cases e;exact hid
theorem take_short{st:St}{r ty:Nat}{left:AV}{bs:List AV}{n:Nat}(hr:st.get r=some (.row [left,TT] ty))(hL:LeftR st left bs)(hn:bs.length<n):
  obC 46 [.ptr r 0,i64 n] st (.tup [.nils,i64 4]) st:=by
 rcases hL with ⟨rfl,rfl|⟨f,rfl⟩⟩|⟨hne,id,off,full,A,rfl,hg,hd⟩
 ·refine take_run (takeShortN r n st) ?_
  simp only [Ob.ok_cons,Ob.ok_nil,and_true]
  exact ⟨⟨load_row hr (part4 rfl),rfl⟩,lt_F (by omega),⟨load_row hr (part24 rfl),rfl⟩,gt_T (by simp at hn;omega)⟩
 ·refine take_run (takeShortI r f n st) ?_
  simp only [Ob.ok_cons,Ob.ok_nil,and_true]
  exact ⟨⟨load_row hr (part4 rfl),rfl⟩,lt_F (by omega),⟨load_row hr (part24 rfl),rfl⟩,gt_T (by simp at hn;omega)⟩
 ·refine take_run (takeShort r id off bs.length full n st) ?_
  simp only [Ob.ok_cons,Ob.ok_nil,and_true]
  exact ⟨⟨load_row hr (part4 rfl),rfl⟩,lt_F (by omega),⟨load_row hr (part24 rfl),rfl⟩,gt_T (by omega)⟩
theorem takeSt_get{st:St}{r ty:Nat}{bs:List AV}{n:Nat}{lf:AV}(i:Nat):(takeSt st r ty bs n lf).get i=if i=r then some (.row [lf,TT] ty) else if i=st.next then some (.row (bs.take n) 5) else st.get i:=by
 unfold takeSt
 rw [St.get_set,St.get_set,St.get_push]
 by_cases h:i=r
 ·rw [if_pos h,if_pos h]
 ·rw [if_neg h,if_neg h]
  by_cases h2:i=st.next
  ·rw [if_pos h2,if_pos h2]
  ·rw [if_neg h2,if_neg h2,if_neg h2]
def num4(bs:List Int):Int:=foldN (bs.take 4)
theorem num_ok{st:St}{r ty:Nat}{left:AV}{bs:List Int}(hw:st.wf)(hl:st.lock= [])(hr:st.get r=some (.row [left,TT] ty))(hL:LeftR st left (bs.map u8))(hn:4≤bs.length)(hty:ty≠5):
  ∃lf,obC 45 [.ptr r 0,i64 4] st (.tup [u64 (num4 bs),i64 0]) (takeSt st r ty (bs.map u8) 4 lf)∧LeftR (takeSt st r ty (bs.map u8) 4 lf) lf ((bs.drop 4).map u8)∧∀i sz o l f,lf= .sl i sz o l f→i<st.next:=by
 obtain ⟨lf,k1,k2,k3⟩:=take_ok (n:=4) hw hl hr hL (by omega) (by simpa using hn) (by omega) hty
 rw [←List.map_drop] at k2
 refine ⟨lf,?_,k2,k3⟩
 rcases hL with ⟨h,_⟩|⟨hne,id,off,full,A,rfl,hg,hd⟩
 ·simp at h;rw [h] at hn;simp at hn
 match bs,hn with
 |b0::b1::b2::b3::rest,_=>
 have hrn:=hw _ _ hr
 have g:(takeSt st r ty ((b0::b1::b2::b3::rest).map u8) 4 lf).get st.next=some (.row [u8 b0,u8 b1,u8 b2,u8 b3] 5):=by
  rw [takeSt_get,if_neg (by omega),if_pos rfl];simp
 refine num_run (numRun r id off ((b0::b1::b2::b3::rest).map u8).length st.next full st (fun s=>takeSt s r ty ((b0::b1::b2::b3::rest).map u8) 4 lf) b0 b1 b2 b3 (num4 (b0::b1::b2::b3::rest))) ?_
 simp only [obR_w,List.cons_append,List.nil_append,Ob.ok_cons,Ob.ok_nil,and_true]
 exact ⟨⟨load_row hr (part4 rfl),rfl⟩,lt_F (by omega),⟨load_row hr (part24 rfl),rfl⟩,gt_F (by omega),k1,⟨load_row g (part5 rfl),rfl⟩,⟨load_row g (part5 rfl),rfl⟩,⟨load_row g (part5 rfl),rfl⟩,⟨load_row g (part5 rfl),rfl⟩,rfl⟩
theorem num_short{st:St}{r ty:Nat}{left:AV}{bs:List AV}(hr:st.get r=some (.row [left,TT] ty))(hL:LeftR st left bs)(hn:bs.length<4):
  obC 45 [.ptr r 0,i64 4] st (.tup [u64 0,i64 4]) st:=by
 have k:=take_short (n:=4) hr hL hn
 rcases hL with ⟨rfl,rfl|⟨f,rfl⟩⟩|⟨hne,id,off,full,A,rfl,hg,hd⟩
 ·refine num_run (numShortN r st) ?_
  simp only [obR_w,List.cons_append,List.nil_append,Ob.ok_cons,Ob.ok_nil,and_true]
  exact ⟨⟨load_row hr (part4 rfl),rfl⟩,lt_F (by omega),⟨load_row hr (part24 rfl),rfl⟩,gt_F (by omega),k⟩
 ·refine num_run (numShortI r f st) ?_
  simp only [obR_w,List.cons_append,List.nil_append,Ob.ok_cons,Ob.ok_nil,and_true]
  exact ⟨⟨load_row hr (part4 rfl),rfl⟩,lt_F (by omega),⟨load_row hr (part24 rfl),rfl⟩,gt_F (by omega),k⟩
 ·refine num_run (numShort r id off bs.length full st) ?_
  simp only [obR_w,List.cons_append,List.nil_append,Ob.ok_cons,Ob.ok_nil,and_true]
  exact ⟨⟨load_row hr (part4 rfl),rfl⟩,lt_F (by omega),⟨load_row hr (part24 rfl),rfl⟩,gt_F (by omega),k⟩
end
section
set_option maxRecDepth 100000
def e4(n:Int):AV:= .tup [u64 n,i64 0]
section
variable (l l':AV) (r:Nat) (st:St) (n s m c:Int) (new:Nat) (f1 f2 f3 f4:St→St)
noncomputable def sumEv(x:AV)(st:St)(o:List Or):=(evCallS Tryz.prog E0 noOv (fun|41=> [6083]|_=> []) 100000 41 [x] st o).map fun q=>(q.1,q.2.1,q.2.2.2)
theorem sumRun(x:AV):sumEv x st [.eff (u32 c) id]=some (u32 c,st,[obC 83 [u32 0,x] st (u32 c) st]):=by kernel_rfl
noncomputable def newEv(x:AV)(st:St)(o:List Or):=(evCallS Tryz.prog E0 noOv sitesT 100000 44 [x] st o).map fun q=>(q.1,q.2.1,q.2.2.2)
theorem newRun(i off len j nb:Nat)(full:Bool):newEv (.sl i 1 off len full) st [.eff (.sl j 1 0 nb false) f1]=some (.ptr (f1 (st.push (.row [] 5))).next 0,(f1 (st.push (.row [] 5))).push (.row [.sl j 1 0 nb false,TT] 137),[appendA E0 (st.push (.row [] 5)) 22 22 (.sl st.next 1 0 0 true) (.sl i 1 off len full)=some (.sl j 1 0 nb false,f1 (st.push (.row [] 5)))]):=by kernel_rfl
theorem newRunN:newEv .nils st []=some (.ptr st.next 0,st.push (.row [.nils,TT] 137),[]):=by kernel_rfl
end
end
section
set_option maxRecDepth 4000
theorem ty22:E0.ty 32=some ⟨.slice 22,1,24,some (.slice none 0 0)⟩:=by kernel_rfl
theorem el22:elemA E0 32=some (22,⟨.slice 5,1,24,some (.slice none 0 0)⟩,[.nils]):=by kernel_rfl
theorem str22:isStrTy E0 32=false:=by kernel_rfl
theorem src22{st:St}{x:AV}:srcA E0 st 32 x=sliceCells st x:=by simp only [srcA,ty22]
theorem app_full_w{st:St}{id off len n:Nat}{vs c:List AV}{x:AV}(hg:st.get id=some (.row vs 5))(ho:off+len≤vs.length)(hx:sliceCells st x=some (n,c))(hc:c.length=n)(h0:n≠0)(hb:len+n≤1000000):
  appendA E0 st 22 22 (.sl id 1 off len true) x=some (.sl st.next 1 0 (len+n) false,st.push (.row ((vs.drop off).take len++c) 5)):=by
 simp only [appendA,el24,src_of,hx,str24,hg,Nat.mul_one]
 rw [if_pos ⟨hc,fun h=>by cases h⟩,if_neg (fun h=>h rfl),if_neg h0,if_pos ⟨by omega,by omega⟩,if_pos ⟨trivial,ho⟩,if_pos trivial]
theorem app_row_w{st:St}{id len n:Nat}{vs c:List AV}{x:AV}(hg:st.get id=some (.row vs 5))(hl:st.lock= [])(ho:len=vs.length)(hx:sliceCells st x=some (n,c))(hc:c.length=n)(h0:n≠0)(hb:len+n≤1000000):
  appendA E0 st 22 22 (.sl id 1 0 len false) x=some (.sl st.next 1 0 (len+n) false,(st.del id).push (.row (vs++c) 5)):=by
 simp only [appendA,el24,src_of,hx,str24,hg,Nat.mul_one]
 rw [if_pos ⟨hc,fun h=>by cases h⟩,if_neg (fun h=>h rfl),if_neg h0,if_pos ⟨by omega,by omega⟩,if_pos ⟨trivial,by omega⟩,if_neg (by simp),if_pos ⟨by omega,by rw [hl];simp⟩,List.drop_zero]
theorem app_nil_w{st:St}{n:Nat}{c:List AV}{x:AV}(hx:sliceCells st x=some (n,c))(hc:c.length=n)(h0:n≠0)(hb:n≤1000000):
  appendA E0 st 22 22 .nils x=some (.sl st.next 1 0 n false,st.push (.row c 5)):=by
 simp only [appendA,el24,src_of,hx,str24,Nat.mul_one]
 rw [if_pos ⟨hc,fun h=>by cases h⟩,if_neg h0,if_pos ⟨by omega,by omega⟩]
theorem lapp_nil{st:St}{n:Nat}{c:List AV}{x:AV}(hx:sliceCells st x=some (n,c))(hc:c.length=n)(h0:n≠0)(hb:n≤1000000):
  appendA E0 st 32 32 .nils x=some (.sl st.next 1 0 n false,st.push (.row c 22)):=by
 simp only [appendA,el22,src22,hx,str22,Nat.mul_one]
 rw [if_pos ⟨hc,fun h=>by cases h⟩,if_neg h0,if_pos ⟨by omega,by omega⟩]
theorem lapp_row{st:St}{id len n:Nat}{vs c:List AV}{x:AV}(hg:st.get id=some (.row vs 22))(hl:st.lock= [])(ho:len=vs.length)(hx:sliceCells st x=some (n,c))(hc:c.length=n)(h0:n≠0)(hb:len+n≤1000000):
  appendA E0 st 32 32 (.sl id 1 0 len false) x=some (.sl st.next 1 0 (len+n) false,(st.del id).push (.row (vs++c) 22)):=by
 simp only [appendA,el22,src22,hx,str22,hg,Nat.mul_one]
 rw [if_pos ⟨hc,fun h=>by cases h⟩,if_neg (fun h=>h rfl),if_neg h0,if_pos ⟨by omega,by omega⟩,if_pos ⟨trivial,by omega⟩,if_neg (by simp),if_pos ⟨by omega,by rw [hl];simp⟩,List.drop_zero]
end
section
set_option maxRecDepth 4000
def crcU(d:List Int):Int:=IntKind.u64.wrap (crcMore 0 d)
def parse1(bs:List Int):Option (List Int×List Int):=
 if bs.length<4 then none else
 if num4 bs<1 then none else
 if 4096<num4 bs then none else
 if (bs.drop 4).length<4 then none else
 if (bs.drop 8).length<(num4 bs).toNat then none else
 if crcU ((bs.drop 8).take (num4 bs).toNat)≠num4 (bs.drop 4) then none else
 some ((bs.drop 8).take (num4 bs).toNat,(bs.drop 8).drop (num4 bs).toNat)
def splitN:Nat→List Int→List (List Int)
 |0,_=> []
 |k+1,bs=>match parse1 bs with
  |none=> []
  |some p=>p.1::splitN k p.2
theorem parse1_len{bs:List Int}{p:List Int×List Int}(h:parse1 bs=some p):p.2.length+8<bs.length∧p.1.length+p.2.length+8=bs.length:=by
 unfold parse1 at h
 split at h
 ·cases h
 split at h
 ·cases h
 split at h
 ·cases h
 split at h
 ·cases h
 split at h
 ·cases h
 split at h
 ·cases h
 cases h
 simp only [List.length_drop,List.length_take] at*
 omega
theorem splitN_more:∀(k j:Nat) (bs:List Int),bs.length≤k→bs.length≤j→splitN k bs=splitN j bs
 |0,0,_,_,_=>rfl
 |0,j+1,bs,h,_=>by
  have:bs= []:=List.eq_nil_of_length_eq_zero (by omega)
  subst this
  simp [splitN,parse1]
 |k+1,0,bs,_,h=>by
  have:bs= []:=List.eq_nil_of_length_eq_zero (by omega)
  subst this
  simp [splitN,parse1]
 |k+1,j+1,bs,h1,h2=>by
  simp only [splitN]
  cases hp:parse1 bs with
  |none=>rfl
  |some p=>
   have:=parse1_len hp
   show p.1::splitN k p.2=p.1::splitN j p.2
   rw [splitN_more k j p.2 (by omega) (by omega)]
def Plain(o:AObj):Prop:=∀id vs,frzO id vs o=o
theorem plain_u8(d:List Int)(ty:Nat):Plain (.row (d.map u8) ty):=fun id vs=>by simp only [frzO,frz_u8]
theorem gtU_eq(a b:Int):gtU a b=decide (a>b):=rfl
theorem sum_ok{st:St}{id n:Nat}{f:Bool}{d:List Int}(hg:st.get id=some (.row (d.map u8) 5))(hn:n=d.length)(hb:n<1000000000):obC 41 [.sl id 1 0 n f] st (u32 (crcMore 0 d)) st:=by
 obtain ⟨x1,h1⟩:=run_of (sumRun st (crcMore 0 d) (.sl id 1 0 n f))
 refine ACalls.run hE (ov:=noOv) noOv_ok h1 ?_
 simp only [Ob.ok_cons,Ob.ok_nil,and_true]
 refine (crcMore_ok 0 id 1 0 n f st (d.map u8) 5 d rfl hg hn hb fun i hi=> ?_).mono fun a s e=> ?_
 ·rw [Nat.zero_add,List.getElem?_map,List.getD_eq_getElem?_getD,List.getElem?_eq_getElem (by omega)];rfl
 ·cases e;exact ⟨rfl,rfl⟩
end
section
set_option maxRecDepth 4000
theorem split_none{bs:List Int}(h:parse1 bs=none):splitN bs.length bs= []:=by
 cases hb:bs.length with
 |zero=>rfl
 |succ k=>simp only [splitN,h]
theorem split_some{bs:List Int}{p:List Int×List Int}(h:parse1 bs=some p):splitN bs.length bs=p.1::splitN p.2.length p.2:=by
 have hl:=parse1_len h
 cases hb:bs.length with
 |zero=>omega
 |succ k=>
  simp only [splitN,h]
  rw [splitN_more k p.2.length p.2 (by omega) (Nat.le_refl _)]
theorem takeSt_wf{st:St}(hw:st.wf){r ty n:Nat}{bs:List AV}{lf:AV}(hr:r<st.next):(takeSt st r ty bs n lf).wf:=fun i o ho=>by
 rw [takeSt_get] at ho
 show i<st.next+1
 split at ho
 ·omega
 ·split at ho
  ·omega
  ·have:=hw _ _ ho;omega
theorem takeSt_lock{st:St}{r ty n:Nat}{bs:List AV}{lf:AV}:(takeSt st r ty bs n lf).lock=st.lock:=rfl
theorem takeSt_next{st:St}{r ty n:Nat}{bs:List AV}{lf:AV}:(takeSt st r ty bs n lf).next=st.next+1:=rfl
theorem takeSt_r{st:St}{r ty n:Nat}{bs:List AV}{lf:AV}:(takeSt st r ty bs n lf).get r=some (.row [lf,TT] ty):=by rw [takeSt_get,if_pos rfl]
end
section
set_option maxRecDepth 4000
end
section
set_option maxRecDepth 100000
def byteAt(n c:Int):Int:=IntKind.u8.wrap (shrU n c)
def be4(n:Int):List Int:= [byteAt n 24,byteAt n 16,byteAt n 8,byteAt n 0]
def sitesF:Nat→List Nat
 |7=> [1006,1010,2031,6040,6041]
 |40=> [1014,2036]
 |82=> [2007]
 |_=> []
noncomputable def wnumEv(b:AV)(n:Int)(st:St)(o:List Or):=(evCallS Tryz.prog E0 noOv sitesF 100000 40 [b,u64 n,i64 4] st o).map fun q=>(q.1,q.2.1,q.2.2.2)
def apP(st:St)(s x a:AV)(st':St):Prop:=appendA E0 st 22 22 s x=some (a,st')
section
variable (n:Int) (st:St) (i1 i2 i3 i4 i5 m1 m2 m3 m4 m5:Nat) (g1 g2 g3 g4 g5:St→St)
def pu(st:St)(b:Int):St:=st.push (.row [u8 b] 5)
def S4(i m:Nat):AV:= .sl i 1 0 m false
theorem wnumN:wnumEv .nils n st [FF,.eff (S4 i1 m1) g1,.eff (S4 i2 m2) g2,.eff (S4 i3 m3) g3,.eff (S4 i4 m4) g4]=some (.tup [S4 i4 m4,i64 0],g4 (pu (g3 (pu (g2 (pu (g1 (pu st (byteAt n 24))) (byteAt n 16))) (byteAt n 8))) (byteAt n 0)),
   [bo (gtU n 4294967295)=FF,apP (pu st (byteAt n 24)) .nils (.sl st.next 1 0 1 true) (S4 i1 m1) (g1 (pu st (byteAt n 24))),
    apP (pu (g1 (pu st (byteAt n 24))) (byteAt n 16)) (S4 i1 m1) (.sl (g1 (pu st (byteAt n 24))).next 1 0 1 true) (S4 i2 m2) (g2 (pu (g1 (pu st (byteAt n 24))) (byteAt n 16))),
    apP (pu (g2 (pu (g1 (pu st (byteAt n 24))) (byteAt n 16))) (byteAt n 8)) (S4 i2 m2) (.sl (g2 (pu (g1 (pu st (byteAt n 24))) (byteAt n 16))).next 1 0 1 true) (S4 i3 m3) (g3 (pu (g2 (pu (g1 (pu st (byteAt n 24))) (byteAt n 16))) (byteAt n 8))),
    apP (pu (g3 (pu (g2 (pu (g1 (pu st (byteAt n 24))) (byteAt n 16))) (byteAt n 8))) (byteAt n 0)) (S4 i3 m3) (.sl (g3 (pu (g2 (pu (g1 (pu st (byteAt n 24))) (byteAt n 16))) (byteAt n 8))).next 1 0 1 true) (S4 i4 m4) (g4 (pu (g3 (pu (g2 (pu (g1 (pu st (byteAt n 24))) (byteAt n 16))) (byteAt n 8))) (byteAt n 0)))]):=by kernel_rfl
theorem wnumS(j mj:Nat)(fl:Bool):wnumEv (.sl j 1 0 mj fl) n st [FF,.eff (S4 i5 m5) g5,.eff (S4 i1 m1) g1,.eff (S4 i2 m2) g2,.eff (S4 i3 m3) g3,.eff (S4 i4 m4) g4]=some (.tup [S4 i4 m4,i64 0],g4 (pu (g3 (pu (g2 (pu (g1 (pu (g5 (st.push (.row [] 5))) (byteAt n 24))) (byteAt n 16))) (byteAt n 8))) (byteAt n 0)),
   [bo (gtU n 4294967295)=FF,apP (st.push (.row [] 5)) (.sl st.next 1 0 0 true) (.sl j 1 0 mj fl) (S4 i5 m5) (g5 (st.push (.row [] 5))),
    apP (pu (g5 (st.push (.row [] 5))) (byteAt n 24)) (S4 i5 m5) (.sl (g5 (st.push (.row [] 5))).next 1 0 1 true) (S4 i1 m1) (g1 (pu (g5 (st.push (.row [] 5))) (byteAt n 24))),
    apP (pu (g1 (pu (g5 (st.push (.row [] 5))) (byteAt n 24))) (byteAt n 16)) (S4 i1 m1) (.sl (g1 (pu (g5 (st.push (.row [] 5))) (byteAt n 24))).next 1 0 1 true) (S4 i2 m2) (g2 (pu (g1 (pu (g5 (st.push (.row [] 5))) (byteAt n 24))) (byteAt n 16))),
    apP (pu (g2 (pu (g1 (pu (g5 (st.push (.row [] 5))) (byteAt n 24))) (byteAt n 16))) (byteAt n 8)) (S4 i2 m2) (.sl (g2 (pu (g1 (pu (g5 (st.push (.row [] 5))) (byteAt n 24))) (byteAt n 16))).next 1 0 1 true) (S4 i3 m3) (g3 (pu (g2 (pu (g1 (pu (g5 (st.push (.row [] 5))) (byteAt n 24))) (byteAt n 16))) (byteAt n 8))),
    apP (pu (g3 (pu (g2 (pu (g1 (pu (g5 (st.push (.row [] 5))) (byteAt n 24))) (byteAt n 16))) (byteAt n 8))) (byteAt n 0)) (S4 i3 m3) (.sl (g3 (pu (g2 (pu (g1 (pu (g5 (st.push (.row [] 5))) (byteAt n 24))) (byteAt n 16))) (byteAt n 8))).next 1 0 1 true) (S4 i4 m4) (g4 (pu (g3 (pu (g2 (pu (g1 (pu (g5 (st.push (.row [] 5))) (byteAt n 24))) (byteAt n 16))) (byteAt n 8))) (byteAt n 0)))]):=by kernel_rfl
end
end
section
set_option maxRecDepth 4000
def KeepA(st st':St):Prop:=∀i o,st.get i=some o→st'.get i=some o
def BR(st:St)(s:AV)(B:List Int):Prop:=(B= []∧s= .nils)∨(B≠ []∧∃i,s=S4 i B.length∧st.get i=some (.row (B.map u8) 5))
theorem del_wf{st:St}(hw:st.wf)(id:Nat):(st.del id).wf:=fun i p h=>by
 rw [St.get_del] at h
 split at h
 ·cases h
 ·exact hw _ _ h
theorem app_bytes{st:St}{s x:AV}{B c:List Int}(hB:BR st s B)(hw:st.wf)(hl:st.lock= [])(hx:sliceCells st x=some (c.length,c.map u8))(hc:c≠ [])(hb:B.length+c.length≤1000000):
  ∃st',apP st s x (S4 st.next (B.length+c.length)) st'∧st'.get st.next=some (.row ((B++c).map u8) 5)∧st'.lock= []∧st'.next=st.next+1∧(∀j o,st.get j=some o→s≠S4 j B.length→st'.get j=some o)∧st'.wf:=by
 have h0:c.length≠0:=fun e=>hc (List.eq_nil_of_length_eq_zero e)
 rcases hB with ⟨rfl,rfl⟩|⟨hne,i,rfl,hg⟩
 ·refine ⟨st.push (.row (c.map u8) 5),?_,?_,by simpa using hl,rfl,fun j o ho _=> ?_,push_wf hw _⟩
  ·have:=app_nil_w (st:=st) hx (by simp) h0 (by simp at hb;omega)
   simpa [apP,S4] using this
  ·rw [St.get_push,if_pos rfl];simp
  ·have:=hw _ _ ho
   rw [St.get_push,if_neg (by omega)];exact ho
 ·refine ⟨_,app_row_w hg hl (by simp) hx (by simp) h0 hb,?_,by simpa using hl,rfl,fun j o ho hj=> ?_,push_wf (del_wf hw _) _⟩
  ·rw [St.get_push,if_pos (by simp)];simp
  ·have:=hw _ _ ho
   rw [St.get_push,if_neg (by simp;omega),St.get_del,if_neg (fun e=>hj (by rw [e]))];exact ho
theorem app_byte{st:St}{s:AV}{B:List Int}(hB:BR st s B)(hw:st.wf)(hl:st.lock= [])(b:Int)(hb:B.length+1≤1000000):
  ∃st',apP (pu st b) s (.sl st.next 1 0 1 true) (S4 (st.next+1) (B.length+1)) st'∧st'.get (st.next+1)=some (.row ((B++ [b]).map u8) 5)∧st'.lock= []∧st'.next=st.next+2∧(∀j o,st.get j=some o→s≠S4 j B.length→st'.get j=some o)∧st'.wf:=by
 have hp:∀j o,st.get j=some o→(pu st b).get j=some o:=fun j o ho=>by
  have:=hw _ _ ho
  show (st.push _).get j=_
  rw [St.get_push,if_neg (by omega)];exact ho
 have hB':BR (pu st b) s B:=by
  rcases hB with h|⟨hne,i,rfl,hg⟩
  ·exact .inl h
  ·exact .inr ⟨hne,i,rfl,hp _ _ hg⟩
 have hx:sliceCells (pu st b) (.sl st.next 1 0 1 true)=some ([b].length,[b].map u8):=by
  rw [cells_sl (A:= [u8 b]) (ty:=5) (by show (st.push _).get _=_;rw [St.get_push,if_pos rfl]) (by simp)]
  rfl
 obtain ⟨st',h1,h2,h3,h4,h5,h6⟩:=app_bytes hB' (push_wf hw _) (by show (st.push _).lock=_;simpa using hl) hx (by simp) hb
 exact ⟨st',h1,h2,h3,h4,fun j o ho hj=>h5 j o (hp _ _ ho) hj,h6⟩
theorem wnum_run{b a:AV}{n:Int}{st st':St}{x:List Or}{ob:Ob}(h:wnumEv b n st x=some (a,st',ob))(hob:ob.ok):obC 40 [b,u64 n,i64 4] st a st':=by
 obtain ⟨x1,h1⟩:=run_of h
 exact ACalls.run hE (ov:=noOv) noOv_ok h1 hob
theorem four{st:St}{s:AV}{B:List Int}(hB:BR st s B)(hw:st.wf)(hl:st.lock= [])(n:Int)(hb:B.length+4≤1000000):
  ∃(i1 i2 i3 i4:Nat) (s1 s2 s3 s4:St),apP (pu st (byteAt n 24)) s (.sl st.next 1 0 1 true) (S4 i1 (B.length+1)) s1∧apP (pu s1 (byteAt n 16)) (S4 i1 (B.length+1)) (.sl s1.next 1 0 1 true) (S4 i2 (B.length+2)) s2∧
   apP (pu s2 (byteAt n 8)) (S4 i2 (B.length+2)) (.sl s2.next 1 0 1 true) (S4 i3 (B.length+3)) s3∧apP (pu s3 (byteAt n 0)) (S4 i3 (B.length+3)) (.sl s3.next 1 0 1 true) (S4 i4 (B.length+4)) s4∧
   s4.get i4=some (.row ((B++be4 n).map u8) 5)∧s4.lock= []∧st.next≤i4∧i4<s4.next∧st.next≤s4.next∧(∀j o,st.get j=some o→s≠S4 j B.length→s4.get j=some o)∧s4.wf:=by
 obtain ⟨s1,a1,g1,l1,n1,k1,w1⟩:=app_byte hB hw hl (byteAt n 24) (by omega)
 obtain ⟨s2,a2,g2,l2,n2,k2,w2⟩:=app_byte (s:=S4 (st.next+1) (B.length+1)) (B:=B++ [byteAt n 24]) (.inr ⟨by simp,st.next+1,by simp,g1⟩) w1 l1 (byteAt n 16) (by simp;omega)
 obtain ⟨s3,a3,g3,l3,n3,k3,w3⟩:=app_byte (s:=S4 (s1.next+1) (B.length+2)) (B:=B++ [byteAt n 24]++ [byteAt n 16]) (.inr ⟨by simp,s1.next+1,by simp,g2⟩) w2 l2 (byteAt n 8) (by simp;omega)
 obtain ⟨s4,a4,g4,l4,n4,k4,w4⟩:=app_byte (s:=S4 (s2.next+1) (B.length+3)) (B:=B++ [byteAt n 24]++ [byteAt n 16]++ [byteAt n 8]) (.inr ⟨by simp,s2.next+1,by simp,g3⟩) w3 l3 (byteAt n 0) (by simp;omega)
 refine ⟨st.next+1,s1.next+1,s2.next+1,s3.next+1,s1,s2,s3,s4,a1,by simpa using a2,by simpa using a3,by simpa using a4,by simpa [be4] using g4,l4,by omega,by omega,by omega,fun j o ho hj=> ?_,w4⟩
 have:=hw _ _ ho
 refine k4 j o (k3 j o (k2 j o (k1 j o ho hj) ?_) ?_) ?_<;>(intro e;simp only [S4,AV.sl.injEq] at e;omega)
theorem numW_ok{st:St}{s:AV}{B:List Int}(hB:BR st s B)(hw:st.wf)(hl:st.lock= []){n:Int}(hn:0≤n∧n≤4294967295)(hb:B.length+4≤1000000):
  ∃i st',obC 40 [s,u64 n,i64 4] st (.tup [S4 i (B.length+4),i64 0]) st'∧st'.get i=some (.row ((B++be4 n).map u8) 5)∧st'.lock= []∧st.next≤i∧st.next≤st'.next∧KeepA st st'∧st'.wf:=by
 have hg:bo (gtU n 4294967295)=FF:=ob_F (by rw [gtU_eq];simp;omega)
 rcases hB with ⟨rfl,rfl⟩|⟨hne,j,rfl,hg0⟩
 ·obtain ⟨i1,i2,i3,i4,s1,s2,s3,s4,a1,a2,a3,a4,g,l,x1,x2,x3,k,w⟩:=four (st:=st) (B:= []) (.inl ⟨rfl,rfl⟩) hw hl n hb
  refine ⟨i4,s4,wnum_run (wnumN n st i1 i2 i3 i4 1 2 3 4 (fun _=>s1) (fun _=>s2) (fun _=>s3) (fun _=>s4)) ?_,g,l,x1,x3,fun j o ho=>k j o ho (by intro e;cases e),w⟩
  simp only [Ob.ok_cons,Ob.ok_nil,and_true]
  exact ⟨hg,a1,a2,a3,a4⟩
 ·have hj:=hw _ _ hg0
  have hx:sliceCells (st.push (.row [] 5)) (S4 j B.length)=some (B.length,B.map u8):=by
   unfold S4
   rw [cells_sl (A:=B.map u8) (ty:=5) (by rw [St.get_push,if_neg (by omega)];exact hg0) (by simp),List.drop_zero,List.take_of_length_le (by simp)]
  have h0:B.length≠0:=fun e=>hne (List.eq_nil_of_length_eq_zero e)
  have ha:apP (st.push (.row [] 5)) (.sl st.next 1 0 0 true) (S4 j B.length) (S4 (st.next+1) B.length) ((st.push (.row [] 5)).push (.row (B.map u8) 5)):=by
   have:=app_full_w (st:=st.push (.row [] 5)) (id:=st.next) (off:=0) (len:=0) (n:=B.length) (vs:= []) (c:=B.map u8) (x:=S4 j B.length) (by rw [St.get_push,if_pos rfl]) (by simp) hx (by simp) h0 (by omega)
   simpa [apP,S4] using this
  have hw':=push_wf (push_wf hw (.row [] 5)) (.row (B.map u8) 5)
  have hl':((st.push (.row [] 5)).push (.row (B.map u8) 5)).lock= []:=by simpa using hl
  have hB':BR ((st.push (.row [] 5)).push (.row (B.map u8) 5)) (S4 (st.next+1) B.length) B:= .inr ⟨hne,st.next+1,rfl,by rw [St.get_push,if_pos (by simp)]⟩
  obtain ⟨i1,i2,i3,i4,s1,s2,s3,s4,a1,a2,a3,a4,g,l,x1,x2,x3,k,w⟩:=four hB' hw' hl' n hb
  have hnx:((st.push (.row [] 5)).push (.row (B.map u8) 5)).next=st.next+2:=rfl
  refine ⟨i4,s4,wnum_run (wnumS n st i1 i2 i3 i4 (st.next+1) (B.length+1) (B.length+2) (B.length+3) (B.length+4) B.length (fun _=>s1) (fun _=>s2) (fun _=>s3) (fun _=>s4) (fun _=>(st.push (.row [] 5)).push (.row (B.map u8) 5)) j B.length false) ?_,g,l,by omega,by omega,fun j o ho=> ?_,w⟩
  ·simp only [Ob.ok_cons,Ob.ok_nil,and_true]
   exact ⟨hg,ha,a1,a2,a3,a4⟩
  ·have:=hw _ _ ho
   refine k j o ?_ (by intro e;simp only [S4,AV.sl.injEq] at e;omega)
   rw [St.get_push,if_neg (by simp;omega),St.get_push,if_neg (by omega)];exact ho
end
section
set_option maxRecDepth 4000
def frameL(d:List Int):List Int:=be4 d.length++be4 (crcU d)++d
theorem be4_len(n:Int):(be4 n).length=4:=rfl
theorem frame_len(d:List Int):(frameL d).length=8+d.length:=by simp [frameL,be4_len];omega
theorem wrap32_range(k:Int):0≤IntKind.u32.wrap k∧IntKind.u32.wrap k≤4294967295:=by
 rw [IntKind.wrap_u32];omega
theorem crc_range(l:List Int):0≤crcMore 0 l∧crcMore 0 l≤4294967295:=by
 have h:∃z:Int,crcMore 0 l=IntKind.u32.wrap z:=⟨_,rfl⟩
 obtain ⟨z,hz⟩:=h
 rw [hz];exact wrap32_range z
theorem crcU_eq(d:List Int):crcU d=crcMore 0 d:=by
 have:=crc_range d
 unfold crcU
 rw [IntWalk.u64_in _ (by omega)]
end
section
set_option maxRecDepth 4000
theorem shrU_eq(a c:Nat)(h:c≤64):shrU (a:Int) (c:Int)=((a>>>c:Nat):Int):=by
 have h1:shrU (a:Int) (c:Int)=(a:Int).fdiv (2^(min c 64)):=by
  unfold shrU
  rfl
 rw [h1,Nat.min_eq_left h,Int.fdiv_eq_ediv_of_nonneg _ (Int.le_of_lt (Int.pow_pos (by decide))),Nat.shiftRight_eq_div_pow,Int.natCast_ediv,Int.natCast_pow]
 rfl
theorem byteAt_div(s:Nat)(c:Nat)(hc:c≤64):byteAt (s:Int) (c:Int)=((s/2^c%256:Nat):Int):=by
 unfold byteAt
 rw [shrU_eq s c hc,Nat.shiftRight_eq_div_pow,IntKind.wrap_u8]
 omega
theorem orU_eq(a b:Int):orU a b=IntKind.u64.wrap ((BitVec.ofInt 64 a|||BitVec.ofInt 64 b).toNat:Int):=rfl
theorem orU_nat(m b:Nat)(hm:m<2^56)(hb:b<256):orU (shlU (m:Int) 8) (IntKind.u64.wrap (b:Int))=((m*256+b:Nat):Int):=by
 have h1:shlU (m:Int) 8=((m*256:Nat):Int):=by
  have:shlU (m:Int) 8=IntKind.u64.wrap ((m:Int)*2^8):=rfl
  rw [this,IntWalk.u64_in _ (by omega)]
  omega
 rw [h1,IntWalk.u64_in (b:Int) (by omega),orU_eq]
 have h2:((BitVec.ofInt 64 ((m*256:Nat):Int)|||BitVec.ofInt 64 (b:Int)).toNat)=m*256+b:=by
  rw [BitVec.toNat_or,BitVec.ofInt_natCast,BitVec.ofInt_natCast,BitVec.toNat_ofNat,BitVec.toNat_ofNat,Nat.mod_eq_of_lt (by omega),Nat.mod_eq_of_lt (by omega)]
  have:=Nat.shiftLeft_add_eq_or_of_lt (show b<2^8 by omega) m
  rw [Nat.shiftLeft_eq,show (2:Nat)^8=256 from rfl] at this
  omega
 rw [h2,IntWalk.u64_in _ (by omega)]
theorem foldN_be4(n:Nat)(h:n<2^32):foldN (be4 (n:Int))=(n:Int):=by
 have b24:=byteAt_div n 24 (by omega)
 have b16:=byteAt_div n 16 (by omega)
 have b8:=byteAt_div n 8 (by omega)
 have b0:=byteAt_div n 0 (by omega)
 unfold be4 foldN
 rw [show (24:Int)=((24:Nat):Int) from rfl,show (16:Int)=((16:Nat):Int) from rfl,show (byteAt (n:Int) 8)=byteAt (n:Int) ((8:Nat):Int) from rfl,show (0:Int)=((0:Nat):Int) from rfl,b24,b16,b8,b0]
 simp only [List.foldl_cons,List.foldl_nil]
 have e:∀(m b:Nat),m<2^56→b<256→orU (shlU (m:Int) 8) (IntKind.u64.wrap (b:Int))=((m*256+b:Nat):Int):=orU_nat
 rw [e 0 _ (by omega) (by omega),e _ _ (by omega) (by omega),e _ _ (by omega) (by omega),e _ _ (by omega) (by omega)]
 omega
end
section
set_option maxRecDepth 100000
noncomputable def f9P(i:Nat):Code:=match Tryz.f9.body with
 |some (.seq x0 (.scope (.seq x1 (.seq x2 (.seq x3 (.seq (.block 0 (.loop x4)) x5))))))=> [x0,x1,x2,x3,x4,x5].getD i .skip
 |_=> .skip
theorem f9body:Tryz.f9.body=some (.seq (f9P 0) (.scope (.seq (f9P 1) (.seq (f9P 2) (.seq (f9P 3) (.seq (.block 0 (.loop (f9P 4))) (f9P 5))))))):=by kernel_rfl
def f9L0(T:Tm)(a0:AV):Prop:=T.n=54∧T.get 0=a0
theorem f9_0_e(b:AV)(st:St):evR gA0 [] (f9P 0) ⟨54,[(0,b)],[]⟩ st []=some (.normal,54,[b],st,[]):=by kernel_rfl
theorem f9_0{b:AV}{st:St}{T:Tm}(hT:f9L0 T b):AW Tryz.prog (f9P 0) (fun ex T' st'=>ex= .normal∧f9L0 T' b∧st'=st) T st:=by
 obtain ⟨hn,g0⟩:=hT
 exact genR (f9_0_e b st) Ob.ok_nil hn (one g0) fun T' q2 q3=>by simp only [gA0,List.cons.injEq,and_true] at q3;exact ⟨rfl,⟨q2,q3⟩,rfl⟩
def f9L1(T:Tm)(a0 a3:AV):Prop:=T.n=54∧T.get 0=a0∧T.get 3=a3
theorem f9_1_e(b:AV)(st:St):evR gA1 [] (f9P 1) ⟨54,[(0,b)],[]⟩ st []=some (.normal,54,[b,.nils],st,[]):=by kernel_rfl
theorem f9_1{b:AV}{st:St}{T:Tm}(hT:f9L0 T b):AW Tryz.prog (f9P 1) (fun ex T' st'=>ex= .normal∧f9L1 T' b .nils∧st'=st) T st:=by
 obtain ⟨hn,g0⟩:=hT
 exact genR (f9_1_e b st) Ob.ok_nil hn (one g0) fun T' q2 q3=>by simp only [gA1,List.cons.injEq,and_true] at q3;exact ⟨rfl,⟨q2,q3⟩,rfl⟩
def f9L2(T:Tm)(a3 a4:AV):Prop:=T.n=54∧T.get 3=a3∧T.get 4=a4
abbrev gA20(T:Tm):List AV:= [T.get 3,T.get 4]
theorem f9_2_e(b v3:AV)(st s1:St)(p10:Nat):evR gA20 [6044] (f9P 2) ⟨54,[(0,b),(3,v3)],[]⟩ st [.eff (pt p10) (fun _=>s1)]=some (.normal,54,[v3,(pt p10)],s1,[obC 44 [b] st (pt p10) s1]):=by kernel_rfl
theorem f9_2{b v3:AV}{st s1:St}{p10:Nat}(h1:obC 44 [b] st (pt p10) s1){T:Tm}(hT:f9L1 T b v3):AW Tryz.prog (f9P 2) (fun ex T' st'=>ex= .normal∧f9L2 T' v3 (pt p10)∧st'=s1) T st:=by
 obtain ⟨hn,g0,g3⟩:=hT
 exact genR (f9_2_e b v3 st s1 p10) (kk h1 Ob.ok_nil) hn (conz g0 (one g3)) fun T' q2 q3=>by simp only [gA20,List.cons.injEq,and_true] at q3;exact ⟨rfl,⟨q2,q3⟩,rfl⟩
theorem f9_3_e(v3:AV)(r:Nat)(st:St):evR gA20 [] (f9P 3) ⟨54,[(3,v3),(4,(pt r))],[]⟩ st []=some (.normal,54,[v3,(pt r)],st,[]):=by kernel_rfl
theorem f9_3{v3:AV}{r:Nat}{st:St}{T:Tm}(hT:f9L2 T v3 (pt r)):AW Tryz.prog (f9P 3) (fun ex T' st'=>ex= .normal∧f9L2 T' v3 (pt r)∧st'=st) T st:=by
 obtain ⟨hn,g3,g4⟩:=hT
 exact genR (f9_3_e v3 r st) Ob.ok_nil hn (conz g3 (one g4)) fun T' q2 q3=>by simp only [gA20,List.cons.injEq,and_true] at q3;exact ⟨rfl,⟨q2,q3⟩,rfl⟩
def f9L3(T:Tm)(a3:AV):Prop:=T.n=54∧T.get 3=a3
abbrev sL9:List Nat:= [2036,2045,2051,2052,6041,6045,6046,7017,7020,7024,7032,7041,7047]
theorem f9_4_T_e(v3:AV)(r:Nat)(st s1:St)(n13a n13b:Int):evR gA3 sL9 (f9P 4) ⟨54,[(3,v3),(4,(pt r))],[]⟩ st [.eff (.tup [(u64 n13a),(i64 n13b)]) (fun _=>s1),.av TT]=some ((.exit 0),54,[v3],s1,[obC 45 [(pt r),(i64 4)] st (.tup [(u64 n13a),(i64 n13b)]) s1,Bt 23 .neq n13b 0 TT]):=by kernel_rfl
theorem f9_4_T{v3:AV}{r:Nat}{st s1:St}{n13a n13b:Int}(h1:obC 45 [(pt r),(i64 4)] st (.tup [(u64 n13a),(i64 n13b)]) s1)(h2:Bt 23 .neq n13b 0 TT){T:Tm}(hT:f9L2 T v3 (pt r)):AW Tryz.prog (f9P 4) (fun ex T' st'=>ex=(.exit 0)∧f9L3 T' v3∧st'=s1) T st:=by
 obtain ⟨hn,g3,g4⟩:=hT
 exact genR (f9_4_T_e v3 r st s1 n13a n13b) (kk h1 (kk h2 Ob.ok_nil)) hn (conz g3 (one g4)) fun T' q2 q3=>by simp only [gA3,List.cons.injEq,and_true] at q3;exact ⟨rfl,⟨q2,q3⟩,rfl⟩
theorem f9_4_FT_e(v3:AV)(r:Nat)(st s1:St)(n13a n13b:Int):evR gA3 sL9 (f9P 4) ⟨54,[(3,v3),(4,(pt r))],[]⟩ st [.eff (.tup [(u64 n13a),(i64 n13b)]) (fun _=>s1),.av FF,.av TT]=some ((.exit 0),54,[v3],s1,[obC 45 [(pt r),(i64 4)] st (.tup [(u64 n13a),(i64 n13b)]) s1,Bt 23 .neq n13b 0 FF,binA E0 .lss 79 (u64 n13a) (u64 1)=some TT]):=by kernel_rfl
theorem f9_4_FT{v3:AV}{r:Nat}{st s1:St}{n13a n13b:Int}(h1:obC 45 [(pt r),(i64 4)] st (.tup [(u64 n13a),(i64 n13b)]) s1)(h2:Bt 23 .neq n13b 0 FF)(h3:binA E0 .lss 79 (u64 n13a) (u64 1)=some TT){T:Tm}(hT:f9L2 T v3 (pt r)):AW Tryz.prog (f9P 4) (fun ex T' st'=>ex=(.exit 0)∧f9L3 T' v3∧st'=s1) T st:=by
 obtain ⟨hn,g3,g4⟩:=hT
 exact genR (f9_4_FT_e v3 r st s1 n13a n13b) (kk h1 (kk h2 (kk h3 Ob.ok_nil))) hn (conz g3 (one g4)) fun T' q2 q3=>by simp only [gA3,List.cons.injEq,and_true] at q3;exact ⟨rfl,⟨q2,q3⟩,rfl⟩
theorem f9_4_FFT_e(v3:AV)(r:Nat)(st s1:St)(n13a n13b:Int):evR gA3 sL9 (f9P 4) ⟨54,[(3,v3),(4,(pt r))],[]⟩ st [.eff (.tup [(u64 n13a),(i64 n13b)]) (fun _=>s1),.av FF,.av FF,.av TT]=some ((.exit 0),54,[v3],s1,[obC 45 [(pt r),(i64 4)] st (.tup [(u64 n13a),(i64 n13b)]) s1,Bt 23 .neq n13b 0 FF,binA E0 .lss 79 (u64 n13a) (u64 1)=some FF,binA E0 .gtr 79 (u64 n13a) (u64 4096)=some TT]):=by kernel_rfl
theorem f9_4_FFT{v3:AV}{r:Nat}{st s1:St}{n13a n13b:Int}(h1:obC 45 [(pt r),(i64 4)] st (.tup [(u64 n13a),(i64 n13b)]) s1)(h2:Bt 23 .neq n13b 0 FF)(h3:binA E0 .lss 79 (u64 n13a) (u64 1)=some FF)(h4:binA E0 .gtr 79 (u64 n13a) (u64 4096)=some TT){T:Tm}(hT:f9L2 T v3 (pt r)):AW Tryz.prog (f9P 4) (fun ex T' st'=>ex=(.exit 0)∧f9L3 T' v3∧st'=s1) T st:=by
 obtain ⟨hn,g3,g4⟩:=hT
 exact genR (f9_4_FFT_e v3 r st s1 n13a n13b) (kk h1 (kk h2 (kk h3 (kk h4 Ob.ok_nil)))) hn (conz g3 (one g4)) fun T' q2 q3=>by simp only [gA3,List.cons.injEq,and_true] at q3;exact ⟨rfl,⟨q2,q3⟩,rfl⟩
theorem f9_4_FFFT_e(v3:AV)(r:Nat)(st s1 s2:St)(n13a n13b n28a n28b:Int):evR gA3 sL9 (f9P 4) ⟨54,[(3,v3),(4,(pt r))],[]⟩ st [.eff (.tup [(u64 n13a),(i64 n13b)]) (fun _=>s1),.av FF,.av FF,.av FF,.eff (.tup [(u64 n28a),(i64 n28b)]) (fun _=>s2),.av TT]=some ((.exit 0),54,[v3],s2,[obC 45 [(pt r),(i64 4)] st (.tup [(u64 n13a),(i64 n13b)]) s1,Bt 23 .neq n13b 0 FF,binA E0 .lss 79 (u64 n13a) (u64 1)=some FF,binA E0 .gtr 79 (u64 n13a) (u64 4096)=some FF,obC 45 [(pt r),(i64 4)] s1 (.tup [(u64 n28a),(i64 n28b)]) s2,Bt 23 .neq n28b 0 TT]):=by kernel_rfl
theorem f9_4_FFFT{v3:AV}{r:Nat}{st s1 s2:St}{n13a n13b n28a n28b:Int}(h1:obC 45 [(pt r),(i64 4)] st (.tup [(u64 n13a),(i64 n13b)]) s1)(h2:Bt 23 .neq n13b 0 FF)(h3:binA E0 .lss 79 (u64 n13a) (u64 1)=some FF)(h4:binA E0 .gtr 79 (u64 n13a) (u64 4096)=some FF)(h5:obC 45 [(pt r),(i64 4)] s1 (.tup [(u64 n28a),(i64 n28b)]) s2)(h6:Bt 23 .neq n28b 0 TT){T:Tm}(hT:f9L2 T v3 (pt r)):AW Tryz.prog (f9P 4) (fun ex T' st'=>ex=(.exit 0)∧f9L3 T' v3∧st'=s2) T st:=by
 obtain ⟨hn,g3,g4⟩:=hT
 exact genR (f9_4_FFFT_e v3 r st s1 s2 n13a n13b n28a n28b) (kk h1 (kk h2 (kk h3 (kk h4 (kk h5 (kk h6 Ob.ok_nil)))))) hn (conz g3 (one g4)) fun T' q2 q3=>by simp only [gA3,List.cons.injEq,and_true] at q3;exact ⟨rfl,⟨q2,q3⟩,rfl⟩
theorem f9_4_FFFFT_e(v3 v37a:AV)(r:Nat)(st s1 s2 s3:St)(n13a n13b n28a n28b n36 n37b:Int):evR gA3 sL9 (f9P 4) ⟨54,[(3,v3),(4,(pt r))],[]⟩ st [.eff (.tup [(u64 n13a),(i64 n13b)]) (fun _=>s1),.av FF,.av FF,.av FF,.eff (.tup [(u64 n28a),(i64 n28b)]) (fun _=>s2),.av FF,.eff (i64 n36) id,.eff (.tup [v37a,(i64 n37b)]) (fun _=>s3),.av TT]=some ((.exit 0),54,[v3],s3,[obC 45 [(pt r),(i64 4)] st (.tup [(u64 n13a),(i64 n13b)]) s1,Bt 23 .neq n13b 0 FF,binA E0 .lss 79 (u64 n13a) (u64 1)=some FF,binA E0 .gtr 79 (u64 n13a) (u64 4096)=some FF,obC 45 [(pt r),(i64 4)] s1 (.tup [(u64 n28a),(i64 n28b)]) s2,Bt 23 .neq n28b 0 FF,convO E0 s2 79 3 (u64 n13a)=some ((i64 n36),s2),obC 46 [(pt r),(i64 n36)] s2 (.tup [v37a,(i64 n37b)]) s3,Bt 23 .neq n37b 0 TT]):=by kernel_rfl
theorem f9_4_FFFFT{v3 v37a:AV}{r:Nat}{st s1 s2 s3:St}{n13a n13b n28a n28b n36 n37b:Int}(h1:obC 45 [(pt r),(i64 4)] st (.tup [(u64 n13a),(i64 n13b)]) s1)(h2:Bt 23 .neq n13b 0 FF)(h3:binA E0 .lss 79 (u64 n13a) (u64 1)=some FF)(h4:binA E0 .gtr 79 (u64 n13a) (u64 4096)=some FF)(h5:obC 45 [(pt r),(i64 4)] s1 (.tup [(u64 n28a),(i64 n28b)]) s2)(h6:Bt 23 .neq n28b 0 FF)(h7:convO E0 s2 79 3 (u64 n13a)=some ((i64 n36),s2))(h8:obC 46 [(pt r),(i64 n36)] s2 (.tup [v37a,(i64 n37b)]) s3)(h9:Bt 23 .neq n37b 0 TT){T:Tm}(hT:f9L2 T v3 (pt r)):AW Tryz.prog (f9P 4) (fun ex T' st'=>ex=(.exit 0)∧f9L3 T' v3∧st'=s3) T st:=by
 obtain ⟨hn,g3,g4⟩:=hT
 exact genR (f9_4_FFFFT_e v3 v37a r st s1 s2 s3 n13a n13b n28a n28b n36 n37b) (kk h1 (kk h2 (kk h3 (kk h4 (kk h5 (kk h6 (kk h7 (kk h8 (kk h9 Ob.ok_nil))))))))) hn (conz g3 (one g4)) fun T' q2 q3=>by simp only [gA3,List.cons.injEq,and_true] at q3;exact ⟨rfl,⟨q2,q3⟩,rfl⟩
theorem f9_4_FFFFFT_e(v3 v37a:AV)(r:Nat)(st s1 s2 s3 s4:St)(n13a n13b n28a n28b n36 n37b n44 n45:Int):evR gA3 sL9 (f9P 4) ⟨54,[(3,v3),(4,(pt r))],[]⟩ st [.eff (.tup [(u64 n13a),(i64 n13b)]) (fun _=>s1),.av FF,.av FF,.av FF,.eff (.tup [(u64 n28a),(i64 n28b)]) (fun _=>s2),.av FF,.eff (i64 n36) id,.eff (.tup [v37a,(i64 n37b)]) (fun _=>s3),.av FF,.eff (u32 n44) (fun _=>s4),.eff (u64 n45) id,.av TT]=some ((.exit 0),54,[v3],s4,[obC 45 [(pt r),(i64 4)] st (.tup [(u64 n13a),(i64 n13b)]) s1,Bt 23 .neq n13b 0 FF,binA E0 .lss 79 (u64 n13a) (u64 1)=some FF,binA E0 .gtr 79 (u64 n13a) (u64 4096)=some FF,obC 45 [(pt r),(i64 4)] s1 (.tup [(u64 n28a),(i64 n28b)]) s2,Bt 23 .neq n28b 0 FF,convO E0 s2 79 3 (u64 n13a)=some ((i64 n36),s2),obC 46 [(pt r),(i64 n36)] s2 (.tup [v37a,(i64 n37b)]) s3,Bt 23 .neq n37b 0 FF,obC 41 [v37a] s3 (u32 n44) s4,convO E0 s4 80 79 (u32 n44)=some ((u64 n45),s4),binA E0 .neq 79 (u64 n45) (u64 n28a)=some TT]):=by kernel_rfl
theorem f9_4_FFFFFT{v3 v37a:AV}{r:Nat}{st s1 s2 s3 s4:St}{n13a n13b n28a n28b n36 n37b n44 n45:Int}(h1:obC 45 [(pt r),(i64 4)] st (.tup [(u64 n13a),(i64 n13b)]) s1)(h2:Bt 23 .neq n13b 0 FF)(h3:binA E0 .lss 79 (u64 n13a) (u64 1)=some FF)(h4:binA E0 .gtr 79 (u64 n13a) (u64 4096)=some FF)(h5:obC 45 [(pt r),(i64 4)] s1 (.tup [(u64 n28a),(i64 n28b)]) s2)(h6:Bt 23 .neq n28b 0 FF)(h7:convO E0 s2 79 3 (u64 n13a)=some ((i64 n36),s2))(h8:obC 46 [(pt r),(i64 n36)] s2 (.tup [v37a,(i64 n37b)]) s3)(h9:Bt 23 .neq n37b 0 FF)(h10:obC 41 [v37a] s3 (u32 n44) s4)(h11:convO E0 s4 80 79 (u32 n44)=some ((u64 n45),s4))(h12:binA E0 .neq 79 (u64 n45) (u64 n28a)=some TT){T:Tm}(hT:f9L2 T v3 (pt r)):AW Tryz.prog (f9P 4) (fun ex T' st'=>ex=(.exit 0)∧f9L3 T' v3∧st'=s4) T st:=by
 obtain ⟨hn,g3,g4⟩:=hT
 exact genR (f9_4_FFFFFT_e v3 v37a r st s1 s2 s3 s4 n13a n13b n28a n28b n36 n37b n44 n45) (kk h1 (kk h2 (kk h3 (kk h4 (kk h5 (kk h6 (kk h7 (kk h8 (kk h9 (kk h10 (kk h11 (kk h12 Ob.ok_nil)))))))))))) hn (conz g3 (one g4)) fun T' q2 q3=>by simp only [gA3,List.cons.injEq,and_true] at q3;exact ⟨rfl,⟨q2,q3⟩,rfl⟩
theorem f9_4_FFFFFF_e(v3 v37a v51 v52:AV)(r:Nat)(st s1 s2 s3 s4 s5 s6:St)(n13a n13b n28a n28b n36 n37b n44 n45:Int):evR gA20 sL9 (f9P 4) ⟨54,[(3,v3),(4,(pt r))],[]⟩ st [.eff (.tup [(u64 n13a),(i64 n13b)]) (fun _=>s1),.av FF,.av FF,.av FF,.eff (.tup [(u64 n28a),(i64 n28b)]) (fun _=>s2),.av FF,.eff (i64 n36) id,.eff (.tup [v37a,(i64 n37b)]) (fun _=>s3),.av FF,.eff (u32 n44) (fun _=>s4),.eff (u64 n45) id,.av FF,.eff v51 (fun _=>s5),.eff v52 (fun _=>s6)]=some (.normal,54,[v52,(pt r)],s6,[obC 45 [(pt r),(i64 4)] st (.tup [(u64 n13a),(i64 n13b)]) s1,Bt 23 .neq n13b 0 FF,binA E0 .lss 79 (u64 n13a) (u64 1)=some FF,binA E0 .gtr 79 (u64 n13a) (u64 4096)=some FF,obC 45 [(pt r),(i64 4)] s1 (.tup [(u64 n28a),(i64 n28b)]) s2,Bt 23 .neq n28b 0 FF,convO E0 s2 79 3 (u64 n13a)=some ((i64 n36),s2),obC 46 [(pt r),(i64 n36)] s2 (.tup [v37a,(i64 n37b)]) s3,Bt 23 .neq n37b 0 FF,obC 41 [v37a] s3 (u32 n44) s4,convO E0 s4 80 79 (u32 n44)=some ((u64 n45),s4),binA E0 .neq 79 (u64 n45) (u64 n28a)=some FF,buildSliceA E0 s4 32 1 [(0,v37a)]=some (v51,s5),appendA E0 s5 32 32 v3 v51=some (v52,s6)]):=by kernel_rfl
theorem f9_4_FFFFFF{v3 v37a v51 v52:AV}{r:Nat}{st s1 s2 s3 s4 s5 s6:St}{n13a n13b n28a n28b n36 n37b n44 n45:Int}(h1:obC 45 [(pt r),(i64 4)] st (.tup [(u64 n13a),(i64 n13b)]) s1)(h2:Bt 23 .neq n13b 0 FF)(h3:binA E0 .lss 79 (u64 n13a) (u64 1)=some FF)(h4:binA E0 .gtr 79 (u64 n13a) (u64 4096)=some FF)(h5:obC 45 [(pt r),(i64 4)] s1 (.tup [(u64 n28a),(i64 n28b)]) s2)(h6:Bt 23 .neq n28b 0 FF)(h7:convO E0 s2 79 3 (u64 n13a)=some ((i64 n36),s2))(h8:obC 46 [(pt r),(i64 n36)] s2 (.tup [v37a,(i64 n37b)]) s3)(h9:Bt 23 .neq n37b 0 FF)(h10:obC 41 [v37a] s3 (u32 n44) s4)(h11:convO E0 s4 80 79 (u32 n44)=some ((u64 n45),s4))(h12:binA E0 .neq 79 (u64 n45) (u64 n28a)=some FF)(h13:buildSliceA E0 s4 32 1 [(0,v37a)]=some (v51,s5))(h14:appendA E0 s5 32 32 v3 v51=some (v52,s6)){T:Tm}(hT:f9L2 T v3 (pt r)):AW Tryz.prog (f9P 4) (fun ex T' st'=>ex= .normal∧f9L2 T' v52 (pt r)∧st'=s6) T st:=by
 obtain ⟨hn,g3,g4⟩:=hT
 exact genR (f9_4_FFFFFF_e v3 v37a v51 v52 r st s1 s2 s3 s4 s5 s6 n13a n13b n28a n28b n36 n37b n44 n45) (kk h1 (kk h2 (kk h3 (kk h4 (kk h5 (kk h6 (kk h7 (kk h8 (kk h9 (kk h10 (kk h11 (kk h12 (kk h13 (kk h14 Ob.ok_nil)))))))))))))) hn (conz g3 (one g4)) fun T' q2 q3=>by simp only [gA20,List.cons.injEq,and_true] at q3;exact ⟨rfl,⟨q2,q3⟩,rfl⟩
def f9L4(T:Tm)(a2:AV):Prop:=T.n=54∧T.get 2=a2
theorem f9_5_e(v3:AV)(st:St):evR gA4 [] (f9P 5) ⟨54,[(3,v3)],[]⟩ st []=some (.ret,54,[v3],st,[]):=by kernel_rfl
theorem f9_5{v3:AV}{st:St}{T:Tm}(hT:f9L3 T v3):AW Tryz.prog (f9P 5) (fun ex T' st'=>ex= .ret∧f9L4 T' v3∧st'=st) T st:=by
 obtain ⟨hn,g3⟩:=hT
 exact genR (f9_5_e v3 st) Ob.ok_nil hn (one g3) fun T' q2 q3=>by simp only [gA4,List.cons.injEq,and_true] at q3;exact ⟨rfl,⟨q2,q3⟩,rfl⟩
end
section
set_option maxRecDepth 4000
theorem conv64(st:St)(k:Nat)(h:k≤4096):convO E0 st 79 3 (u64 k)=some (i64 k,st):=by
 have:∀k:Int,convO E0 st 79 3 (u64 k)=some (i64 (IntKind.i64.wrap k),st):=fun k=>by kernel_rfl
 rw [this,IntWalk.i64_in _ (by omega)]
theorem conv32(st:St)(k:Int):convO E0 st 80 79 (u32 k)=some (u64 (IntKind.u64.wrap k),st):=by kernel_rfl
end
section
set_option maxRecDepth 4000
theorem newRunE(st:St)(i j:Nat)(full:Bool)(f1:St→St):newEv (.sl i 1 0 0 full) st [.eff (.sl j 1 0 0 true) f1]=some (.ptr (f1 (st.push (.row [] 5))).next 0,(f1 (st.push (.row [] 5))).push (.row [.sl j 1 0 0 true,TT] 137),[appendA E0 (st.push (.row [] 5)) 22 22 (.sl st.next 1 0 0 true) (.sl i 1 0 0 full)=some (.sl j 1 0 0 true,f1 (st.push (.row [] 5)))]):=by kernel_rfl
def LeftE(st:St)(v:AV)(bs:List Int):Prop:=LeftR st v (bs.map u8)∨(bs= []∧∃j,v= .sl j 1 0 0 true)
theorem new_own{st:St}{b:AV}{A:List Int}(hw:st.wf)(hb:OwnB st b A)(hA:A.length≤1000000):
  ∃r left st',obC 44 [b] st (.ptr r 0) st'∧st.next≤r∧st'.get r=some (.row [left,TT] 137)∧LeftE st' left A∧Rest st st' []:=by
 rcases hb with ⟨rfl,rfl⟩|⟨rfl,i,rfl,hg⟩|⟨hne,i,rfl,hg⟩
 ·obtain ⟨x1,h1⟩:=run_of (newRunN st)
  exact ⟨st.next,.nils,_,ACalls.run hE (ov:=noOv) noOv_ok h1 Ob.ok_nil,Nat.le_refl _,by rw [St.get_push,if_pos rfl],.inl (.inl ⟨rfl,.inl rfl⟩),Rest.push hw _ _⟩
 ·have hi:=hw _ _ hg
  have hg':(st.push (.row [] 5)).get i=some (.row [] 5):=by rw [St.get_push,if_neg (by omega)];exact hg
  have ha:appendA E0 (st.push (.row [] 5)) 22 22 (.sl st.next 1 0 0 true) (.sl i 1 0 0 true)=some (.sl st.next 1 0 0 true,st.push (.row [] 5)):=by
   have hc:sliceCells (st.push (.row [] 5)) (.sl i 1 0 0 true)=some (0,[]):=by rw [cells_sl hg' (by simp)];rfl
   simp only [appendA,el28,src28,str28,hc]
   rw [if_pos ⟨by simp,fun h=>by cases h⟩,if_neg (fun h=>h rfl),if_pos trivial]
  obtain ⟨x1,h1⟩:=run_of (newRunE st i st.next true id)
  exact ⟨_,_,_,ACalls.run hE (ov:=noOv) noOv_ok h1 (by simp only [Ob.ok_cons,Ob.ok_nil,and_true];exact ha),by simp,by rw [St.get_push,if_pos rfl],.inr ⟨rfl,_,rfl⟩,(Rest.push hw _ _).trans (Rest.push (push_wf hw _) _ _)⟩
 ·have hi:=hw _ _ hg
  have h0:0<A.length:=List.length_pos_iff.2 hne
  have hg':(st.push (.row [] 5)).get i=some (.row (A.map u8) 5):=by rw [St.get_push,if_neg (by omega)];exact hg
  have ha:appendA E0 (st.push (.row [] 5)) 22 22 (.sl st.next 1 0 0 true) (.sl i 1 0 A.length false)=some (.sl (st.next+1) 1 0 A.length false,(st.push (.row [] 5)).push (.row (A.map u8) 5)):=by
   have:=app_full_w (st:=st.push (.row [] 5)) (id:=st.next) (off:=0) (len:=0) (n:=A.length) (vs:= []) (c:=A.map u8) (x:= .sl i 1 0 A.length false) (by rw [St.get_push,if_pos rfl]) (by simp)
    (by rw [cells_sl hg' (by simp),List.drop_zero,List.take_of_length_le (by simp)]) (by simp) (by omega) (by omega)
   simpa using this
  obtain ⟨x1,h1⟩:=run_of (newRun st (fun _=>(st.push (.row [] 5)).push (.row (A.map u8) 5)) i 0 A.length (st.next+1) A.length false)
  refine ⟨st.next+2,.sl (st.next+1) 1 0 A.length false,_,ACalls.run hE (ov:=noOv) noOv_ok h1 (by simp only [Ob.ok_cons,Ob.ok_nil,and_true];exact ha),by omega,by rw [St.get_push,if_pos (by simp)],.inl (.inr ⟨by simpa using hne,st.next+1,0,false,A,by simp,?_,by simp⟩),((Rest.push hw _ _).trans (Rest.push (push_wf hw _) _ _)).trans (Rest.push (push_wf (push_wf hw _) _) _ _)⟩
  rw [St.get_push,if_neg (by simp),St.get_push,if_pos (by simp)]
theorem num_shortE{st:St}{r ty j:Nat}(hr:st.get r=some (.row [.sl j 1 0 0 true,TT] ty)):obC 45 [.ptr r 0,i64 4] st (.tup [u64 0,i64 4]) st:=by
 have k:obC 46 [.ptr r 0,i64 (4:Nat)] st (.tup [.nils,i64 4]) st:=take_run (takeShort r j 0 0 true (4:Nat) st) (by
  simp only [Ob.ok_cons,Ob.ok_nil,and_true]
  exact ⟨⟨load_row hr (part4 rfl),rfl⟩,lt_F (by omega),⟨load_row hr (part24 rfl),rfl⟩,gt_T (by omega)⟩)
 refine num_run (numShort r j 0 0 true st) ?_
 simp only [obR_w,List.cons_append,List.nil_append,Ob.ok_cons,Ob.ok_nil,and_true]
 exact ⟨⟨load_row hr (part4 rfl),rfl⟩,lt_F (by omega),⟨load_row hr (part24 rfl),rfl⟩,gt_F (by omega),k⟩
end
end Go.Proofs.YtalchcdenhfmiaaGreatDoor.E
