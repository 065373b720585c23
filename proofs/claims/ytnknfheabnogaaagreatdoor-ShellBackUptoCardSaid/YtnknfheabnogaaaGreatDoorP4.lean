/- Part 4 of the proof, over the abstract machine: contracts of the functions that the statement reaches, joined out of several texts. Condition: none beyond those that the lemmas name. -/
import Derived.Test.YtnknfheabnogaaaGreatDoorP3
import Derived.Shelf.Strconv.AtoiAll
import Derived.Lib.AtoiAllCases
namespace Go.Proofs.YtnknfheabnogaaaGreatDoor.E
open Go Go.Proofs
section
set_option maxRecDepth 100000
/-! ### wakes -/
theorem Rest.same{st:St}(hw:st.wf){id:Nat}{o:AObj}(h:st.get id=some o)(S:List Nat):Rest st (st.set id o) S:=
  ⟨fun i p _ hp=>by
    rw [St.get_set]
    split
    · rename_i e;rw [e,h] at hp;exact hp
    · exact hp,Nat.le_refl _,rfl,rfl,set_wf hw (hw _ _ h) o⟩
theorem cv22{st:St}{a b c n:Nat}{f:Bool}{vs:List AV}(hg:st.get a=some (.row vs 5))(hl:st.lock= []):convO E0 st 51 51 (.sl a b c n f)=some (.sl a b c n f,st.set a (.row vs 5)):=by
  obtain ⟨j,h2,h5⟩:∃j,E0.ty 51=some j∧j.desc= .slice 5:=⟨_,rfl,rfl⟩
  obtain ⟨k,h6,h7⟩:∃k,E0.ty 5=some k∧k.desc= .int .u8:=⟨_,rfl,by kernel_rfl⟩
  have hs:bytesStrA E0 st 51 51 (.sl a b c n f)=none:=by
    simp only [bytesStrA,h2]
    cases sliceCells st (.sl a b c n f) with
    |none=>rfl
    |some r=>simp only [h5]
  have hw:st.wget a=some (.row vs 5):=St.wget_of hg (by rw [hl];simp)
  have hA:convA E0 st 51 51 (.sl a b c n f)=some (.sl a b c n f,st.set a (.row vs 5)):=by
    unfold convA
    rw [hs]
    show (match strBytesA E0 st 51 51 (.sl a b c n f) with|some r=>some r|none=>sameBytesA E0 st 51 51 (.sl a b c n f))=_
    have h0:strBytesA E0 st 51 51 (.sl a b c n f)=none:=by simp only [strBytesA,h2]
    rw [h0]
    simp only [sameBytesA,h2,h5,h6,h7,hw,if_true]
  exact hA
theorem bA1(a:Nat):buildA E0 54 [(0,i64 2),(1,i64 2),(3,.sl a 1 0 2 true)]=some (.agg [i64 2,i64 2,i64 0,.sl a 1 0 2 true,.nils]):=by kernel_rfl
theorem bA2(a:Nat):buildA E0 54 [(0,i64 8),(2,i64 3),(4,.sl a 1 0 2 true)]=some (.agg [i64 8,i64 0,i64 3,.nils,.sl a 1 0 2 true]):=by kernel_rfl
theorem bA3:buildA E0 54 [(0,i64 5)]=some (.agg [i64 5,i64 0,i64 0,.nils,.nils]):=by kernel_rfl
theorem b36(st:St):buildSliceA E0 st 52 2 [(0,u16 5),(1,u16 0)]=some (.sl st.next 1 0 2 true,st.push (.row [u16 5,u16 0] 66)):=by kernel_rfl
theorem b40(st:St)(a b:Nat):buildSliceA E0 st 22 3 [(0,.agg [i64 2,i64 2,i64 0,.sl a 1 0 2 true,.nils]),(1,.agg [i64 8,i64 0,i64 3,.nils,.sl b 1 0 2 true]),(2,.agg [i64 5,i64 0,i64 0,.nils,.nils])]=some (.sl st.next 5 0 3 true,st.push (.row [i64 2,i64 2,i64 0,.sl a 1 0 2 true,.nils,i64 8,i64 0,i64 3,.nils,.sl b 1 0 2 true,i64 5,i64 0,i64 0,.nils,.nils] 54)):=by kernel_rfl
theorem bR1(a:Nat):buildA E0 70 [(0,i64 2),(4,.sl a 1 0 1 true),(5,TT)]=some (.agg [i64 2,i64 0,i64 0,i64 0,.sl a 1 0 1 true,TT]):=by kernel_rfl
theorem bR2:buildA E0 70 [(0,i64 5),(3,i64 4)]=some (.agg [i64 5,i64 0,i64 0,i64 4,.nils,FF]):=by kernel_rfl
theorem bR3:buildA E0 70 [(0,i64 1),(1,i64 7)]=some (.agg [i64 1,i64 7,i64 0,i64 0,.nils,FF]):=by kernel_rfl
theorem b44(st:St)(a:Nat):buildSliceA E0 st 37 3 [(0,.agg [i64 2,i64 0,i64 0,i64 0,.sl a 1 0 1 true,TT]),(1,.agg [i64 5,i64 0,i64 0,i64 4,.nils,FF]),(2,.agg [i64 1,i64 7,i64 0,i64 0,.nils,FF])]=some (.sl st.next 6 0 3 true,st.push (.row [i64 2,i64 0,i64 0,i64 0,.sl a 1 0 1 true,TT,i64 5,i64 0,i64 0,i64 4,.nils,FF,i64 1,i64 7,i64 0,i64 0,.nils,FF] 70)):=by kernel_rfl
theorem b5(st:St):buildSliceA E0 st 51 5 [(0,u8 97),(1,u8 32),(2,u8 34),(3,u8 13),(4,u8 255)]=some (.sl st.next 1 0 5 true,st.push (.row [u8 97,u8 32,u8 34,u8 13,u8 255] 5)):=by kernel_rfl
theorem ix40(a n:Nat)(f:Bool):indexAddrA E0 22 (.sl a 5 0 2 f) (i64 0)=some (.ptr a 0):=by kernel_rfl
theorem fa38(a:Nat):fieldAddrA E0 54 (.ptr a 0) 2=some (.ptr a 2):=by kernel_rfl
theorem ln40(a b c n:Nat)(f:Bool):lenA E0 22 (.sl a b c n f)=some (i64 n):=el40.ln ..
theorem wakes_ok{st:St}(hgl:Tabs st)(hw:st.wf)(hl:st.lock= []):∃z,obC 13 [] st TT z∧Rest st z []:=by
  obtain ⟨s1,r1,h1,k1,m1⟩:=unquote_ok (st:=st) (s:= [34,97,34,120]) hw hl (by decide)
  rw [show unqP [34,97,34,120]=some ([97],[120]) from by decide] at m1
  obtain ⟨v1,rfl,o1,f1⟩:=m1
  have l1:=k1.lock.trans hl
  obtain ⟨s2,r2,h2,k2,m2⟩:=unquote_ok (st:=s1) (s:= [34,92,120,54,49,34]) k1.wf l1 (by decide)
  rw [show unqP [34,92,120,54,49,34]=none from by decide] at m2
  subst m2
  have k3:=Rest.push k2.wf (.row [u8 104,u8 105] 5) []
  have g3:(s2.push (.row [u8 104,u8 105] 5)).get s2.next=some (.row [u8 104,u8 105] 5):=get_new _ _ rfl
  have h3:=b2 s2 104 105
  generalize s2.push (.row [u8 104,u8 105] 5)=s2' at k3 g3 h3
  have h4:=cv22 (b:=1) (c:=0) (n:=2) (f:=true) g3 (((k1.trans k2).trans k3).lock.trans hl)
  have k3':=Rest.same k3.wf g3 []
  replace g3:=k3'.keep _ _ (by simp) g3
  replace k3:=k3.trans k3'
  generalize s2'.set s2.next (.row [u8 104,u8 105] 5)=s3 at k3 g3 h4
  have k5:=Rest.push k3.wf (.row [u16 5,u16 0] 66) []
  have g5:(s3.push (.row [u16 5,u16 0] 66)).get s3.next=some (.row [u16 5,u16 0] 66):=get_new _ _ rfl
  have h6:=b36 s3
  generalize s3.push (.row [u16 5,u16 0] 66)=s5 at k5 g5 h6
  have h9:=b40 s5 s2.next s3.next
  have k6:=Rest.push k5.wf (.row [i64 2,i64 2,i64 0,.sl s2.next 1 0 2 true,.nils,i64 8,i64 0,i64 3,.nils,.sl s3.next 1 0 2 true,i64 5,i64 0,i64 0,.nils,.nils] 54) []
  have g6:(s5.push (.row [i64 2,i64 2,i64 0,.sl s2.next 1 0 2 true,.nils,i64 8,i64 0,i64 3,.nils,.sl s3.next 1 0 2 true,i64 5,i64 0,i64 0,.nils,.nils] 54)).get s5.next=_:=get_new _ _ rfl
  generalize s5.push (.row [i64 2,i64 2,i64 0,.sl s2.next 1 0 2 true,.nils,i64 8,i64 0,i64 3,.nils,.sl s3.next 1 0 2 true,i64 5,i64 0,i64 0,.nils,.nils] 54)=s6 at h9 k6 g6
  have k06:=(((k1.trans k2).trans k3).trans k5).trans k6
  have g36:=(k5.trans k6).keep _ _ (by simp) g3
  have g56:=k6.keep _ _ (by simp) g5
  obtain ⟨s7,h10,k7⟩:=text_w (st:=s6) (f:=true) (hgl.rest k06) k6.wf (k06.lock.trans hl) (.inr (.inr ⟨_,0,true,_,rfl,g36,rfl,by simp⟩)) (.inr (.inr ⟨_,0,true,_,rfl,g56,rfl,by simp⟩)) g6
  have k8:=Rest.push k7.wf (.row [u8 120] 5) []
  have g8:(s7.push (.row [u8 120] 5)).get s7.next=some (.row [u8 120] 5):=get_new _ _ rfl
  have h11:=b1 s7 120
  generalize s7.push (.row [u8 120] 5)=s7' at k8 g8 h11
  have h12:=cv22 (b:=1) (c:=0) (n:=1) (f:=true) g8 (((k06.trans k7).trans k8).lock.trans hl)
  have k8':=Rest.same k8.wf g8 []
  replace g8:=k8'.keep _ _ (by simp) g8
  replace k8:=k8.trans k8'
  generalize s7'.set s7.next (.row [u8 120] 5)=s8 at k8 g8 h12
  have h16:=b44 s8 s7.next
  have k10:=Rest.push k8.wf (.row [i64 2,i64 0,i64 0,i64 0,.sl s7.next 1 0 1 true,TT,i64 5,i64 0,i64 0,i64 4,.nils,FF,i64 1,i64 7,i64 0,i64 0,.nils,FF] 70) []
  have g10:(s8.push (.row [i64 2,i64 0,i64 0,i64 0,.sl s7.next 1 0 1 true,TT,i64 5,i64 0,i64 0,i64 4,.nils,FF,i64 1,i64 7,i64 0,i64 0,.nils,FF] 70)).get s8.next=_:=get_new _ _ rfl
  generalize s8.push (.row [i64 2,i64 0,i64 0,i64 0,.sl s7.next 1 0 1 true,TT,i64 5,i64 0,i64 0,i64 4,.nils,FF,i64 1,i64 7,i64 0,i64 0,.nils,FF] 70)=s10 at h16 k10 g10
  have k010:=((k06.trans k7).trans k8).trans k10
  obtain ⟨s11,h17,k11⟩:=rows_w (st:=s10) (f:=true) (hgl.rest k010) k10.wf (k010.lock.trans hl) (.inr (.inr ⟨_,0,true,_,rfl,k10.keep _ _ (by simp) g8,rfl,by simp⟩)) g10
  have k011:=k010.trans k11
  obtain ⟨id,fl,s12,vs,h18,k12,g12,hv⟩:=parse_w1 (hgl.rest k011) k11.wf (k011.lock.trans hl)
  have k012:=k011.trans k12
  obtain ⟨s13,h19,k13⟩:=parse_w2 (hgl.rest k012) k12.wf (k012.lock.trans hl)
  have k013:=k012.trans k13
  have k14:=Rest.push k13.wf (.row [u8 97,u8 32,u8 34,u8 13,u8 255] 5) []
  have g14:(s13.push (.row [u8 97,u8 32,u8 34,u8 13,u8 255] 5)).get s13.next=some (.row [u8 97,u8 32,u8 34,u8 13,u8 255] 5):=get_new _ _ rfl
  have h20:=b5 s13
  generalize s13.push (.row [u8 97,u8 32,u8 34,u8 13,u8 255] 5)=s13' at k14 g14 h20
  have h21:=cv22 (b:=1) (c:=0) (n:=5) (f:=true) g14 ((k013.trans k14).lock.trans hl)
  have k14':=Rest.same k14.wf g14 []
  replace g14:=k14'.keep _ _ (by simp) g14
  replace k14:=k14.trans k14'
  generalize s13'.set s13.next (.row [u8 97,u8 32,u8 34,u8 13,u8 255] 5)=s14 at k14 g14 h21
  have k014:=k013.trans k14
  obtain ⟨s16,h22,k16⟩:=quote_ok (st:=s14) (x:= .sl s13.next 1 0 5 true) (b:= [97,32,34,13,255]) (.inr (.inr ⟨_,0,true,_,rfl,g14,rfl,by simp⟩)) k14.wf (k014.lock.trans hl) (by decide)
  have k016:=k014.trans k16
  have k116:Rest s1 s16 []:=((((((((((k2.trans k3).trans k5).trans k6).trans k7).trans k8).trans k10).trans k11).trans k12).trans k13).trans k14).trans k16
  have h24:=(o1.rest k116 fun _ _=>by simp).bs.str
  have h37:loadA E0 s16 3 (.ptr id 2)=some (i64 (-1)):=ldf (show (E0.ty 3).map (fun i=>isAggD i.desc)=some false by kernel_rfl) (((k13.trans k14).trans k16).keep _ _ (by simp) g12) hv
  refine ⟨s16,?_,k016⟩
  refine ACalls.body (E:=E0) hE Tryz.func13 f13body ?_
  refine AW.atRet (f13_0_TTTTFTTTTTTTTTT h1 h2 h3 h4 (bA1 _) h6 (bA2 _) bA3 h9 h10 h11 h12 (bR1 _) bR2 bR3 h16 h17 h18 h19 h20 h21 h22 (eq_sbT (b:= [34,97,32,92,34,92,120,48,100,92,120,102,102,34]) (by decide)) h24 (eq_sbT (b:= [97]) rfl) (eq_sbT (b:= [120]) rfl) (eqlT rfl) (eq_sbT (b:= [112,117,115,104,32,50,32,34,104,105,34,10,99,114,97,115,104,32,51,32,53,32,48,10,115,116,101,112,10]) rfl) (eqlT rfl) (eq_sbT (b:= [112,117,115,104,32,111,107,32,34,120,34,32,101,110,100,101,100,10,115,116,101,112,32,111,107,32,52,10,99,111,110,110,101,99,116,32,101,114,114,111,114,32,55,10]) rfl) (eqlT rfl) (eqlT rfl) (ln40 ..) (eqlT rfl) (ix40 id 2 fl) (fa38 id) h37 (eqlT rfl) (eqlT rfl) (eqlT rfl) rfl) fun T q=> ?_
  exact ⟨[T.get 0],rfl,q.2,rfl⟩
end
section
set_option maxRecDepth 100000
theorem f101_FT_e(st:St)(s t:ByteArray)(n15:Int):evCallS Tryz.prog E0 noOv (fun _=> [6075,7015,7018,7022,7026,7029,7034,7035]) 100000 101 [(str s),(str t)] st [.av (i64 n15),.av FF,.av TT]=some ((i64 0),st,[],[lenA E0 9 (str t)=some (i64 n15),binA E0 .eql 3 (i64 n15) (i64 0)=some FF,binA E0 .eql 9 (str t) (str s)=some TT]):=by kernel_rfl
theorem f101_FT{st:St}{s t:ByteArray}{n15:Int}(h1:lenA E0 9 (str t)=some (i64 n15))(h2:binA E0 .eql 3 (i64 n15) (i64 0)=some FF)(h3:binA E0 .eql 9 (str t) (str s)=some TT):obC 101 [(str s),(str t)] st (i64 0) st:=ACalls.run hE noOv_ok (f101_FT_e st s t n15) (Ob.ok_cons.2 ⟨h1,(Ob.ok_cons.2 ⟨h2,(Ob.ok_cons.2 ⟨h3,Ob.ok_nil⟩)⟩)⟩)
theorem f101_FFT_e(st s1:St)(s t:ByteArray)(n15 n29 n30:Int):evCallS Tryz.prog E0 noOv (fun _=> [6075,7015,7018,7022,7026,7029,7034,7035]) 100000 101 [(str s),(str t)] st [.av (i64 n15),.av FF,.av FF,.av TT,.av (u8 n29),.eff (i64 n30) (fun _=>s1)]=some ((i64 n30),s1,[],[lenA E0 9 (str t)=some (i64 n15),binA E0 .eql 3 (i64 n15) (i64 0)=some FF,binA E0 .eql 9 (str t) (str s)=some FF,binA E0 .eql 3 (i64 n15) (i64 1)=some TT,indexA E0 9 (str t) (i64 0)=some (u8 n29),obC 75 [(str s),(u8 n29)] st (i64 n30) s1]):=by kernel_rfl
theorem f101_FFT{st s1:St}{s t:ByteArray}{n15 n29 n30:Int}(h1:lenA E0 9 (str t)=some (i64 n15))(h2:binA E0 .eql 3 (i64 n15) (i64 0)=some FF)(h3:binA E0 .eql 9 (str t) (str s)=some FF)(h4:binA E0 .eql 3 (i64 n15) (i64 1)=some TT)(h5:indexA E0 9 (str t) (i64 0)=some (u8 n29))(h6:obC 75 [(str s),(u8 n29)] st (i64 n30) s1):obC 101 [(str s),(str t)] st (i64 n30) s1:=ACalls.run hE noOv_ok (f101_FFT_e st s1 s t n15 n29 n30) (Ob.ok_cons.2 ⟨h1,(Ob.ok_cons.2 ⟨h2,(Ob.ok_cons.2 ⟨h3,(Ob.ok_cons.2 ⟨h4,(Ob.ok_cons.2 ⟨h5,(Ob.ok_cons.2 ⟨h6,Ob.ok_nil⟩)⟩)⟩)⟩)⟩)⟩)
theorem f87_T_e(st s1:St)(s t w15 w21:ByteArray)(n10 n19 n20:Int):evCallS Tryz.prog E0 noOv (fun _=> [6101,7012,7015,7019,7020,7021,8000]) 100000 87 [(str s),(str t)] st [.eff (i64 n10) (fun _=>s1),.av TT,.eff (str w15) id,.eff (i64 n19) id,.eff (i64 n20) id,.eff (str w21) id]=some ((.tup [(str w15),(str w21),TT]),s1,[],[obC 101 [(str s),(str t)] st (i64 n10) s1,binA E0 .geq 3 (i64 n10) (i64 0)=some TT,∀k∈ [],k<s1.next,sliceA E0 s1 9 (str s) none (some (i64 n10)) none=some (str w15),lenA E0 9 (str t)=some (i64 n19),binA E0 .add 3 (i64 n10) (i64 n19)=some (i64 n20),sliceA E0 s1 9 (str s) (some (i64 n20)) none none=some (str w21)]):=by kernel_rfl
theorem f87_T{st s1:St}{s t w15 w21:ByteArray}{n10 n19 n20:Int}(h1:obC 101 [(str s),(str t)] st (i64 n10) s1)(h2:binA E0 .geq 3 (i64 n10) (i64 0)=some TT)(h3:∀k∈ [],k<s1.next)(h4:sliceA E0 s1 9 (str s) none (some (i64 n10)) none=some (str w15))(h5:lenA E0 9 (str t)=some (i64 n19))(h6:binA E0 .add 3 (i64 n10) (i64 n19)=some (i64 n20))(h7:sliceA E0 s1 9 (str s) (some (i64 n20)) none none=some (str w21)):obC 87 [(str s),(str t)] st (.tup [(str w15),(str w21),TT]) s1:=ACalls.run hE noOv_ok (f87_T_e st s1 s t w15 w21 n10 n19 n20) (Ob.ok_cons.2 ⟨h1,(Ob.ok_cons.2 ⟨h2,(Ob.ok_cons.2 ⟨h3,(Ob.ok_cons.2 ⟨h4,(Ob.ok_cons.2 ⟨h5,(Ob.ok_cons.2 ⟨h6,(Ob.ok_cons.2 ⟨h7,Ob.ok_nil⟩)⟩)⟩)⟩)⟩)⟩)⟩)
theorem f87_F_e(st s1:St)(s t:ByteArray)(n10:Int):evCallS Tryz.prog E0 noOv (fun _=> [6101,7012,7015,7019,7020,7021,8000]) 100000 87 [(str s),(str t)] st [.eff (i64 n10) (fun _=>s1),.av FF]=some ((.tup [(str s),(str ⟨#[]⟩),FF]),s1,[],[obC 101 [(str s),(str t)] st (i64 n10) s1,binA E0 .geq 3 (i64 n10) (i64 0)=some FF]):=by kernel_rfl
theorem f87_F{st s1:St}{s t:ByteArray}{n10:Int}(h1:obC 101 [(str s),(str t)] st (i64 n10) s1)(h2:binA E0 .geq 3 (i64 n10) (i64 0)=some FF):obC 87 [(str s),(str t)] st (.tup [(str s),(str ⟨#[]⟩),FF]) s1:=ACalls.run hE noOv_ok (f87_F_e st s1 s t n10) (Ob.ok_cons.2 ⟨h1,(Ob.ok_cons.2 ⟨h2,Ob.ok_nil⟩)⟩)
theorem f76_e(st s1:St)(s t w9a w9b:ByteArray)(b9c:Bool):evCallS Tryz.prog E0 noOv (fun _=> [6087]) 100000 76 [(str s),(str t)] st [.eff (.tup [(str w9a),(str w9b),(bo b9c)]) (fun _=>s1)]=some ((.tup [(str w9a),(str w9b),(bo b9c)]),s1,[],[obC 87 [(str s),(str t)] st (.tup [(str w9a),(str w9b),(bo b9c)]) s1]):=by kernel_rfl
theorem f76{st s1:St}{s t w9a w9b:ByteArray}{b9c:Bool}(h1:obC 87 [(str s),(str t)] st (.tup [(str w9a),(str w9b),(bo b9c)]) s1):obC 76 [(str s),(str t)] st (.tup [(str w9a),(str w9b),(bo b9c)]) s1:=ACalls.run hE noOv_ok (f76_e st s1 s t w9a w9b b9c) (Ob.ok_cons.2 ⟨h1,Ob.ok_nil⟩)
theorem f60_e(st s1 s2:St)(r:Nat)(w10 w11a w11b:ByteArray)(b11c:Bool):evCallS Tryz.prog E0 noOv (fun _=> [2010,5000,6076]) 100000 60 [(.ptr r 0)] st [.eff (str w10) id,.eff (.tup [(str w11a),(str w11b),(bo b11c)]) (fun _=>s1),.eff .undef (fun _=>s2)]=some ((str w11a),s2,[],[loadA E0 st 9 (.ptr r 0)=some (str w10)∧st=st,obC 76 [(str w10),(str ⟨#[32]⟩)] st (.tup [(str w11a),(str w11b),(bo b11c)]) s1,storeA E0 s1 9 (.ptr r 0) (str w11b)=some s2]):=by kernel_rfl
theorem f60{st s1 s2:St}{r:Nat}{w10 w11a w11b:ByteArray}{b11c:Bool}(h1:loadA E0 st 9 (.ptr r 0)=some (str w10))(h2:obC 76 [(str w10),(str ⟨#[32]⟩)] st (.tup [(str w11a),(str w11b),(bo b11c)]) s1)(h3:storeA E0 s1 9 (.ptr r 0) (str w11b)=some s2):obC 60 [(.ptr r 0)] st (str w11a) s2:=ACalls.run hE noOv_ok (f60_e st s1 s2 r w10 w11a w11b b11c) (Ob.ok_cons.2 ⟨⟨h1,rfl⟩,(Ob.ok_cons.2 ⟨h2,(Ob.ok_cons.2 ⟨h3,Ob.ok_nil⟩)⟩)⟩)
noncomputable def f69P(i:Nat):Code:=match Tryz.f69.body with
  |some (.seq x0 (.seq (.seq x1 (.block 0 (.loop x2))) x3))=> [x0,x1,x2,x3].getD i .skip
  |_=> .skip
theorem f69body:Tryz.f69.body=some (.seq (f69P 0) (.seq (.seq (f69P 1) (.block 0 (.loop (f69P 2)))) (f69P 3))):=by kernel_rfl
def f69L0(T:Tm)(a0 a1:AV):Prop:=T.n=19∧T.get 0=a0∧T.get 1=a1
theorem f69_0_e(x:AV)(s:ByteArray)(st:St):((evS Tryz.prog E0 noOv noS 100000 [] (f69P 0) ⟨19,[(0,x),(1,(str s))],[]⟩ st []).map fun q=>(q.1,q.2.1.n,([q.2.1.get 0,q.2.1.get 1]:List AV),q.2.2.1,q.2.2.2.2))=some (.normal,19,[x,(str s)],st,[]):=by kernel_rfl
theorem f69_0{x:AV}{s:ByteArray}{st:St}{T:Tm}(hT:f69L0 T x (str s)):AW Tryz.prog (f69P 0) (fun ex T' st'=>ex= .normal∧f69L0 T' x (str s)∧st'=st) T st:=by
  obtain ⟨hn,g0,g1⟩:=hT
  exact (gen_run (G:=fun T=>([T.get 0,T.get 1]:List AV)) hE (f69_0_e x s st) Ob.ok_nil hn (conz g0 (one g1))).mono fun ex T' st' ⟨q1,q2,q3,q4⟩=>by simp only [List.cons.injEq,and_true] at q3;exact ⟨q1,⟨q2,q3⟩,q4⟩
def f69L1(T:Tm)(a0 a1 a7 a8:AV):Prop:=T.n=19∧T.get 0=a0∧T.get 1=a1∧T.get 7=a7∧T.get 8=a8
theorem f69_1_e(x:AV)(s:ByteArray)(st:St)(n7:Int):((evS Tryz.prog E0 noOv noS 100000 [7007] (f69P 1) ⟨19,[(0,x),(1,(str s))],[]⟩ st [.av (i64 n7)]).map fun q=>(q.1,q.2.1.n,([q.2.1.get 0,q.2.1.get 1,q.2.1.get 7,q.2.1.get 8]:List AV),q.2.2.1,q.2.2.2.2))=some (.normal,19,[x,(str s),(i64 n7),(i64 0)],st,[lenA E0 61 x=some (i64 n7)]):=by kernel_rfl
theorem f69_1{x:AV}{s:ByteArray}{st:St}{n7:Int}(h1:lenA E0 61 x=some (i64 n7)){T:Tm}(hT:f69L0 T x (str s)):AW Tryz.prog (f69P 1) (fun ex T' st'=>ex= .normal∧f69L1 T' x (str s) (i64 n7) (i64 0)∧st'=st) T st:=by
  obtain ⟨hn,g0,g1⟩:=hT
  exact (gen_run (G:=fun T=>([T.get 0,T.get 1,T.get 7,T.get 8]:List AV)) hE (f69_1_e x s st n7) (Ob.ok_cons.2 ⟨h1,Ob.ok_nil⟩) hn (conz g0 (one g1))).mono fun ex T' st' ⟨q1,q2,q3,q4⟩=>by simp only [List.cons.injEq,and_true] at q3;exact ⟨q1,⟨q2,q3⟩,q4⟩
def f69L2(T:Tm)(a4:AV):Prop:=T.n=19∧T.get 4=a4
theorem f69_2_TT_e(x q14:AV)(s w15:ByteArray)(n7 n8:Int)(st:St):((evS Tryz.prog E0 noOv noS 100000 [2015,7009,7014,7016,7018] (f69P 2) ⟨19,[(0,x),(1,(str s)),(7,(i64 n7)),(8,(i64 n8))],[]⟩ st [.av TT,.av q14,.eff (str w15) id,.av TT]).map fun q=>(q.1,q.2.1.n,([q.2.1.get 4]:List AV),q.2.2.1,q.2.2.2.2))=some (.ret,19,[(i64 n8)],st,[binA E0 .lss 3 (i64 n8) (i64 n7)=some TT,indexAddrA E0 61 x (i64 n8)=some q14,loadA E0 st 9 q14=some (str w15)∧st=st,binA E0 .eql 9 (str s) (str w15)=some TT]):=by kernel_rfl
theorem f69_2_TT{x q14:AV}{s w15:ByteArray}{n7 n8:Int}{st:St}(h1:binA E0 .lss 3 (i64 n8) (i64 n7)=some TT)(h2:indexAddrA E0 61 x (i64 n8)=some q14)(h3:loadA E0 st 9 q14=some (str w15))(h4:binA E0 .eql 9 (str s) (str w15)=some TT){T:Tm}(hT:f69L1 T x (str s) (i64 n7) (i64 n8)):AW Tryz.prog (f69P 2) (fun ex T' st'=>ex= .ret∧f69L2 T' (i64 n8)∧st'=st) T st:=by
  obtain ⟨hn,g0,g1,g7,g8⟩:=hT
  exact (gen_run (G:=fun T=>([T.get 4]:List AV)) hE (f69_2_TT_e x q14 s w15 n7 n8 st) (Ob.ok_cons.2 ⟨h1,(Ob.ok_cons.2 ⟨h2,(Ob.ok_cons.2 ⟨⟨h3,rfl⟩,(Ob.ok_cons.2 ⟨h4,Ob.ok_nil⟩)⟩)⟩)⟩) hn (conz g0 (conz g1 (conz g7 (one g8))))).mono fun ex T' st' ⟨q1,q2,q3,q4⟩=>by simp only [List.cons.injEq,and_true] at q3;exact ⟨q1,⟨q2,q3⟩,q4⟩
theorem f69_2_TF_e(x q14:AV)(s w15:ByteArray)(n7 n8 n18:Int)(st:St):((evS Tryz.prog E0 noOv noS 100000 [2015,7009,7014,7016,7018] (f69P 2) ⟨19,[(0,x),(1,(str s)),(7,(i64 n7)),(8,(i64 n8))],[]⟩ st [.av TT,.av q14,.eff (str w15) id,.av FF,.av (i64 n18)]).map fun q=>(q.1,q.2.1.n,([q.2.1.get 0,q.2.1.get 1,q.2.1.get 7,q.2.1.get 8]:List AV),q.2.2.1,q.2.2.2.2))=some (.normal,19,[x,(str s),(i64 n7),(i64 n18)],st,[binA E0 .lss 3 (i64 n8) (i64 n7)=some TT,indexAddrA E0 61 x (i64 n8)=some q14,loadA E0 st 9 q14=some (str w15)∧st=st,binA E0 .eql 9 (str s) (str w15)=some FF,binA E0 .add 3 (i64 n8) (i64 1)=some (i64 n18)]):=by kernel_rfl
theorem f69_2_TF{x q14:AV}{s w15:ByteArray}{n7 n8 n18:Int}{st:St}(h1:binA E0 .lss 3 (i64 n8) (i64 n7)=some TT)(h2:indexAddrA E0 61 x (i64 n8)=some q14)(h3:loadA E0 st 9 q14=some (str w15))(h4:binA E0 .eql 9 (str s) (str w15)=some FF)(h5:binA E0 .add 3 (i64 n8) (i64 1)=some (i64 n18)){T:Tm}(hT:f69L1 T x (str s) (i64 n7) (i64 n8)):AW Tryz.prog (f69P 2) (fun ex T' st'=>ex= .normal∧f69L1 T' x (str s) (i64 n7) (i64 n18)∧st'=st) T st:=by
  obtain ⟨hn,g0,g1,g7,g8⟩:=hT
  exact (gen_run (G:=fun T=>([T.get 0,T.get 1,T.get 7,T.get 8]:List AV)) hE (f69_2_TF_e x q14 s w15 n7 n8 n18 st) (Ob.ok_cons.2 ⟨h1,(Ob.ok_cons.2 ⟨h2,(Ob.ok_cons.2 ⟨⟨h3,rfl⟩,(Ob.ok_cons.2 ⟨h4,(Ob.ok_cons.2 ⟨h5,Ob.ok_nil⟩)⟩)⟩)⟩)⟩) hn (conz g0 (conz g1 (conz g7 (one g8))))).mono fun ex T' st' ⟨q1,q2,q3,q4⟩=>by simp only [List.cons.injEq,and_true] at q3;exact ⟨q1,⟨q2,q3⟩,q4⟩
def f69L3(T:Tm):Prop:=T.n=19
theorem f69_2_F_e(x:AV)(s:ByteArray)(n7 n8:Int)(st:St):((evS Tryz.prog E0 noOv noS 100000 [2015,7009,7014,7016,7018] (f69P 2) ⟨19,[(0,x),(1,(str s)),(7,(i64 n7)),(8,(i64 n8))],[]⟩ st [.av FF]).map fun q=>(q.1,q.2.1.n,([]:List AV),q.2.2.1,q.2.2.2.2))=some ((.exit 0),19,[],st,[binA E0 .lss 3 (i64 n8) (i64 n7)=some FF]):=by kernel_rfl
theorem f69_2_F{x:AV}{s:ByteArray}{n7 n8:Int}{st:St}(h1:binA E0 .lss 3 (i64 n8) (i64 n7)=some FF){T:Tm}(hT:f69L1 T x (str s) (i64 n7) (i64 n8)):AW Tryz.prog (f69P 2) (fun ex T' st'=>ex=(.exit 0)∧f69L3 T'∧st'=st) T st:=by
  obtain ⟨hn,g0,g1,g7,g8⟩:=hT
  exact (gen_run (G:=fun T=>([]:List AV)) hE (f69_2_F_e x s n7 n8 st) (Ob.ok_cons.2 ⟨h1,Ob.ok_nil⟩) hn (conz g0 (conz g1 (conz g7 (one g8))))).mono fun ex T' st' ⟨q1,q2,q3,q4⟩=>by exact ⟨q1,q2,q4⟩
theorem f69_3_e(st:St):((evS Tryz.prog E0 noOv noS 100000 [] (f69P 3) ⟨19,[],[]⟩ st []).map fun q=>(q.1,q.2.1.n,([q.2.1.get 4]:List AV),q.2.2.1,q.2.2.2.2))=some (.ret,19,[(i64 (-1))],st,[]):=by kernel_rfl
theorem f69_3{st:St}{T:Tm}(hT:f69L3 T):AW Tryz.prog (f69P 3) (fun ex T' st'=>ex= .ret∧f69L2 T' (i64 (-1))∧st'=st) T st:=by
  have hn:T.n=19:=hT
  exact (gen_run (G:=fun T=>([T.get 4]:List AV)) hE (f69_3_e st) Ob.ok_nil hn (fun q hq=>by cases hq)).mono fun ex T' st' ⟨q1,q2,q3,q4⟩=>by simp only [List.cons.injEq,and_true] at q3;exact ⟨q1,⟨q2,q3⟩,q4⟩
theorem f46_T_e(st s1 s2 s3 s4:St)(r:Nat)(v4:AV)(w6:ByteArray)(n7:Int):evCallS Tryz.prog E0 noOv (fun _=> [5000,6060,6064,6069,7010]) 100000 46 [(.ptr r 0)] st [.eff v4 (fun _=>s1),.eff (str w6) (fun _=>s2),.eff (i64 n7) (fun _=>s3),.av TT,.eff .undef (fun _=>s4)]=some ((i64 n7),s4,[],[obC 64 [(str ⟨#[32,99,111,110,110,101,99,116,32,112,117,115,104,32,99,108,111,115,101,32,116,105,99,107,32,115,116,101,112,32,113,117,111,116,97,32,102,117,115,101,32,99,114,97,115,104,32,111,112,101,110]⟩),(str ⟨#[32]⟩)] st v4 s1,obC 60 [(.ptr r 0)] s1 (str w6) s2,obC 69 [v4,(str w6)] s2 (i64 n7) s3,binA E0 .lss 3 (i64 n7) (i64 1)=some TT,storeA E0 s3 4 (.ptr r 1) TT=some s4]):=by kernel_rfl
theorem f46_T{st s1 s2 s3 s4:St}{r:Nat}{v4:AV}{w6:ByteArray}{n7:Int}(h1:obC 64 [(str ⟨#[32,99,111,110,110,101,99,116,32,112,117,115,104,32,99,108,111,115,101,32,116,105,99,107,32,115,116,101,112,32,113,117,111,116,97,32,102,117,115,101,32,99,114,97,115,104,32,111,112,101,110]⟩),(str ⟨#[32]⟩)] st v4 s1)(h2:obC 60 [(.ptr r 0)] s1 (str w6) s2)(h3:obC 69 [v4,(str w6)] s2 (i64 n7) s3)(h4:binA E0 .lss 3 (i64 n7) (i64 1)=some TT)(h5:storeA E0 s3 4 (.ptr r 1) TT=some s4):obC 46 [(.ptr r 0)] st (i64 n7) s4:=ACalls.run hE noOv_ok (f46_T_e st s1 s2 s3 s4 r v4 w6 n7) (Ob.ok_cons.2 ⟨h1,(Ob.ok_cons.2 ⟨h2,(Ob.ok_cons.2 ⟨h3,(Ob.ok_cons.2 ⟨h4,(Ob.ok_cons.2 ⟨h5,Ob.ok_nil⟩)⟩)⟩)⟩)⟩)
theorem f46_F_e(st s1 s2 s3 s4:St)(r:Nat)(v4:AV)(w6:ByteArray)(n7:Int):evCallS Tryz.prog E0 noOv (fun _=> [5000,6060,6064,6069,7010]) 100000 46 [(.ptr r 0)] st [.eff v4 (fun _=>s1),.eff (str w6) (fun _=>s2),.eff (i64 n7) (fun _=>s3),.av FF,.eff .undef (fun _=>s4)]=some ((i64 n7),s4,[],[obC 64 [(str ⟨#[32,99,111,110,110,101,99,116,32,112,117,115,104,32,99,108,111,115,101,32,116,105,99,107,32,115,116,101,112,32,113,117,111,116,97,32,102,117,115,101,32,99,114,97,115,104,32,111,112,101,110]⟩),(str ⟨#[32]⟩)] st v4 s1,obC 60 [(.ptr r 0)] s1 (str w6) s2,obC 69 [v4,(str w6)] s2 (i64 n7) s3,binA E0 .lss 3 (i64 n7) (i64 1)=some FF,storeA E0 s3 4 (.ptr r 1) FF=some s4]):=by kernel_rfl
theorem f46_F{st s1 s2 s3 s4:St}{r:Nat}{v4:AV}{w6:ByteArray}{n7:Int}(h1:obC 64 [(str ⟨#[32,99,111,110,110,101,99,116,32,112,117,115,104,32,99,108,111,115,101,32,116,105,99,107,32,115,116,101,112,32,113,117,111,116,97,32,102,117,115,101,32,99,114,97,115,104,32,111,112,101,110]⟩),(str ⟨#[32]⟩)] st v4 s1)(h2:obC 60 [(.ptr r 0)] s1 (str w6) s2)(h3:obC 69 [v4,(str w6)] s2 (i64 n7) s3)(h4:binA E0 .lss 3 (i64 n7) (i64 1)=some FF)(h5:storeA E0 s3 4 (.ptr r 1) FF=some s4):obC 46 [(.ptr r 0)] st (i64 n7) s4:=ACalls.run hE noOv_ok (f46_F_e st s1 s2 s3 s4 r v4 w6 n7) (Ob.ok_cons.2 ⟨h1,(Ob.ok_cons.2 ⟨h2,(Ob.ok_cons.2 ⟨h3,(Ob.ok_cons.2 ⟨h4,(Ob.ok_cons.2 ⟨h5,Ob.ok_nil⟩)⟩)⟩)⟩)⟩)
theorem f50_T_e(st s1 s2 s3:St)(r:Nat)(w7:ByteArray)(n:Int):evCallS Tryz.prog E0 noOv (fun _=> [2015,5000,6060,6071]) 100000 50 [(.ptr r 0)] st [.eff (str w7) (fun _=>s1),.eff (.tup [(i64 n),.nili]) (fun _=>s2),.eff TT id,.eff .undef (fun _=>s3)]=some ((i64 n),s3,[],[obC 60 [(.ptr r 0)] st (str w7) s1,obC 71 [(str w7)] s1 (.tup [(i64 n),.nili]) s2,loadA E0 s2 4 (.ptr r 1)=some TT∧s2=s2,storeA E0 s2 4 (.ptr r 1) TT=some s3]):=by kernel_rfl
theorem f50_T{st s1 s2 s3:St}{r:Nat}{w7:ByteArray}{n:Int}(h1:obC 60 [(.ptr r 0)] st (str w7) s1)(h2:obC 71 [(str w7)] s1 (.tup [(i64 n),.nili]) s2)(h3:loadA E0 s2 4 (.ptr r 1)=some TT)(h4:storeA E0 s2 4 (.ptr r 1) TT=some s3):obC 50 [(.ptr r 0)] st (i64 n) s3:=ACalls.run hE noOv_ok (f50_T_e st s1 s2 s3 r w7 n) (Ob.ok_cons.2 ⟨h1,(Ob.ok_cons.2 ⟨h2,(Ob.ok_cons.2 ⟨⟨h3,rfl⟩,(Ob.ok_cons.2 ⟨h4,Ob.ok_nil⟩)⟩)⟩)⟩)
theorem f50_F_e(st s1 s2 s3:St)(r:Nat)(w7:ByteArray)(n:Int):evCallS Tryz.prog E0 noOv (fun _=> [2015,5000,6060,6071]) 100000 50 [(.ptr r 0)] st [.eff (str w7) (fun _=>s1),.eff (.tup [(i64 n),.nili]) (fun _=>s2),.eff FF id,.eff .undef (fun _=>s3)]=some ((i64 n),s3,[],[obC 60 [(.ptr r 0)] st (str w7) s1,obC 71 [(str w7)] s1 (.tup [(i64 n),.nili]) s2,loadA E0 s2 4 (.ptr r 1)=some FF∧s2=s2,storeA E0 s2 4 (.ptr r 1) FF=some s3]):=by kernel_rfl
theorem f50_F{st s1 s2 s3:St}{r:Nat}{w7:ByteArray}{n:Int}(h1:obC 60 [(.ptr r 0)] st (str w7) s1)(h2:obC 71 [(str w7)] s1 (.tup [(i64 n),.nili]) s2)(h3:loadA E0 s2 4 (.ptr r 1)=some FF)(h4:storeA E0 s2 4 (.ptr r 1) FF=some s3):obC 50 [(.ptr r 0)] st (i64 n) s3:=ACalls.run hE noOv_ok (f50_F_e st s1 s2 s3 r w7 n) (Ob.ok_cons.2 ⟨h1,(Ob.ok_cons.2 ⟨h2,(Ob.ok_cons.2 ⟨⟨h3,rfl⟩,(Ob.ok_cons.2 ⟨h4,Ob.ok_nil⟩)⟩)⟩)⟩)
theorem f50e_T_e(st s1 s2 s3:St)(r:Nat)(w7:ByteArray)(n:Int):evCallS Tryz.prog E0 noOv (fun _=> [2015,5000,6060,6071]) 100000 50 [(.ptr r 0)] st [.eff (str w7) (fun _=>s1),.eff (.tup [(i64 n),(.ifc 138 .undef)]) (fun _=>s2),.eff TT id,.eff .undef (fun _=>s3)]=some ((i64 n),s3,[],[obC 60 [(.ptr r 0)] st (str w7) s1,obC 71 [(str w7)] s1 (.tup [(i64 n),(.ifc 138 .undef)]) s2,loadA E0 s2 4 (.ptr r 1)=some TT∧s2=s2,storeA E0 s2 4 (.ptr r 1) TT=some s3]):=by kernel_rfl
theorem f50e_T{st s1 s2 s3:St}{r:Nat}{w7:ByteArray}{n:Int}(h1:obC 60 [(.ptr r 0)] st (str w7) s1)(h2:obC 71 [(str w7)] s1 (.tup [(i64 n),(.ifc 138 .undef)]) s2)(h3:loadA E0 s2 4 (.ptr r 1)=some TT)(h4:storeA E0 s2 4 (.ptr r 1) TT=some s3):obC 50 [(.ptr r 0)] st (i64 n) s3:=ACalls.run hE noOv_ok (f50e_T_e st s1 s2 s3 r w7 n) (Ob.ok_cons.2 ⟨h1,(Ob.ok_cons.2 ⟨h2,(Ob.ok_cons.2 ⟨⟨h3,rfl⟩,(Ob.ok_cons.2 ⟨h4,Ob.ok_nil⟩)⟩)⟩)⟩)
theorem f50e_F_e(st s1 s2 s3:St)(r:Nat)(w7:ByteArray)(n:Int):evCallS Tryz.prog E0 noOv (fun _=> [2015,5000,6060,6071]) 100000 50 [(.ptr r 0)] st [.eff (str w7) (fun _=>s1),.eff (.tup [(i64 n),(.ifc 138 .undef)]) (fun _=>s2),.eff FF id,.eff .undef (fun _=>s3)]=some ((i64 n),s3,[],[obC 60 [(.ptr r 0)] st (str w7) s1,obC 71 [(str w7)] s1 (.tup [(i64 n),(.ifc 138 .undef)]) s2,loadA E0 s2 4 (.ptr r 1)=some FF∧s2=s2,storeA E0 s2 4 (.ptr r 1) TT=some s3]):=by kernel_rfl
theorem f50e_F{st s1 s2 s3:St}{r:Nat}{w7:ByteArray}{n:Int}(h1:obC 60 [(.ptr r 0)] st (str w7) s1)(h2:obC 71 [(str w7)] s1 (.tup [(i64 n),(.ifc 138 .undef)]) s2)(h3:loadA E0 s2 4 (.ptr r 1)=some FF)(h4:storeA E0 s2 4 (.ptr r 1) TT=some s3):obC 50 [(.ptr r 0)] st (i64 n) s3:=ACalls.run hE noOv_ok (f50e_F_e st s1 s2 s3 r w7 n) (Ob.ok_cons.2 ⟨h1,(Ob.ok_cons.2 ⟨h2,(Ob.ok_cons.2 ⟨⟨h3,rfl⟩,(Ob.ok_cons.2 ⟨h4,Ob.ok_nil⟩)⟩)⟩)⟩)
theorem f84_T_e(st s1:St)(s t w11:ByteArray)(n10:Int):evCallS Tryz.prog E0 noOv (fun _=> [6074,7010,7011]) 100000 84 [(str s),(str t)] st [.eff TT (fun _=>s1),.av (i64 n10),.av (str w11)]=some ((str w11),s1,[],[obC 74 [(str s),(str t)] st TT s1,lenA E0 9 (str t)=some (i64 n10),sliceA E0 s1 9 (str s) (some (i64 n10)) none none=some (str w11)]):=by kernel_rfl
theorem f84_T{st s1:St}{s t w11:ByteArray}{n10:Int}(h1:obC 74 [(str s),(str t)] st TT s1)(h2:lenA E0 9 (str t)=some (i64 n10))(h3:sliceA E0 s1 9 (str s) (some (i64 n10)) none none=some (str w11)):obC 84 [(str s),(str t)] st (str w11) s1:=ACalls.run hE noOv_ok (f84_T_e st s1 s t w11 n10) (Ob.ok_cons.2 ⟨h1,(Ob.ok_cons.2 ⟨h2,(Ob.ok_cons.2 ⟨h3,Ob.ok_nil⟩)⟩)⟩)
theorem f84_F_e(st s1:St)(s t:ByteArray):evCallS Tryz.prog E0 noOv (fun _=> [6074,7010,7011]) 100000 84 [(str s),(str t)] st [.eff FF (fun _=>s1)]=some ((str s),s1,[],[obC 74 [(str s),(str t)] st FF s1]):=by kernel_rfl
theorem f84_F{st s1:St}{s t:ByteArray}(h1:obC 74 [(str s),(str t)] st FF s1):obC 84 [(str s),(str t)] st (str s) s1:=ACalls.run hE noOv_ok (f84_F_e st s1 s t) (Ob.ok_cons.2 ⟨h1,Ob.ok_nil⟩)
theorem f72_e(st s1:St)(s t w7:ByteArray):evCallS Tryz.prog E0 noOv (fun _=> [6084]) 100000 72 [(str s),(str t)] st [.eff (str w7) (fun _=>s1)]=some ((str w7),s1,[],[obC 84 [(str s),(str t)] st (str w7) s1]):=by kernel_rfl
theorem f72{st s1:St}{s t w7:ByteArray}(h1:obC 84 [(str s),(str t)] st (str w7) s1):obC 72 [(str s),(str t)] st (str w7) s1:=ACalls.run hE noOv_ok (f72_e st s1 s t w7) (Ob.ok_cons.2 ⟨h1,Ob.ok_nil⟩)
theorem f53_T_e(st s1 s2 s3 s4:St)(r:Nat)(w10 w11b w28:ByteArray)(v11a:AV)(b11c:Bool):evCallS Tryz.prog E0 noOv (fun _=> [2010,2019,5000,6027,6072]) 100000 53 [(.ptr r 0)] st [.eff (str w10) id,.eff (.tup [v11a,(str w11b),(bo b11c)]) (fun _=>s1),.eff TT id,.eff .undef (fun _=>s2),.eff (str w28) (fun _=>s3),.eff .undef (fun _=>s4)]=some (v11a,s4,[],[loadA E0 st 9 (.ptr r 0)=some (str w10)∧st=st,obC 27 [(str w10)] st (.tup [v11a,(str w11b),(bo b11c)]) s1,loadA E0 s1 4 (.ptr r 1)=some TT∧s1=s1,storeA E0 s1 4 (.ptr r 1) TT=some s2,obC 72 [(str w11b),(str ⟨#[32]⟩)] s2 (str w28) s3,storeA E0 s3 9 (.ptr r 0) (str w28)=some s4]):=by kernel_rfl
theorem f53_T{st s1 s2 s3 s4:St}{r:Nat}{w10 w11b w28:ByteArray}{v11a:AV}{b11c:Bool}(h1:loadA E0 st 9 (.ptr r 0)=some (str w10))(h2:obC 27 [(str w10)] st (.tup [v11a,(str w11b),(bo b11c)]) s1)(h3:loadA E0 s1 4 (.ptr r 1)=some TT)(h4:storeA E0 s1 4 (.ptr r 1) TT=some s2)(h5:obC 72 [(str w11b),(str ⟨#[32]⟩)] s2 (str w28) s3)(h6:storeA E0 s3 9 (.ptr r 0) (str w28)=some s4):obC 53 [(.ptr r 0)] st v11a s4:=ACalls.run hE noOv_ok (f53_T_e st s1 s2 s3 s4 r w10 w11b w28 v11a b11c) (Ob.ok_cons.2 ⟨⟨h1,rfl⟩,(Ob.ok_cons.2 ⟨h2,(Ob.ok_cons.2 ⟨⟨h3,rfl⟩,(Ob.ok_cons.2 ⟨h4,(Ob.ok_cons.2 ⟨h5,(Ob.ok_cons.2 ⟨h6,Ob.ok_nil⟩)⟩)⟩)⟩)⟩)⟩)
theorem f53_FT_e(st s1 s2 s3 s4:St)(r:Nat)(w10 w11b w28:ByteArray)(v11a:AV):evCallS Tryz.prog E0 noOv (fun _=> [2010,2019,5000,6027,6072]) 100000 53 [(.ptr r 0)] st [.eff (str w10) id,.eff (.tup [v11a,(str w11b),TT]) (fun _=>s1),.eff FF id,.eff .undef (fun _=>s2),.eff (str w28) (fun _=>s3),.eff .undef (fun _=>s4)]=some (v11a,s4,[],[loadA E0 st 9 (.ptr r 0)=some (str w10)∧st=st,obC 27 [(str w10)] st (.tup [v11a,(str w11b),TT]) s1,loadA E0 s1 4 (.ptr r 1)=some FF∧s1=s1,storeA E0 s1 4 (.ptr r 1) FF=some s2,obC 72 [(str w11b),(str ⟨#[32]⟩)] s2 (str w28) s3,storeA E0 s3 9 (.ptr r 0) (str w28)=some s4]):=by kernel_rfl
theorem f53_FT{st s1 s2 s3 s4:St}{r:Nat}{w10 w11b w28:ByteArray}{v11a:AV}(h1:loadA E0 st 9 (.ptr r 0)=some (str w10))(h2:obC 27 [(str w10)] st (.tup [v11a,(str w11b),TT]) s1)(h3:loadA E0 s1 4 (.ptr r 1)=some FF)(h4:storeA E0 s1 4 (.ptr r 1) FF=some s2)(h5:obC 72 [(str w11b),(str ⟨#[32]⟩)] s2 (str w28) s3)(h6:storeA E0 s3 9 (.ptr r 0) (str w28)=some s4):obC 53 [(.ptr r 0)] st v11a s4:=ACalls.run hE noOv_ok (f53_FT_e st s1 s2 s3 s4 r w10 w11b w28 v11a) (Ob.ok_cons.2 ⟨⟨h1,rfl⟩,(Ob.ok_cons.2 ⟨h2,(Ob.ok_cons.2 ⟨⟨h3,rfl⟩,(Ob.ok_cons.2 ⟨h4,(Ob.ok_cons.2 ⟨h5,(Ob.ok_cons.2 ⟨h6,Ob.ok_nil⟩)⟩)⟩)⟩)⟩)⟩)
theorem f53_FF_e(st s1 s2 s3 s4:St)(r:Nat)(w10 w11b w28:ByteArray)(v11a:AV):evCallS Tryz.prog E0 noOv (fun _=> [2010,2019,5000,6027,6072]) 100000 53 [(.ptr r 0)] st [.eff (str w10) id,.eff (.tup [v11a,(str w11b),FF]) (fun _=>s1),.eff FF id,.eff .undef (fun _=>s2),.eff (str w28) (fun _=>s3),.eff .undef (fun _=>s4)]=some (v11a,s4,[],[loadA E0 st 9 (.ptr r 0)=some (str w10)∧st=st,obC 27 [(str w10)] st (.tup [v11a,(str w11b),FF]) s1,loadA E0 s1 4 (.ptr r 1)=some FF∧s1=s1,storeA E0 s1 4 (.ptr r 1) TT=some s2,obC 72 [(str w11b),(str ⟨#[32]⟩)] s2 (str w28) s3,storeA E0 s3 9 (.ptr r 0) (str w28)=some s4]):=by kernel_rfl
theorem f53_FF{st s1 s2 s3 s4:St}{r:Nat}{w10 w11b w28:ByteArray}{v11a:AV}(h1:loadA E0 st 9 (.ptr r 0)=some (str w10))(h2:obC 27 [(str w10)] st (.tup [v11a,(str w11b),FF]) s1)(h3:loadA E0 s1 4 (.ptr r 1)=some FF)(h4:storeA E0 s1 4 (.ptr r 1) TT=some s2)(h5:obC 72 [(str w11b),(str ⟨#[32]⟩)] s2 (str w28) s3)(h6:storeA E0 s3 9 (.ptr r 0) (str w28)=some s4):obC 53 [(.ptr r 0)] st v11a s4:=ACalls.run hE noOv_ok (f53_FF_e st s1 s2 s3 s4 r w10 w11b w28 v11a) (Ob.ok_cons.2 ⟨⟨h1,rfl⟩,(Ob.ok_cons.2 ⟨h2,(Ob.ok_cons.2 ⟨⟨h3,rfl⟩,(Ob.ok_cons.2 ⟨h4,(Ob.ok_cons.2 ⟨h5,(Ob.ok_cons.2 ⟨h6,Ob.ok_nil⟩)⟩)⟩)⟩)⟩)⟩)
noncomputable def f70P(i:Nat):Code:=match Tryz.f70.body with
  |some (.seq x0 (.seq (.seq x1 (.block 0 (.loop x2))) x3))=> [x0,x1,x2,x3].getD i .skip
  |_=> .skip
theorem f70body:Tryz.f70.body=some (.seq (f70P 0) (.seq (.seq (f70P 1) (.block 0 (.loop (f70P 2)))) (f70P 3))):=by kernel_rfl
def f70L0(T:Tm)(a0 a1:AV):Prop:=T.n=19∧T.get 0=a0∧T.get 1=a1
theorem f70_0_e(x:AV)(k:Int)(st:St):((evS Tryz.prog E0 noOv noS 100000 [] (f70P 0) ⟨19,[(0,x),(1,(i64 k))],[]⟩ st []).map fun q=>(q.1,q.2.1.n,([q.2.1.get 0,q.2.1.get 1]:List AV),q.2.2.1,q.2.2.2.2))=some (.normal,19,[x,(i64 k)],st,[]):=by kernel_rfl
theorem f70_0{x:AV}{k:Int}{st:St}{T:Tm}(hT:f70L0 T x (i64 k)):AW Tryz.prog (f70P 0) (fun ex T' st'=>ex= .normal∧f70L0 T' x (i64 k)∧st'=st) T st:=by
  obtain ⟨hn,g0,g1⟩:=hT
  exact (gen_run (G:=fun T=>([T.get 0,T.get 1]:List AV)) hE (f70_0_e x k st) Ob.ok_nil hn (conz g0 (one g1))).mono fun ex T' st' ⟨q1,q2,q3,q4⟩=>by simp only [List.cons.injEq,and_true] at q3;exact ⟨q1,⟨q2,q3⟩,q4⟩
def f70L1(T:Tm)(a0 a1 a7 a8:AV):Prop:=T.n=19∧T.get 0=a0∧T.get 1=a1∧T.get 7=a7∧T.get 8=a8
theorem f70_1_e(x:AV)(k n7:Int)(st:St):((evS Tryz.prog E0 noOv noS 100000 [7007] (f70P 1) ⟨19,[(0,x),(1,(i64 k))],[]⟩ st [.av (i64 n7)]).map fun q=>(q.1,q.2.1.n,([q.2.1.get 0,q.2.1.get 1,q.2.1.get 7,q.2.1.get 8]:List AV),q.2.2.1,q.2.2.2.2))=some (.normal,19,[x,(i64 k),(i64 n7),(i64 0)],st,[lenA E0 100 x=some (i64 n7)]):=by kernel_rfl
theorem f70_1{x:AV}{k n7:Int}{st:St}(h1:lenA E0 100 x=some (i64 n7)){T:Tm}(hT:f70L0 T x (i64 k)):AW Tryz.prog (f70P 1) (fun ex T' st'=>ex= .normal∧f70L1 T' x (i64 k) (i64 n7) (i64 0)∧st'=st) T st:=by
  obtain ⟨hn,g0,g1⟩:=hT
  exact (gen_run (G:=fun T=>([T.get 0,T.get 1,T.get 7,T.get 8]:List AV)) hE (f70_1_e x k n7 st) (Ob.ok_cons.2 ⟨h1,Ob.ok_nil⟩) hn (conz g0 (one g1))).mono fun ex T' st' ⟨q1,q2,q3,q4⟩=>by simp only [List.cons.injEq,and_true] at q3;exact ⟨q1,⟨q2,q3⟩,q4⟩
def f70L2(T:Tm)(a4:AV):Prop:=T.n=19∧T.get 4=a4
theorem f70_2_TT_e(x q14:AV)(k n7 n8 n15:Int)(st:St):((evS Tryz.prog E0 noOv noS 100000 [2015,7009,7014,7016,7018] (f70P 2) ⟨19,[(0,x),(1,(i64 k)),(7,(i64 n7)),(8,(i64 n8))],[]⟩ st [.av TT,.av q14,.eff (i64 n15) id,.av TT]).map fun q=>(q.1,q.2.1.n,([q.2.1.get 4]:List AV),q.2.2.1,q.2.2.2.2))=some (.ret,19,[(i64 n8)],st,[binA E0 .lss 3 (i64 n8) (i64 n7)=some TT,indexAddrA E0 100 x (i64 n8)=some q14,loadA E0 st 3 q14=some (i64 n15)∧st=st,binA E0 .eql 3 (i64 k) (i64 n15)=some TT]):=by kernel_rfl
theorem f70_2_TT{x q14:AV}{k n7 n8 n15:Int}{st:St}(h1:binA E0 .lss 3 (i64 n8) (i64 n7)=some TT)(h2:indexAddrA E0 100 x (i64 n8)=some q14)(h3:loadA E0 st 3 q14=some (i64 n15))(h4:binA E0 .eql 3 (i64 k) (i64 n15)=some TT){T:Tm}(hT:f70L1 T x (i64 k) (i64 n7) (i64 n8)):AW Tryz.prog (f70P 2) (fun ex T' st'=>ex= .ret∧f70L2 T' (i64 n8)∧st'=st) T st:=by
  obtain ⟨hn,g0,g1,g7,g8⟩:=hT
  exact (gen_run (G:=fun T=>([T.get 4]:List AV)) hE (f70_2_TT_e x q14 k n7 n8 n15 st) (Ob.ok_cons.2 ⟨h1,(Ob.ok_cons.2 ⟨h2,(Ob.ok_cons.2 ⟨⟨h3,rfl⟩,(Ob.ok_cons.2 ⟨h4,Ob.ok_nil⟩)⟩)⟩)⟩) hn (conz g0 (conz g1 (conz g7 (one g8))))).mono fun ex T' st' ⟨q1,q2,q3,q4⟩=>by simp only [List.cons.injEq,and_true] at q3;exact ⟨q1,⟨q2,q3⟩,q4⟩
theorem f70_2_TF_e(x q14:AV)(k n7 n8 n15 n18:Int)(st:St):((evS Tryz.prog E0 noOv noS 100000 [2015,7009,7014,7016,7018] (f70P 2) ⟨19,[(0,x),(1,(i64 k)),(7,(i64 n7)),(8,(i64 n8))],[]⟩ st [.av TT,.av q14,.eff (i64 n15) id,.av FF,.av (i64 n18)]).map fun q=>(q.1,q.2.1.n,([q.2.1.get 0,q.2.1.get 1,q.2.1.get 7,q.2.1.get 8]:List AV),q.2.2.1,q.2.2.2.2))=some (.normal,19,[x,(i64 k),(i64 n7),(i64 n18)],st,[binA E0 .lss 3 (i64 n8) (i64 n7)=some TT,indexAddrA E0 100 x (i64 n8)=some q14,loadA E0 st 3 q14=some (i64 n15)∧st=st,binA E0 .eql 3 (i64 k) (i64 n15)=some FF,binA E0 .add 3 (i64 n8) (i64 1)=some (i64 n18)]):=by kernel_rfl
theorem f70_2_TF{x q14:AV}{k n7 n8 n15 n18:Int}{st:St}(h1:binA E0 .lss 3 (i64 n8) (i64 n7)=some TT)(h2:indexAddrA E0 100 x (i64 n8)=some q14)(h3:loadA E0 st 3 q14=some (i64 n15))(h4:binA E0 .eql 3 (i64 k) (i64 n15)=some FF)(h5:binA E0 .add 3 (i64 n8) (i64 1)=some (i64 n18)){T:Tm}(hT:f70L1 T x (i64 k) (i64 n7) (i64 n8)):AW Tryz.prog (f70P 2) (fun ex T' st'=>ex= .normal∧f70L1 T' x (i64 k) (i64 n7) (i64 n18)∧st'=st) T st:=by
  obtain ⟨hn,g0,g1,g7,g8⟩:=hT
  exact (gen_run (G:=fun T=>([T.get 0,T.get 1,T.get 7,T.get 8]:List AV)) hE (f70_2_TF_e x q14 k n7 n8 n15 n18 st) (Ob.ok_cons.2 ⟨h1,(Ob.ok_cons.2 ⟨h2,(Ob.ok_cons.2 ⟨⟨h3,rfl⟩,(Ob.ok_cons.2 ⟨h4,(Ob.ok_cons.2 ⟨h5,Ob.ok_nil⟩)⟩)⟩)⟩)⟩) hn (conz g0 (conz g1 (conz g7 (one g8))))).mono fun ex T' st' ⟨q1,q2,q3,q4⟩=>by simp only [List.cons.injEq,and_true] at q3;exact ⟨q1,⟨q2,q3⟩,q4⟩
def f70L3(T:Tm):Prop:=T.n=19
theorem f70_2_F_e(x:AV)(k n7 n8:Int)(st:St):((evS Tryz.prog E0 noOv noS 100000 [2015,7009,7014,7016,7018] (f70P 2) ⟨19,[(0,x),(1,(i64 k)),(7,(i64 n7)),(8,(i64 n8))],[]⟩ st [.av FF]).map fun q=>(q.1,q.2.1.n,([]:List AV),q.2.2.1,q.2.2.2.2))=some ((.exit 0),19,[],st,[binA E0 .lss 3 (i64 n8) (i64 n7)=some FF]):=by kernel_rfl
theorem f70_2_F{x:AV}{k n7 n8:Int}{st:St}(h1:binA E0 .lss 3 (i64 n8) (i64 n7)=some FF){T:Tm}(hT:f70L1 T x (i64 k) (i64 n7) (i64 n8)):AW Tryz.prog (f70P 2) (fun ex T' st'=>ex=(.exit 0)∧f70L3 T'∧st'=st) T st:=by
  obtain ⟨hn,g0,g1,g7,g8⟩:=hT
  exact (gen_run (G:=fun T=>([]:List AV)) hE (f70_2_F_e x k n7 n8 st) (Ob.ok_cons.2 ⟨h1,Ob.ok_nil⟩) hn (conz g0 (conz g1 (conz g7 (one g8))))).mono fun ex T' st' ⟨q1,q2,q3,q4⟩=>by exact ⟨q1,q2,q4⟩
theorem f70_3_e(st:St):((evS Tryz.prog E0 noOv noS 100000 [] (f70P 3) ⟨19,[],[]⟩ st []).map fun q=>(q.1,q.2.1.n,([q.2.1.get 4]:List AV),q.2.2.1,q.2.2.2.2))=some (.ret,19,[(i64 (-1))],st,[]):=by kernel_rfl
theorem f70_3{st:St}{T:Tm}(hT:f70L3 T):AW Tryz.prog (f70P 3) (fun ex T' st'=>ex= .ret∧f70L2 T' (i64 (-1))∧st'=st) T st:=by
  have hn:T.n=19:=hT
  exact (gen_run (G:=fun T=>([T.get 4]:List AV)) hE (f70_3_e st) Ob.ok_nil hn (fun q hq=>by cases hq)).mono fun ex T' st' ⟨q1,q2,q3,q4⟩=>by simp only [List.cons.injEq,and_true] at q3;exact ⟨q1,⟨q2,q3⟩,q4⟩
theorem f48_T_e(st s1:St)(x:AV)(k n7:Int):evCallS Tryz.prog E0 noOv (fun _=> [6070,7008]) 100000 48 [x,(i64 k)] st [.eff (i64 n7) (fun _=>s1),.av TT]=some (TT,s1,[],[obC 70 [x,(i64 k)] st (i64 n7) s1,binA E0 .geq 3 (i64 n7) (i64 0)=some TT]):=by kernel_rfl
theorem f48_T{st s1:St}{x:AV}{k n7:Int}(h1:obC 70 [x,(i64 k)] st (i64 n7) s1)(h2:binA E0 .geq 3 (i64 n7) (i64 0)=some TT):obC 48 [x,(i64 k)] st TT s1:=ACalls.run hE noOv_ok (f48_T_e st s1 x k n7) (Ob.ok_cons.2 ⟨h1,(Ob.ok_cons.2 ⟨h2,Ob.ok_nil⟩)⟩)
theorem f48_F_e(st s1:St)(x:AV)(k n7:Int):evCallS Tryz.prog E0 noOv (fun _=> [6070,7008]) 100000 48 [x,(i64 k)] st [.eff (i64 n7) (fun _=>s1),.av FF]=some (FF,s1,[],[obC 70 [x,(i64 k)] st (i64 n7) s1,binA E0 .geq 3 (i64 n7) (i64 0)=some FF]):=by kernel_rfl
theorem f48_F{st s1:St}{x:AV}{k n7:Int}(h1:obC 70 [x,(i64 k)] st (i64 n7) s1)(h2:binA E0 .geq 3 (i64 n7) (i64 0)=some FF):obC 48 [x,(i64 k)] st FF s1:=ACalls.run hE noOv_ok (f48_F_e st s1 x k n7) (Ob.ok_cons.2 ⟨h1,(Ob.ok_cons.2 ⟨h2,Ob.ok_nil⟩)⟩)
theorem f49_e(st s1 s2:St)(a b r:Nat)(n3:Int):evCallS Tryz.prog E0 noOv (fun _=> [2002,5000,6050]) 100000 49 [(.ptr a 0),(.ptr b 0)] st [.eff (.ptr r 0) id,.eff (i64 n3) (fun _=>s1),.eff .undef (fun _=>s2)]=some ((.tup []),s2,[],[loadA E0 st 97 (.ptr a 0)=some (.ptr r 0)∧st=st,obC 50 [(.ptr r 0)] st (i64 n3) s1,storeA E0 s1 3 (.ptr b 1) (i64 n3)=some s2]):=by kernel_rfl
theorem f49{st s1 s2:St}{a b r:Nat}{n3:Int}(h1:loadA E0 st 97 (.ptr a 0)=some (.ptr r 0))(h2:obC 50 [(.ptr r 0)] st (i64 n3) s1)(h3:storeA E0 s1 3 (.ptr b 1) (i64 n3)=some s2):obC 49 [(.ptr a 0),(.ptr b 0)] st (.tup []) s2:=ACalls.run hE noOv_ok (f49_e st s1 s2 a b r n3) (Ob.ok_cons.2 ⟨⟨h1,rfl⟩,(Ob.ok_cons.2 ⟨h2,(Ob.ok_cons.2 ⟨h3,Ob.ok_nil⟩)⟩)⟩)
theorem f51_e(st s1 s2:St)(a b r:Nat)(n3:Int):evCallS Tryz.prog E0 noOv (fun _=> [2002,5000,6050]) 100000 51 [(.ptr a 0),(.ptr b 0)] st [.eff (.ptr r 0) id,.eff (i64 n3) (fun _=>s1),.eff .undef (fun _=>s2)]=some ((.tup []),s2,[],[loadA E0 st 97 (.ptr a 0)=some (.ptr r 0)∧st=st,obC 50 [(.ptr r 0)] st (i64 n3) s1,storeA E0 s1 3 (.ptr b 2) (i64 n3)=some s2]):=by kernel_rfl
theorem f51{st s1 s2:St}{a b r:Nat}{n3:Int}(h1:loadA E0 st 97 (.ptr a 0)=some (.ptr r 0))(h2:obC 50 [(.ptr r 0)] st (i64 n3) s1)(h3:storeA E0 s1 3 (.ptr b 2) (i64 n3)=some s2):obC 51 [(.ptr a 0),(.ptr b 0)] st (.tup []) s2:=ACalls.run hE noOv_ok (f51_e st s1 s2 a b r n3) (Ob.ok_cons.2 ⟨⟨h1,rfl⟩,(Ob.ok_cons.2 ⟨h2,(Ob.ok_cons.2 ⟨h3,Ob.ok_nil⟩)⟩)⟩)
theorem f52_e(st s1 s2:St)(a b r:Nat)(v3:AV):evCallS Tryz.prog E0 noOv (fun _=> [2002,5000,6053]) 100000 52 [(.ptr a 0),(.ptr b 0)] st [.eff (.ptr r 0) id,.eff v3 (fun _=>s1),.eff .undef (fun _=>s2)]=some ((.tup []),s2,[],[loadA E0 st 97 (.ptr a 0)=some (.ptr r 0)∧st=st,obC 53 [(.ptr r 0)] st v3 s1,storeA E0 s1 51 (.ptr b 3) v3=some s2]):=by kernel_rfl
theorem f52{st s1 s2:St}{a b r:Nat}{v3:AV}(h1:loadA E0 st 97 (.ptr a 0)=some (.ptr r 0))(h2:obC 53 [(.ptr r 0)] st v3 s1)(h3:storeA E0 s1 51 (.ptr b 3) v3=some s2):obC 52 [(.ptr a 0),(.ptr b 0)] st (.tup []) s2:=ACalls.run hE noOv_ok (f52_e st s1 s2 a b r v3) (Ob.ok_cons.2 ⟨⟨h1,rfl⟩,(Ob.ok_cons.2 ⟨h2,(Ob.ok_cons.2 ⟨h3,Ob.ok_nil⟩)⟩)⟩)
noncomputable def f54P(i:Nat):Code:=match Tryz.f54.body with
  |some (.block 0 (.loop (.seq (.seq x0 x1) (.block 1 (.seq x2 (.seq x3 x4))))))=> [x0,x1,x2,x3,x4].getD i .skip
  |_=> .skip
theorem f54body:Tryz.f54.body=some (.block 0 (.loop (.seq (.seq (f54P 0) (f54P 1)) (.block 1 (.seq (f54P 2) (.seq (f54P 3) (f54P 4))))))):=by kernel_rfl
def f54L0(T:Tm)(a0 a1:AV):Prop:=T.n=39∧T.get 0=a0∧T.get 1=a1
def f54L1(T:Tm)(a0 a1 a14:AV):Prop:=T.n=39∧T.get 0=a0∧T.get 1=a1∧T.get 14=a14
theorem f54_0_TT_e(a b r:Nat)(st:St)(w6:ByteArray):((evS Tryz.prog E0 noOv noS 100000 [2003,2006,2009,2012,7007] (f54P 0) ⟨39,[(0,(.ptr a 0)),(1,(.ptr b 0))],[]⟩ st [.eff (.ptr r 0) id,.eff (str w6) id,.av TT,.eff (.ptr r 0) id,.eff TT id]).map fun q=>(q.1,q.2.1.n,([q.2.1.get 0,q.2.1.get 1,q.2.1.get 14]:List AV),q.2.2.1,q.2.2.2.2))=some (.normal,39,[(.ptr a 0),(.ptr b 0),FF],st,[loadA E0 st 97 (.ptr a 0)=some (.ptr r 0)∧st=st,loadA E0 st 9 (.ptr r 0)=some (str w6)∧st=st,binA E0 .neq 9 (str w6) (str ⟨#[]⟩)=some TT,loadA E0 st 97 (.ptr a 0)=some (.ptr r 0)∧st=st,loadA E0 st 4 (.ptr r 1)=some TT∧st=st]):=by kernel_rfl
theorem f54_0_TT{a b r:Nat}{st:St}{w6:ByteArray}(h1:loadA E0 st 97 (.ptr a 0)=some (.ptr r 0))(h2:loadA E0 st 9 (.ptr r 0)=some (str w6))(h3:binA E0 .neq 9 (str w6) (str ⟨#[]⟩)=some TT)(h4:loadA E0 st 97 (.ptr a 0)=some (.ptr r 0))(h5:loadA E0 st 4 (.ptr r 1)=some TT){T:Tm}(hT:f54L0 T (.ptr a 0) (.ptr b 0)):AW Tryz.prog (f54P 0) (fun ex T' st'=>ex= .normal∧f54L1 T' (.ptr a 0) (.ptr b 0) FF∧st'=st) T st:=by
  obtain ⟨hn,g0,g1⟩:=hT
  exact (gen_run (G:=fun T=>([T.get 0,T.get 1,T.get 14]:List AV)) hE (f54_0_TT_e a b r st w6) (Ob.ok_cons.2 ⟨⟨h1,rfl⟩,(Ob.ok_cons.2 ⟨⟨h2,rfl⟩,(Ob.ok_cons.2 ⟨h3,(Ob.ok_cons.2 ⟨⟨h4,rfl⟩,(Ob.ok_cons.2 ⟨⟨h5,rfl⟩,Ob.ok_nil⟩)⟩)⟩)⟩)⟩) hn (conz g0 (one g1))).mono fun ex T' st' ⟨q1,q2,q3,q4⟩=>by simp only [List.cons.injEq,and_true] at q3;exact ⟨q1,⟨q2,q3⟩,q4⟩
theorem f54_0_TF_e(a b r:Nat)(st:St)(w6:ByteArray):((evS Tryz.prog E0 noOv noS 100000 [2003,2006,2009,2012,7007] (f54P 0) ⟨39,[(0,(.ptr a 0)),(1,(.ptr b 0))],[]⟩ st [.eff (.ptr r 0) id,.eff (str w6) id,.av TT,.eff (.ptr r 0) id,.eff FF id]).map fun q=>(q.1,q.2.1.n,([q.2.1.get 0,q.2.1.get 1,q.2.1.get 14]:List AV),q.2.2.1,q.2.2.2.2))=some (.normal,39,[(.ptr a 0),(.ptr b 0),TT],st,[loadA E0 st 97 (.ptr a 0)=some (.ptr r 0)∧st=st,loadA E0 st 9 (.ptr r 0)=some (str w6)∧st=st,binA E0 .neq 9 (str w6) (str ⟨#[]⟩)=some TT,loadA E0 st 97 (.ptr a 0)=some (.ptr r 0)∧st=st,loadA E0 st 4 (.ptr r 1)=some FF∧st=st]):=by kernel_rfl
theorem f54_0_TF{a b r:Nat}{st:St}{w6:ByteArray}(h1:loadA E0 st 97 (.ptr a 0)=some (.ptr r 0))(h2:loadA E0 st 9 (.ptr r 0)=some (str w6))(h3:binA E0 .neq 9 (str w6) (str ⟨#[]⟩)=some TT)(h4:loadA E0 st 97 (.ptr a 0)=some (.ptr r 0))(h5:loadA E0 st 4 (.ptr r 1)=some FF){T:Tm}(hT:f54L0 T (.ptr a 0) (.ptr b 0)):AW Tryz.prog (f54P 0) (fun ex T' st'=>ex= .normal∧f54L1 T' (.ptr a 0) (.ptr b 0) TT∧st'=st) T st:=by
  obtain ⟨hn,g0,g1⟩:=hT
  exact (gen_run (G:=fun T=>([T.get 0,T.get 1,T.get 14]:List AV)) hE (f54_0_TF_e a b r st w6) (Ob.ok_cons.2 ⟨⟨h1,rfl⟩,(Ob.ok_cons.2 ⟨⟨h2,rfl⟩,(Ob.ok_cons.2 ⟨h3,(Ob.ok_cons.2 ⟨⟨h4,rfl⟩,(Ob.ok_cons.2 ⟨⟨h5,rfl⟩,Ob.ok_nil⟩)⟩)⟩)⟩)⟩) hn (conz g0 (one g1))).mono fun ex T' st' ⟨q1,q2,q3,q4⟩=>by simp only [List.cons.injEq,and_true] at q3;exact ⟨q1,⟨q2,q3⟩,q4⟩
theorem f54_0_F_e(a b r:Nat)(st:St)(w6:ByteArray):((evS Tryz.prog E0 noOv noS 100000 [2003,2006,2009,2012,7007] (f54P 0) ⟨39,[(0,(.ptr a 0)),(1,(.ptr b 0))],[]⟩ st [.eff (.ptr r 0) id,.eff (str w6) id,.av FF]).map fun q=>(q.1,q.2.1.n,([q.2.1.get 0,q.2.1.get 1,q.2.1.get 14]:List AV),q.2.2.1,q.2.2.2.2))=some (.normal,39,[(.ptr a 0),(.ptr b 0),FF],st,[loadA E0 st 97 (.ptr a 0)=some (.ptr r 0)∧st=st,loadA E0 st 9 (.ptr r 0)=some (str w6)∧st=st,binA E0 .neq 9 (str w6) (str ⟨#[]⟩)=some FF]):=by kernel_rfl
theorem f54_0_F{a b r:Nat}{st:St}{w6:ByteArray}(h1:loadA E0 st 97 (.ptr a 0)=some (.ptr r 0))(h2:loadA E0 st 9 (.ptr r 0)=some (str w6))(h3:binA E0 .neq 9 (str w6) (str ⟨#[]⟩)=some FF){T:Tm}(hT:f54L0 T (.ptr a 0) (.ptr b 0)):AW Tryz.prog (f54P 0) (fun ex T' st'=>ex= .normal∧f54L1 T' (.ptr a 0) (.ptr b 0) FF∧st'=st) T st:=by
  obtain ⟨hn,g0,g1⟩:=hT
  exact (gen_run (G:=fun T=>([T.get 0,T.get 1,T.get 14]:List AV)) hE (f54_0_F_e a b r st w6) (Ob.ok_cons.2 ⟨⟨h1,rfl⟩,(Ob.ok_cons.2 ⟨⟨h2,rfl⟩,(Ob.ok_cons.2 ⟨h3,Ob.ok_nil⟩)⟩)⟩) hn (conz g0 (one g1))).mono fun ex T' st' ⟨q1,q2,q3,q4⟩=>by simp only [List.cons.injEq,and_true] at q3;exact ⟨q1,⟨q2,q3⟩,q4⟩
theorem f54_1_T_e(a b:Nat)(st:St):((evS Tryz.prog E0 noOv noS 100000 [] (f54P 1) ⟨39,[(0,(.ptr a 0)),(1,(.ptr b 0)),(14,TT)],[]⟩ st []).map fun q=>(q.1,q.2.1.n,([q.2.1.get 0,q.2.1.get 1]:List AV),q.2.2.1,q.2.2.2.2))=some (.normal,39,[(.ptr a 0),(.ptr b 0)],st,[]):=by kernel_rfl
theorem f54_1_T{a b:Nat}{st:St}{T:Tm}(hT:f54L1 T (.ptr a 0) (.ptr b 0) TT):AW Tryz.prog (f54P 1) (fun ex T' st'=>ex= .normal∧f54L0 T' (.ptr a 0) (.ptr b 0)∧st'=st) T st:=by
  obtain ⟨hn,g0,g1,g14⟩:=hT
  exact (gen_run (G:=fun T=>([T.get 0,T.get 1]:List AV)) hE (f54_1_T_e a b st) Ob.ok_nil hn (conz g0 (conz g1 (one g14)))).mono fun ex T' st' ⟨q1,q2,q3,q4⟩=>by simp only [List.cons.injEq,and_true] at q3;exact ⟨q1,⟨q2,q3⟩,q4⟩
def f54L2(T:Tm):Prop:=T.n=39
theorem f54_1_F_e(a b:Nat)(st:St):((evS Tryz.prog E0 noOv noS 100000 [] (f54P 1) ⟨39,[(0,(.ptr a 0)),(1,(.ptr b 0)),(14,FF)],[]⟩ st []).map fun q=>(q.1,q.2.1.n,([]:List AV),q.2.2.1,q.2.2.2.2))=some ((.exit 0),39,[],st,[]):=by kernel_rfl
theorem f54_1_F{a b:Nat}{st:St}{T:Tm}(hT:f54L1 T (.ptr a 0) (.ptr b 0) FF):AW Tryz.prog (f54P 1) (fun ex T' st'=>ex=(.exit 0)∧f54L2 T'∧st'=st) T st:=by
  obtain ⟨hn,g0,g1,g14⟩:=hT
  exact (gen_run (G:=fun T=>([]:List AV)) hE (f54_1_F_e a b st) Ob.ok_nil hn (conz g0 (conz g1 (one g14)))).mono fun ex T' st' ⟨q1,q2,q3,q4⟩=>by exact ⟨q1,q2,q4⟩
def f54L3(T:Tm)(a0 a1 a2:AV):Prop:=T.n=39∧T.get 0=a0∧T.get 1=a1∧T.get 2=a2
theorem f54_2_e(a b r:Nat)(st s1:St)(n16:Int):((evS Tryz.prog E0 noOv noS 100000 [2015,6050] (f54P 2) ⟨39,[(0,(.ptr a 0)),(1,(.ptr b 0))],[]⟩ st [.eff (.ptr r 0) id,.eff (i64 n16) (fun _=>s1)]).map fun q=>(q.1,q.2.1.n,([q.2.1.get 0,q.2.1.get 1,q.2.1.get 2]:List AV),q.2.2.1,q.2.2.2.2))=some (.normal,39,[(.ptr a 0),(.ptr b 0),(i64 n16)],s1,[loadA E0 st 97 (.ptr a 0)=some (.ptr r 0)∧st=st,obC 50 [(.ptr r 0)] st (i64 n16) s1]):=by kernel_rfl
theorem f54_2{a b r:Nat}{st s1:St}{n16:Int}(h1:loadA E0 st 97 (.ptr a 0)=some (.ptr r 0))(h2:obC 50 [(.ptr r 0)] st (i64 n16) s1){T:Tm}(hT:f54L0 T (.ptr a 0) (.ptr b 0)):AW Tryz.prog (f54P 2) (fun ex T' st'=>ex= .normal∧f54L3 T' (.ptr a 0) (.ptr b 0) (i64 n16)∧st'=s1) T st:=by
  obtain ⟨hn,g0,g1⟩:=hT
  exact (gen_run (G:=fun T=>([T.get 0,T.get 1,T.get 2]:List AV)) hE (f54_2_e a b r st s1 n16) (Ob.ok_cons.2 ⟨⟨h1,rfl⟩,(Ob.ok_cons.2 ⟨h2,Ob.ok_nil⟩)⟩) hn (conz g0 (one g1))).mono fun ex T' st' ⟨q1,q2,q3,q4⟩=>by simp only [List.cons.injEq,and_true] at q3;exact ⟨q1,⟨q2,q3⟩,q4⟩
theorem f54_3_T_e(a b r:Nat)(n:Int)(st s1:St):((evS Tryz.prog E0 noOv noS 100000 [5000,7024,7028,8000] (f54P 3) ⟨39,[(0,(.ptr a 0)),(1,(.ptr b 0)),(2,(i64 n))],[]⟩ st [.eff (.ptr r 0) id,.eff (.ptr r 0) id,.eff TT id,.eff (.tup []) (fun _=>s1)]).map fun q=>(q.1,q.2.1.n,([q.2.1.get 0,q.2.1.get 1,q.2.1.get 2]:List AV),q.2.2.1,q.2.2.2.2))=some (.normal,39,[(.ptr a 0),(.ptr b 0),(i64 n)],s1,[∀k∈ [a,a,r],k<st.next,[a,a,r].contains a=true∧loadA E0 st 97 (.ptr a 0)=some (.ptr r 0),[a,a,r].contains a=true∧loadA E0 st 97 (.ptr a 0)=some (.ptr r 0),[a,a,r].contains r=true∧loadA E0 st 4 (.ptr r 1)=some TT,(false=true→ [a,a,r].all (fun k=>(st.get k).isSome)=true),storeA E0 st 4 (.ptr r 1) TT=some s1]):=by kernel_rfl
theorem f54_3_T{a b r:Nat}{n:Int}{st s1:St}(h1:∀k∈ [a,a,r],k<st.next)(h2:loadA E0 st 97 (.ptr a 0)=some (.ptr r 0))(h3:loadA E0 st 97 (.ptr a 0)=some (.ptr r 0))(h4:loadA E0 st 4 (.ptr r 1)=some TT)(h5:storeA E0 st 4 (.ptr r 1) TT=some s1){T:Tm}(hT:f54L3 T (.ptr a 0) (.ptr b 0) (i64 n)):AW Tryz.prog (f54P 3) (fun ex T' st'=>ex= .normal∧f54L3 T' (.ptr a 0) (.ptr b 0) (i64 n)∧st'=s1) T st:=by
  obtain ⟨hn,g0,g1,g2⟩:=hT
  exact (gen_run (G:=fun T=>([T.get 0,T.get 1,T.get 2]:List AV)) hE (f54_3_T_e a b r n st s1) (Ob.ok_cons.2 ⟨h1,(Ob.ok_cons.2 ⟨⟨by simp,h2⟩,(Ob.ok_cons.2 ⟨⟨by simp,h3⟩,(Ob.ok_cons.2 ⟨⟨by simp,h4⟩,(Ob.ok_cons.2 ⟨(fun h=>by cases h),(Ob.ok_cons.2 ⟨h5,Ob.ok_nil⟩)⟩)⟩)⟩)⟩)⟩) hn (conz g0 (conz g1 (one g2)))).mono fun ex T' st' ⟨q1,q2,q3,q4⟩=>by simp only [List.cons.injEq,and_true] at q3;exact ⟨q1,⟨q2,q3⟩,q4⟩
theorem f54_3_FT_e(a b r:Nat)(n:Int)(st s1:St):((evS Tryz.prog E0 noOv noS 100000 [5000,7024,7028,8000] (f54P 3) ⟨39,[(0,(.ptr a 0)),(1,(.ptr b 0)),(2,(i64 n))],[]⟩ st [.eff (.ptr r 0) id,.eff (.ptr r 0) id,.eff FF id,.eff TT id,.eff (.tup []) (fun _=>s1)]).map fun q=>(q.1,q.2.1.n,([q.2.1.get 0,q.2.1.get 1,q.2.1.get 2]:List AV),q.2.2.1,q.2.2.2.2))=some (.normal,39,[(.ptr a 0),(.ptr b 0),(i64 n)],s1,[∀k∈ [a,a,r],k<st.next,[a,a,r].contains a=true∧loadA E0 st 97 (.ptr a 0)=some (.ptr r 0),[a,a,r].contains a=true∧loadA E0 st 97 (.ptr a 0)=some (.ptr r 0),[a,a,r].contains r=true∧loadA E0 st 4 (.ptr r 1)=some FF,binA E0 .lss 3 (i64 n) (i64 0)=some TT,(false=true→ [a,a,r].all (fun k=>(st.get k).isSome)=true),storeA E0 st 4 (.ptr r 1) TT=some s1]):=by kernel_rfl
theorem f54_3_FT{a b r:Nat}{n:Int}{st s1:St}(h1:∀k∈ [a,a,r],k<st.next)(h2:loadA E0 st 97 (.ptr a 0)=some (.ptr r 0))(h3:loadA E0 st 97 (.ptr a 0)=some (.ptr r 0))(h4:loadA E0 st 4 (.ptr r 1)=some FF)(h5:binA E0 .lss 3 (i64 n) (i64 0)=some TT)(h6:storeA E0 st 4 (.ptr r 1) TT=some s1){T:Tm}(hT:f54L3 T (.ptr a 0) (.ptr b 0) (i64 n)):AW Tryz.prog (f54P 3) (fun ex T' st'=>ex= .normal∧f54L3 T' (.ptr a 0) (.ptr b 0) (i64 n)∧st'=s1) T st:=by
  obtain ⟨hn,g0,g1,g2⟩:=hT
  exact (gen_run (G:=fun T=>([T.get 0,T.get 1,T.get 2]:List AV)) hE (f54_3_FT_e a b r n st s1) (Ob.ok_cons.2 ⟨h1,(Ob.ok_cons.2 ⟨⟨by simp,h2⟩,(Ob.ok_cons.2 ⟨⟨by simp,h3⟩,(Ob.ok_cons.2 ⟨⟨by simp,h4⟩,(Ob.ok_cons.2 ⟨h5,(Ob.ok_cons.2 ⟨(fun h=>by cases h),(Ob.ok_cons.2 ⟨h6,Ob.ok_nil⟩)⟩)⟩)⟩)⟩)⟩)⟩) hn (conz g0 (conz g1 (one g2)))).mono fun ex T' st' ⟨q1,q2,q3,q4⟩=>by simp only [List.cons.injEq,and_true] at q3;exact ⟨q1,⟨q2,q3⟩,q4⟩
theorem f54_3_FFT_e(a b r:Nat)(n:Int)(st s1:St):((evS Tryz.prog E0 noOv noS 100000 [5000,7024,7028,8000] (f54P 3) ⟨39,[(0,(.ptr a 0)),(1,(.ptr b 0)),(2,(i64 n))],[]⟩ st [.eff (.ptr r 0) id,.eff (.ptr r 0) id,.eff FF id,.eff FF id,.eff TT id,.eff (.tup []) (fun _=>s1)]).map fun q=>(q.1,q.2.1.n,([q.2.1.get 0,q.2.1.get 1,q.2.1.get 2]:List AV),q.2.2.1,q.2.2.2.2))=some (.normal,39,[(.ptr a 0),(.ptr b 0),(i64 n)],s1,[∀k∈ [a,a,r],k<st.next,[a,a,r].contains a=true∧loadA E0 st 97 (.ptr a 0)=some (.ptr r 0),[a,a,r].contains a=true∧loadA E0 st 97 (.ptr a 0)=some (.ptr r 0),[a,a,r].contains r=true∧loadA E0 st 4 (.ptr r 1)=some FF,binA E0 .lss 3 (i64 n) (i64 0)=some FF,binA E0 .gtr 3 (i64 n) (i64 65535)=some TT,(false=true→ [a,a,r].all (fun k=>(st.get k).isSome)=true),storeA E0 st 4 (.ptr r 1) TT=some s1]):=by kernel_rfl
theorem f54_3_FFT{a b r:Nat}{n:Int}{st s1:St}(h1:∀k∈ [a,a,r],k<st.next)(h2:loadA E0 st 97 (.ptr a 0)=some (.ptr r 0))(h3:loadA E0 st 97 (.ptr a 0)=some (.ptr r 0))(h4:loadA E0 st 4 (.ptr r 1)=some FF)(h5:binA E0 .lss 3 (i64 n) (i64 0)=some FF)(h6:binA E0 .gtr 3 (i64 n) (i64 65535)=some TT)(h7:storeA E0 st 4 (.ptr r 1) TT=some s1){T:Tm}(hT:f54L3 T (.ptr a 0) (.ptr b 0) (i64 n)):AW Tryz.prog (f54P 3) (fun ex T' st'=>ex= .normal∧f54L3 T' (.ptr a 0) (.ptr b 0) (i64 n)∧st'=s1) T st:=by
  obtain ⟨hn,g0,g1,g2⟩:=hT
  exact (gen_run (G:=fun T=>([T.get 0,T.get 1,T.get 2]:List AV)) hE (f54_3_FFT_e a b r n st s1) (Ob.ok_cons.2 ⟨h1,(Ob.ok_cons.2 ⟨⟨by simp,h2⟩,(Ob.ok_cons.2 ⟨⟨by simp,h3⟩,(Ob.ok_cons.2 ⟨⟨by simp,h4⟩,(Ob.ok_cons.2 ⟨h5,(Ob.ok_cons.2 ⟨h6,(Ob.ok_cons.2 ⟨(fun h=>by cases h),(Ob.ok_cons.2 ⟨h7,Ob.ok_nil⟩)⟩)⟩)⟩)⟩)⟩)⟩)⟩) hn (conz g0 (conz g1 (one g2)))).mono fun ex T' st' ⟨q1,q2,q3,q4⟩=>by simp only [List.cons.injEq,and_true] at q3;exact ⟨q1,⟨q2,q3⟩,q4⟩
theorem f54_3_FFF_e(a b r:Nat)(n:Int)(st s1:St):((evS Tryz.prog E0 noOv noS 100000 [5000,7024,7028,8000] (f54P 3) ⟨39,[(0,(.ptr a 0)),(1,(.ptr b 0)),(2,(i64 n))],[]⟩ st [.eff (.ptr r 0) id,.eff (.ptr r 0) id,.eff FF id,.eff FF id,.eff FF id,.eff (.tup []) (fun _=>s1)]).map fun q=>(q.1,q.2.1.n,([q.2.1.get 0,q.2.1.get 1,q.2.1.get 2]:List AV),q.2.2.1,q.2.2.2.2))=some (.normal,39,[(.ptr a 0),(.ptr b 0),(i64 n)],s1,[∀k∈ [a,a,r],k<st.next,[a,a,r].contains a=true∧loadA E0 st 97 (.ptr a 0)=some (.ptr r 0),[a,a,r].contains a=true∧loadA E0 st 97 (.ptr a 0)=some (.ptr r 0),[a,a,r].contains r=true∧loadA E0 st 4 (.ptr r 1)=some FF,binA E0 .lss 3 (i64 n) (i64 0)=some FF,binA E0 .gtr 3 (i64 n) (i64 65535)=some FF,(false=true→ [a,a,r].all (fun k=>(st.get k).isSome)=true),storeA E0 st 4 (.ptr r 1) FF=some s1]):=by kernel_rfl
theorem f54_3_FFF{a b r:Nat}{n:Int}{st s1:St}(h1:∀k∈ [a,a,r],k<st.next)(h2:loadA E0 st 97 (.ptr a 0)=some (.ptr r 0))(h3:loadA E0 st 97 (.ptr a 0)=some (.ptr r 0))(h4:loadA E0 st 4 (.ptr r 1)=some FF)(h5:binA E0 .lss 3 (i64 n) (i64 0)=some FF)(h6:binA E0 .gtr 3 (i64 n) (i64 65535)=some FF)(h7:storeA E0 st 4 (.ptr r 1) FF=some s1){T:Tm}(hT:f54L3 T (.ptr a 0) (.ptr b 0) (i64 n)):AW Tryz.prog (f54P 3) (fun ex T' st'=>ex= .normal∧f54L3 T' (.ptr a 0) (.ptr b 0) (i64 n)∧st'=s1) T st:=by
  obtain ⟨hn,g0,g1,g2⟩:=hT
  exact (gen_run (G:=fun T=>([T.get 0,T.get 1,T.get 2]:List AV)) hE (f54_3_FFF_e a b r n st s1) (Ob.ok_cons.2 ⟨h1,(Ob.ok_cons.2 ⟨⟨by simp,h2⟩,(Ob.ok_cons.2 ⟨⟨by simp,h3⟩,(Ob.ok_cons.2 ⟨⟨by simp,h4⟩,(Ob.ok_cons.2 ⟨h5,(Ob.ok_cons.2 ⟨h6,(Ob.ok_cons.2 ⟨(fun h=>by cases h),(Ob.ok_cons.2 ⟨h7,Ob.ok_nil⟩)⟩)⟩)⟩)⟩)⟩)⟩)⟩) hn (conz g0 (conz g1 (one g2)))).mono fun ex T' st' ⟨q1,q2,q3,q4⟩=>by simp only [List.cons.injEq,and_true] at q3;exact ⟨q1,⟨q2,q3⟩,q4⟩
theorem f54_4_e(a b:Nat)(n n35:Int)(st s1 s2 s3:St)(v33 v36 v37:AV):((evS Tryz.prog E0 noOv noS 100000 [2033,2035,2036,2037,5000] (f54P 4) ⟨39,[(0,(.ptr a 0)),(1,(.ptr b 0)),(2,(i64 n))],[]⟩ st [.eff v33 id,.eff (u16 n35) id,.eff v36 (fun _=>s1),.eff v37 (fun _=>s2),.eff .undef (fun _=>s3)]).map fun q=>(q.1,q.2.1.n,([q.2.1.get 0,q.2.1.get 1]:List AV),q.2.2.1,q.2.2.2.2))=some (.normal,39,[(.ptr a 0),(.ptr b 0)],s3,[loadA E0 st 52 (.ptr b 4)=some v33∧st=st,convO E0 st 3 66 (i64 n)=some ((u16 n35),st),buildSliceA E0 st 52 1 [(0,(u16 n35))]=some (v36,s1),appendA E0 s1 52 52 v33 v36=some (v37,s2),storeA E0 s2 52 (.ptr b 4) v37=some s3]):=by kernel_rfl
theorem f54_4{a b:Nat}{n n35:Int}{st s1 s2 s3:St}{v33 v36 v37:AV}(h1:loadA E0 st 52 (.ptr b 4)=some v33)(h2:convO E0 st 3 66 (i64 n)=some ((u16 n35),st))(h3:buildSliceA E0 st 52 1 [(0,(u16 n35))]=some (v36,s1))(h4:appendA E0 s1 52 52 v33 v36=some (v37,s2))(h5:storeA E0 s2 52 (.ptr b 4) v37=some s3){T:Tm}(hT:f54L3 T (.ptr a 0) (.ptr b 0) (i64 n)):AW Tryz.prog (f54P 4) (fun ex T' st'=>ex= .normal∧f54L0 T' (.ptr a 0) (.ptr b 0)∧st'=s3) T st:=by
  obtain ⟨hn,g0,g1,g2⟩:=hT
  exact (gen_run (G:=fun T=>([T.get 0,T.get 1]:List AV)) hE (f54_4_e a b n n35 st s1 s2 s3 v33 v36 v37) (Ob.ok_cons.2 ⟨⟨h1,rfl⟩,(Ob.ok_cons.2 ⟨h2,(Ob.ok_cons.2 ⟨h3,(Ob.ok_cons.2 ⟨h4,(Ob.ok_cons.2 ⟨h5,Ob.ok_nil⟩)⟩)⟩)⟩)⟩) hn (conz g0 (conz g1 (one g2)))).mono fun ex T' st' ⟨q1,q2,q3,q4⟩=>by simp only [List.cons.injEq,and_true] at q3;exact ⟨q1,⟨q2,q3⟩,q4⟩
theorem f47a_T_e(st:St)(a b r:Nat)(l:AV):evCallS Tryz.prog E0 noOv (fun _=> [2006,2009,2014,6048,6049]) 100000 47 [(.fn (.func 49) [] [(.ptr a 0),(.ptr b 0)]),l,(.ptr a 0),(.ptr b 0)] st [.eff (.ptr r 0) id,.eff TT id]=some ((.tup []),st,[],[loadA E0 st 97 (.ptr a 0)=some (.ptr r 0)∧st=st,loadA E0 st 4 (.ptr r 1)=some TT∧st=st]):=by kernel_rfl
theorem f47a_T{st:St}{a b r:Nat}{l:AV}(h1:loadA E0 st 97 (.ptr a 0)=some (.ptr r 0))(h2:loadA E0 st 4 (.ptr r 1)=some TT):obC 47 [(.fn (.func 49) [] [(.ptr a 0),(.ptr b 0)]),l,(.ptr a 0),(.ptr b 0)] st (.tup []) st:=ACalls.run hE noOv_ok (f47a_T_e st a b r l) (Ob.ok_cons.2 ⟨⟨h1,rfl⟩,(Ob.ok_cons.2 ⟨⟨h2,rfl⟩,Ob.ok_nil⟩)⟩)
theorem f47a_FT_e(st s1 s2:St)(a b r:Nat)(l:AV)(n14:Int):evCallS Tryz.prog E0 noOv (fun _=> [2006,2009,2014,6048,6049]) 100000 47 [(.fn (.func 49) [] [(.ptr a 0),(.ptr b 0)]),l,(.ptr a 0),(.ptr b 0)] st [.eff (.ptr r 0) id,.eff FF id,.eff (i64 n14) id,.eff TT (fun _=>s1),.eff (.tup []) (fun _=>s2)]=some ((.tup []),s2,[],[loadA E0 st 97 (.ptr a 0)=some (.ptr r 0)∧st=st,loadA E0 st 4 (.ptr r 1)=some FF∧st=st,loadA E0 st 3 (.ptr b 0)=some (i64 n14)∧st=st,obC 48 [l,(i64 n14)] st TT s1,obC 49 [(.ptr a 0),(.ptr b 0)] s1 (.tup []) s2]):=by kernel_rfl
theorem f47a_FT{st s1 s2:St}{a b r:Nat}{l:AV}{n14:Int}(h1:loadA E0 st 97 (.ptr a 0)=some (.ptr r 0))(h2:loadA E0 st 4 (.ptr r 1)=some FF)(h3:loadA E0 st 3 (.ptr b 0)=some (i64 n14))(h4:obC 48 [l,(i64 n14)] st TT s1)(h5:obC 49 [(.ptr a 0),(.ptr b 0)] s1 (.tup []) s2):obC 47 [(.fn (.func 49) [] [(.ptr a 0),(.ptr b 0)]),l,(.ptr a 0),(.ptr b 0)] st (.tup []) s2:=ACalls.run hE noOv_ok (f47a_FT_e st s1 s2 a b r l n14) (Ob.ok_cons.2 ⟨⟨h1,rfl⟩,(Ob.ok_cons.2 ⟨⟨h2,rfl⟩,(Ob.ok_cons.2 ⟨⟨h3,rfl⟩,(Ob.ok_cons.2 ⟨h4,(Ob.ok_cons.2 ⟨h5,Ob.ok_nil⟩)⟩)⟩)⟩)⟩)
theorem f47a_FF_e(st s1:St)(a b r:Nat)(l:AV)(n14:Int):evCallS Tryz.prog E0 noOv (fun _=> [2006,2009,2014,6048,6049]) 100000 47 [(.fn (.func 49) [] [(.ptr a 0),(.ptr b 0)]),l,(.ptr a 0),(.ptr b 0)] st [.eff (.ptr r 0) id,.eff FF id,.eff (i64 n14) id,.eff FF (fun _=>s1)]=some ((.tup []),s1,[],[loadA E0 st 97 (.ptr a 0)=some (.ptr r 0)∧st=st,loadA E0 st 4 (.ptr r 1)=some FF∧st=st,loadA E0 st 3 (.ptr b 0)=some (i64 n14)∧st=st,obC 48 [l,(i64 n14)] st FF s1]):=by kernel_rfl
theorem f47a_FF{st s1:St}{a b r:Nat}{l:AV}{n14:Int}(h1:loadA E0 st 97 (.ptr a 0)=some (.ptr r 0))(h2:loadA E0 st 4 (.ptr r 1)=some FF)(h3:loadA E0 st 3 (.ptr b 0)=some (i64 n14))(h4:obC 48 [l,(i64 n14)] st FF s1):obC 47 [(.fn (.func 49) [] [(.ptr a 0),(.ptr b 0)]),l,(.ptr a 0),(.ptr b 0)] st (.tup []) s1:=ACalls.run hE noOv_ok (f47a_FF_e st s1 a b r l n14) (Ob.ok_cons.2 ⟨⟨h1,rfl⟩,(Ob.ok_cons.2 ⟨⟨h2,rfl⟩,(Ob.ok_cons.2 ⟨⟨h3,rfl⟩,(Ob.ok_cons.2 ⟨h4,Ob.ok_nil⟩)⟩)⟩)⟩)
theorem f47b_T_e(st:St)(a b r:Nat)(l:AV):evCallS Tryz.prog E0 noOv (fun _=> [2006,2009,2014,6048,6051]) 100000 47 [(.fn (.func 51) [] [(.ptr a 0),(.ptr b 0)]),l,(.ptr a 0),(.ptr b 0)] st [.eff (.ptr r 0) id,.eff TT id]=some ((.tup []),st,[],[loadA E0 st 97 (.ptr a 0)=some (.ptr r 0)∧st=st,loadA E0 st 4 (.ptr r 1)=some TT∧st=st]):=by kernel_rfl
theorem f47b_T{st:St}{a b r:Nat}{l:AV}(h1:loadA E0 st 97 (.ptr a 0)=some (.ptr r 0))(h2:loadA E0 st 4 (.ptr r 1)=some TT):obC 47 [(.fn (.func 51) [] [(.ptr a 0),(.ptr b 0)]),l,(.ptr a 0),(.ptr b 0)] st (.tup []) st:=ACalls.run hE noOv_ok (f47b_T_e st a b r l) (Ob.ok_cons.2 ⟨⟨h1,rfl⟩,(Ob.ok_cons.2 ⟨⟨h2,rfl⟩,Ob.ok_nil⟩)⟩)
theorem f47b_FT_e(st s1 s2:St)(a b r:Nat)(l:AV)(n14:Int):evCallS Tryz.prog E0 noOv (fun _=> [2006,2009,2014,6048,6051]) 100000 47 [(.fn (.func 51) [] [(.ptr a 0),(.ptr b 0)]),l,(.ptr a 0),(.ptr b 0)] st [.eff (.ptr r 0) id,.eff FF id,.eff (i64 n14) id,.eff TT (fun _=>s1),.eff (.tup []) (fun _=>s2)]=some ((.tup []),s2,[],[loadA E0 st 97 (.ptr a 0)=some (.ptr r 0)∧st=st,loadA E0 st 4 (.ptr r 1)=some FF∧st=st,loadA E0 st 3 (.ptr b 0)=some (i64 n14)∧st=st,obC 48 [l,(i64 n14)] st TT s1,obC 51 [(.ptr a 0),(.ptr b 0)] s1 (.tup []) s2]):=by kernel_rfl
theorem f47b_FT{st s1 s2:St}{a b r:Nat}{l:AV}{n14:Int}(h1:loadA E0 st 97 (.ptr a 0)=some (.ptr r 0))(h2:loadA E0 st 4 (.ptr r 1)=some FF)(h3:loadA E0 st 3 (.ptr b 0)=some (i64 n14))(h4:obC 48 [l,(i64 n14)] st TT s1)(h5:obC 51 [(.ptr a 0),(.ptr b 0)] s1 (.tup []) s2):obC 47 [(.fn (.func 51) [] [(.ptr a 0),(.ptr b 0)]),l,(.ptr a 0),(.ptr b 0)] st (.tup []) s2:=ACalls.run hE noOv_ok (f47b_FT_e st s1 s2 a b r l n14) (Ob.ok_cons.2 ⟨⟨h1,rfl⟩,(Ob.ok_cons.2 ⟨⟨h2,rfl⟩,(Ob.ok_cons.2 ⟨⟨h3,rfl⟩,(Ob.ok_cons.2 ⟨h4,(Ob.ok_cons.2 ⟨h5,Ob.ok_nil⟩)⟩)⟩)⟩)⟩)
theorem f47b_FF_e(st s1:St)(a b r:Nat)(l:AV)(n14:Int):evCallS Tryz.prog E0 noOv (fun _=> [2006,2009,2014,6048,6051]) 100000 47 [(.fn (.func 51) [] [(.ptr a 0),(.ptr b 0)]),l,(.ptr a 0),(.ptr b 0)] st [.eff (.ptr r 0) id,.eff FF id,.eff (i64 n14) id,.eff FF (fun _=>s1)]=some ((.tup []),s1,[],[loadA E0 st 97 (.ptr a 0)=some (.ptr r 0)∧st=st,loadA E0 st 4 (.ptr r 1)=some FF∧st=st,loadA E0 st 3 (.ptr b 0)=some (i64 n14)∧st=st,obC 48 [l,(i64 n14)] st FF s1]):=by kernel_rfl
theorem f47b_FF{st s1:St}{a b r:Nat}{l:AV}{n14:Int}(h1:loadA E0 st 97 (.ptr a 0)=some (.ptr r 0))(h2:loadA E0 st 4 (.ptr r 1)=some FF)(h3:loadA E0 st 3 (.ptr b 0)=some (i64 n14))(h4:obC 48 [l,(i64 n14)] st FF s1):obC 47 [(.fn (.func 51) [] [(.ptr a 0),(.ptr b 0)]),l,(.ptr a 0),(.ptr b 0)] st (.tup []) s1:=ACalls.run hE noOv_ok (f47b_FF_e st s1 a b r l n14) (Ob.ok_cons.2 ⟨⟨h1,rfl⟩,(Ob.ok_cons.2 ⟨⟨h2,rfl⟩,(Ob.ok_cons.2 ⟨⟨h3,rfl⟩,(Ob.ok_cons.2 ⟨h4,Ob.ok_nil⟩)⟩)⟩)⟩)
theorem f47c_T_e(st:St)(a b r:Nat)(l:AV):evCallS Tryz.prog E0 noOv (fun _=> [2006,2009,2014,6048,6052]) 100000 47 [(.fn (.func 52) [] [(.ptr a 0),(.ptr b 0)]),l,(.ptr a 0),(.ptr b 0)] st [.eff (.ptr r 0) id,.eff TT id]=some ((.tup []),st,[],[loadA E0 st 97 (.ptr a 0)=some (.ptr r 0)∧st=st,loadA E0 st 4 (.ptr r 1)=some TT∧st=st]):=by kernel_rfl
theorem f47c_T{st:St}{a b r:Nat}{l:AV}(h1:loadA E0 st 97 (.ptr a 0)=some (.ptr r 0))(h2:loadA E0 st 4 (.ptr r 1)=some TT):obC 47 [(.fn (.func 52) [] [(.ptr a 0),(.ptr b 0)]),l,(.ptr a 0),(.ptr b 0)] st (.tup []) st:=ACalls.run hE noOv_ok (f47c_T_e st a b r l) (Ob.ok_cons.2 ⟨⟨h1,rfl⟩,(Ob.ok_cons.2 ⟨⟨h2,rfl⟩,Ob.ok_nil⟩)⟩)
theorem f47c_FT_e(st s1 s2:St)(a b r:Nat)(l:AV)(n14:Int):evCallS Tryz.prog E0 noOv (fun _=> [2006,2009,2014,6048,6052]) 100000 47 [(.fn (.func 52) [] [(.ptr a 0),(.ptr b 0)]),l,(.ptr a 0),(.ptr b 0)] st [.eff (.ptr r 0) id,.eff FF id,.eff (i64 n14) id,.eff TT (fun _=>s1),.eff (.tup []) (fun _=>s2)]=some ((.tup []),s2,[],[loadA E0 st 97 (.ptr a 0)=some (.ptr r 0)∧st=st,loadA E0 st 4 (.ptr r 1)=some FF∧st=st,loadA E0 st 3 (.ptr b 0)=some (i64 n14)∧st=st,obC 48 [l,(i64 n14)] st TT s1,obC 52 [(.ptr a 0),(.ptr b 0)] s1 (.tup []) s2]):=by kernel_rfl
theorem f47c_FT{st s1 s2:St}{a b r:Nat}{l:AV}{n14:Int}(h1:loadA E0 st 97 (.ptr a 0)=some (.ptr r 0))(h2:loadA E0 st 4 (.ptr r 1)=some FF)(h3:loadA E0 st 3 (.ptr b 0)=some (i64 n14))(h4:obC 48 [l,(i64 n14)] st TT s1)(h5:obC 52 [(.ptr a 0),(.ptr b 0)] s1 (.tup []) s2):obC 47 [(.fn (.func 52) [] [(.ptr a 0),(.ptr b 0)]),l,(.ptr a 0),(.ptr b 0)] st (.tup []) s2:=ACalls.run hE noOv_ok (f47c_FT_e st s1 s2 a b r l n14) (Ob.ok_cons.2 ⟨⟨h1,rfl⟩,(Ob.ok_cons.2 ⟨⟨h2,rfl⟩,(Ob.ok_cons.2 ⟨⟨h3,rfl⟩,(Ob.ok_cons.2 ⟨h4,(Ob.ok_cons.2 ⟨h5,Ob.ok_nil⟩)⟩)⟩)⟩)⟩)
theorem f47c_FF_e(st s1:St)(a b r:Nat)(l:AV)(n14:Int):evCallS Tryz.prog E0 noOv (fun _=> [2006,2009,2014,6048,6052]) 100000 47 [(.fn (.func 52) [] [(.ptr a 0),(.ptr b 0)]),l,(.ptr a 0),(.ptr b 0)] st [.eff (.ptr r 0) id,.eff FF id,.eff (i64 n14) id,.eff FF (fun _=>s1)]=some ((.tup []),s1,[],[loadA E0 st 97 (.ptr a 0)=some (.ptr r 0)∧st=st,loadA E0 st 4 (.ptr r 1)=some FF∧st=st,loadA E0 st 3 (.ptr b 0)=some (i64 n14)∧st=st,obC 48 [l,(i64 n14)] st FF s1]):=by kernel_rfl
theorem f47c_FF{st s1:St}{a b r:Nat}{l:AV}{n14:Int}(h1:loadA E0 st 97 (.ptr a 0)=some (.ptr r 0))(h2:loadA E0 st 4 (.ptr r 1)=some FF)(h3:loadA E0 st 3 (.ptr b 0)=some (i64 n14))(h4:obC 48 [l,(i64 n14)] st FF s1):obC 47 [(.fn (.func 52) [] [(.ptr a 0),(.ptr b 0)]),l,(.ptr a 0),(.ptr b 0)] st (.tup []) s1:=ACalls.run hE noOv_ok (f47c_FF_e st s1 a b r l n14) (Ob.ok_cons.2 ⟨⟨h1,rfl⟩,(Ob.ok_cons.2 ⟨⟨h2,rfl⟩,(Ob.ok_cons.2 ⟨⟨h3,rfl⟩,(Ob.ok_cons.2 ⟨h4,Ob.ok_nil⟩)⟩)⟩)⟩)
theorem f47d_T_e(st:St)(a b r:Nat)(l:AV):evCallS Tryz.prog E0 noOv (fun _=> [2006,2009,2014,6048,6054]) 100000 47 [(.fn (.func 54) [] [(.ptr a 0),(.ptr b 0)]),l,(.ptr a 0),(.ptr b 0)] st [.eff (.ptr r 0) id,.eff TT id]=some ((.tup []),st,[],[loadA E0 st 97 (.ptr a 0)=some (.ptr r 0)∧st=st,loadA E0 st 4 (.ptr r 1)=some TT∧st=st]):=by kernel_rfl
theorem f47d_T{st:St}{a b r:Nat}{l:AV}(h1:loadA E0 st 97 (.ptr a 0)=some (.ptr r 0))(h2:loadA E0 st 4 (.ptr r 1)=some TT):obC 47 [(.fn (.func 54) [] [(.ptr a 0),(.ptr b 0)]),l,(.ptr a 0),(.ptr b 0)] st (.tup []) st:=ACalls.run hE noOv_ok (f47d_T_e st a b r l) (Ob.ok_cons.2 ⟨⟨h1,rfl⟩,(Ob.ok_cons.2 ⟨⟨h2,rfl⟩,Ob.ok_nil⟩)⟩)
theorem f47d_FT_e(st s1 s2:St)(a b r:Nat)(l:AV)(n14:Int):evCallS Tryz.prog E0 noOv (fun _=> [2006,2009,2014,6048,6054]) 100000 47 [(.fn (.func 54) [] [(.ptr a 0),(.ptr b 0)]),l,(.ptr a 0),(.ptr b 0)] st [.eff (.ptr r 0) id,.eff FF id,.eff (i64 n14) id,.eff TT (fun _=>s1),.eff (.tup []) (fun _=>s2)]=some ((.tup []),s2,[],[loadA E0 st 97 (.ptr a 0)=some (.ptr r 0)∧st=st,loadA E0 st 4 (.ptr r 1)=some FF∧st=st,loadA E0 st 3 (.ptr b 0)=some (i64 n14)∧st=st,obC 48 [l,(i64 n14)] st TT s1,obC 54 [(.ptr a 0),(.ptr b 0)] s1 (.tup []) s2]):=by kernel_rfl
theorem f47d_FT{st s1 s2:St}{a b r:Nat}{l:AV}{n14:Int}(h1:loadA E0 st 97 (.ptr a 0)=some (.ptr r 0))(h2:loadA E0 st 4 (.ptr r 1)=some FF)(h3:loadA E0 st 3 (.ptr b 0)=some (i64 n14))(h4:obC 48 [l,(i64 n14)] st TT s1)(h5:obC 54 [(.ptr a 0),(.ptr b 0)] s1 (.tup []) s2):obC 47 [(.fn (.func 54) [] [(.ptr a 0),(.ptr b 0)]),l,(.ptr a 0),(.ptr b 0)] st (.tup []) s2:=ACalls.run hE noOv_ok (f47d_FT_e st s1 s2 a b r l n14) (Ob.ok_cons.2 ⟨⟨h1,rfl⟩,(Ob.ok_cons.2 ⟨⟨h2,rfl⟩,(Ob.ok_cons.2 ⟨⟨h3,rfl⟩,(Ob.ok_cons.2 ⟨h4,(Ob.ok_cons.2 ⟨h5,Ob.ok_nil⟩)⟩)⟩)⟩)⟩)
theorem f47d_FF_e(st s1:St)(a b r:Nat)(l:AV)(n14:Int):evCallS Tryz.prog E0 noOv (fun _=> [2006,2009,2014,6048,6054]) 100000 47 [(.fn (.func 54) [] [(.ptr a 0),(.ptr b 0)]),l,(.ptr a 0),(.ptr b 0)] st [.eff (.ptr r 0) id,.eff FF id,.eff (i64 n14) id,.eff FF (fun _=>s1)]=some ((.tup []),s1,[],[loadA E0 st 97 (.ptr a 0)=some (.ptr r 0)∧st=st,loadA E0 st 4 (.ptr r 1)=some FF∧st=st,loadA E0 st 3 (.ptr b 0)=some (i64 n14)∧st=st,obC 48 [l,(i64 n14)] st FF s1]):=by kernel_rfl
theorem f47d_FF{st s1:St}{a b r:Nat}{l:AV}{n14:Int}(h1:loadA E0 st 97 (.ptr a 0)=some (.ptr r 0))(h2:loadA E0 st 4 (.ptr r 1)=some FF)(h3:loadA E0 st 3 (.ptr b 0)=some (i64 n14))(h4:obC 48 [l,(i64 n14)] st FF s1):obC 47 [(.fn (.func 54) [] [(.ptr a 0),(.ptr b 0)]),l,(.ptr a 0),(.ptr b 0)] st (.tup []) s1:=ACalls.run hE noOv_ok (f47d_FF_e st s1 a b r l n14) (Ob.ok_cons.2 ⟨⟨h1,rfl⟩,(Ob.ok_cons.2 ⟨⟨h2,rfl⟩,(Ob.ok_cons.2 ⟨⟨h3,rfl⟩,(Ob.ok_cons.2 ⟨h4,Ob.ok_nil⟩)⟩)⟩)⟩)
end
section
set_option maxRecDepth 100000
noncomputable def f24P(i:Nat):Code:=match Tryz.f24.body with
  |some (.seq x0 (.seq x1 (.seq x2 (.seq x3 (.seq x4 (.seq x5 (.seq x6 (.seq x7 (.seq x8 (.seq x9 x10))))))))))=> [x0,x1,x2,x3,x4,x5,x6,x7,x8,x9,x10].getD i .skip
  |_=> .skip
theorem f24body:Tryz.f24.body=some (.seq (f24P 0) (.seq (f24P 1) (.seq (f24P 2) (.seq (f24P 3) (.seq (f24P 4) (.seq (f24P 5) (.seq (f24P 6) (.seq (f24P 7) (.seq (f24P 8) (.seq (f24P 9) (f24P 10))))))))))):=by kernel_rfl
def f24L0(T:Tm)(a0:AV):Prop:=T.n=51∧T.get 0=a0
def f24L1(T:Tm)(a0 a2:AV):Prop:=T.n=51∧T.get 0=a0∧T.get 2=a2
theorem f24_0_e(s:ByteArray)(st s1:St)(a2:Nat):((evS Tryz.prog E0 noOv noS 100000 [2002] (f24P 0) ⟨51,[(0,(str s))],[]⟩ st [.eff (.ptr a2 0) (fun _=>s1)]).map fun q=>(q.1,q.2.1.n,([q.2.1.get 0,q.2.1.get 2]:List AV),q.2.2.1,q.2.2.2.2))=some (.normal,51,[(str s),(.ptr a2 0)],s1,[allocA E0 st 54=some ((.ptr a2 0),s1)]):=by kernel_rfl
theorem f24_0{s:ByteArray}{st s1:St}{a2:Nat}(h1:allocA E0 st 54=some ((.ptr a2 0),s1)){T:Tm}(hT:f24L0 T (str s)):AW Tryz.prog (f24P 0) (fun ex T' st'=>ex= .normal∧f24L1 T' (str s) (.ptr a2 0)∧st'=s1) T st:=by
  obtain ⟨hn,g0⟩:=hT
  exact (gen_run (G:=fun T=>([T.get 0,T.get 2]:List AV)) hE (f24_0_e s st s1 a2) (Ob.ok_cons.2 ⟨h1,Ob.ok_nil⟩) hn (one g0)).mono fun ex T' st' ⟨q1,q2,q3,q4⟩=>by simp only [List.cons.injEq,and_true] at q3;exact ⟨q1,⟨q2,q3⟩,q4⟩
def f24L2(T:Tm)(a0 a2 a4:AV):Prop:=T.n=51∧T.get 0=a0∧T.get 2=a2∧T.get 4=a4
theorem f24_1_e(s:ByteArray)(c a11 a4:Nat)(st s1 s2 s3:St)(v10:AV):((evS Tryz.prog E0 noOv noS 100000 [2004,2011,5000,7010] (f24P 1) ⟨51,[(0,(str s)),(2,(.ptr c 0))],[]⟩ st [.av v10,.eff (.ptr a11 0) (fun _=>s1),.eff (.ptr a4 0) (fun _=>s2),.eff .undef (fun _=>s3)]).map fun q=>(q.1,q.2.1.n,([q.2.1.get 0,q.2.1.get 2,q.2.1.get 4]:List AV),q.2.2.1,q.2.2.2.2))=some (.normal,51,[(str s),(.ptr c 0),(.ptr a4 0)],s3,[buildA E0 99 [(0,(str s))]=some v10,boxA st 99 v10=some ((.ptr a11 0),s1),allocA E0 s1 97=some ((.ptr a4 0),s2),storeA E0 s2 97 (.ptr a4 0) (.ptr a11 0)=some s3]):=by kernel_rfl
theorem f24_1{s:ByteArray}{c a11 a4:Nat}{st s1 s2 s3:St}{v10:AV}(h1:buildA E0 99 [(0,(str s))]=some v10)(h2:boxA st 99 v10=some ((.ptr a11 0),s1))(h3:allocA E0 s1 97=some ((.ptr a4 0),s2))(h4:storeA E0 s2 97 (.ptr a4 0) (.ptr a11 0)=some s3){T:Tm}(hT:f24L1 T (str s) (.ptr c 0)):AW Tryz.prog (f24P 1) (fun ex T' st'=>ex= .normal∧f24L2 T' (str s) (.ptr c 0) (.ptr a4 0)∧st'=s3) T st:=by
  obtain ⟨hn,g0,g2⟩:=hT
  exact (gen_run (G:=fun T=>([T.get 0,T.get 2,T.get 4]:List AV)) hE (f24_1_e s c a11 a4 st s1 s2 s3 v10) (Ob.ok_cons.2 ⟨h1,(Ob.ok_cons.2 ⟨h2,(Ob.ok_cons.2 ⟨h3,(Ob.ok_cons.2 ⟨h4,Ob.ok_nil⟩)⟩)⟩)⟩) hn (conz g0 (one g2))).mono fun ex T' st' ⟨q1,q2,q3,q4⟩=>by simp only [List.cons.injEq,and_true] at q3;exact ⟨q1,⟨q2,q3⟩,q4⟩
def f24L3(T:Tm)(a0 a2 a4 a5:AV):Prop:=T.n=51∧T.get 0=a0∧T.get 2=a2∧T.get 4=a4∧T.get 5=a5
theorem f24_2_e(s:ByteArray)(c a r a5:Nat)(st s1 s2 s3:St)(n13:Int)(v14:AV):((evS Tryz.prog E0 noOv noS 100000 [2005,2012,5000,6046,7014] (f24P 2) ⟨51,[(0,(str s)),(2,(.ptr c 0)),(4,(.ptr a 0))],[]⟩ st [.eff (.ptr r 0) id,.eff (i64 n13) (fun _=>s1),.av v14,.eff (.ptr a5 0) (fun _=>s2),.eff .undef (fun _=>s3)]).map fun q=>(q.1,q.2.1.n,([q.2.1.get 0,q.2.1.get 2,q.2.1.get 4,q.2.1.get 5]:List AV),q.2.2.1,q.2.2.2.2))=some (.normal,51,[(str s),(.ptr c 0),(.ptr a 0),(.ptr a5 0)],s3,[loadA E0 st 97 (.ptr a 0)=some (.ptr r 0)∧st=st,obC 46 [(.ptr r 0)] st (i64 n13) s1,buildA E0 54 [(0,(i64 n13))]=some v14,allocA E0 s1 54=some ((.ptr a5 0),s2),storeA E0 s2 54 (.ptr a5 0) v14=some s3]):=by kernel_rfl
theorem f24_2{s:ByteArray}{c a r a5:Nat}{st s1 s2 s3:St}{n13:Int}{v14:AV}(h1:loadA E0 st 97 (.ptr a 0)=some (.ptr r 0))(h2:obC 46 [(.ptr r 0)] st (i64 n13) s1)(h3:buildA E0 54 [(0,(i64 n13))]=some v14)(h4:allocA E0 s1 54=some ((.ptr a5 0),s2))(h5:storeA E0 s2 54 (.ptr a5 0) v14=some s3){T:Tm}(hT:f24L2 T (str s) (.ptr c 0) (.ptr a 0)):AW Tryz.prog (f24P 2) (fun ex T' st'=>ex= .normal∧f24L3 T' (str s) (.ptr c 0) (.ptr a 0) (.ptr a5 0)∧st'=s3) T st:=by
  obtain ⟨hn,g0,g2,g4⟩:=hT
  exact (gen_run (G:=fun T=>([T.get 0,T.get 2,T.get 4,T.get 5]:List AV)) hE (f24_2_e s c a r a5 st s1 s2 s3 n13 v14) (Ob.ok_cons.2 ⟨⟨h1,rfl⟩,(Ob.ok_cons.2 ⟨h2,(Ob.ok_cons.2 ⟨h3,(Ob.ok_cons.2 ⟨h4,(Ob.ok_cons.2 ⟨h5,Ob.ok_nil⟩)⟩)⟩)⟩)⟩) hn (conz g0 (conz g2 (one g4)))).mono fun ex T' st' ⟨q1,q2,q3,q4⟩=>by simp only [List.cons.injEq,and_true] at q3;exact ⟨q1,⟨q2,q3⟩,q4⟩
def f24L4(T:Tm)(a0 a2 a4 a5 a6:AV):Prop:=T.n=51∧T.get 0=a0∧T.get 2=a2∧T.get 4=a4∧T.get 5=a5∧T.get 6=a6
theorem f24_3_e(s:ByteArray)(c a b:Nat)(st:St):((evS Tryz.prog E0 noOv noS 100000 [] (f24P 3) ⟨51,[(0,(str s)),(2,(.ptr c 0)),(4,(.ptr a 0)),(5,(.ptr b 0))],[]⟩ st []).map fun q=>(q.1,q.2.1.n,([q.2.1.get 0,q.2.1.get 2,q.2.1.get 4,q.2.1.get 5,q.2.1.get 6]:List AV),q.2.2.1,q.2.2.2.2))=some (.normal,51,[(str s),(.ptr c 0),(.ptr a 0),(.ptr b 0),(.fn (.func 47) [] [(.ptr a 0),(.ptr b 0)])],st,[]):=by kernel_rfl
theorem f24_3{s:ByteArray}{c a b:Nat}{st:St}{T:Tm}(hT:f24L3 T (str s) (.ptr c 0) (.ptr a 0) (.ptr b 0)):AW Tryz.prog (f24P 3) (fun ex T' st'=>ex= .normal∧f24L4 T' (str s) (.ptr c 0) (.ptr a 0) (.ptr b 0) (.fn (.func 47) [] [(.ptr a 0),(.ptr b 0)])∧st'=st) T st:=by
  obtain ⟨hn,g0,g2,g4,g5⟩:=hT
  exact (gen_run (G:=fun T=>([T.get 0,T.get 2,T.get 4,T.get 5,T.get 6]:List AV)) hE (f24_3_e s c a b st) Ob.ok_nil hn (conz g0 (conz g2 (conz g4 (one g5))))).mono fun ex T' st' ⟨q1,q2,q3,q4⟩=>by simp only [List.cons.injEq,and_true] at q3;exact ⟨q1,⟨q2,q3⟩,q4⟩
theorem f24_4_e(s:ByteArray)(c a b:Nat)(st s1 s2:St)(v18:AV):((evS Tryz.prog E0 noOv noS 100000 [2018,6047] (f24P 4) ⟨51,[(0,(str s)),(2,(.ptr c 0)),(4,(.ptr a 0)),(5,(.ptr b 0)),(6,(.fn (.func 47) [] [(.ptr a 0),(.ptr b 0)]))],[]⟩ st [.eff v18 (fun _=>s1),.eff (.tup []) (fun _=>s2)]).map fun q=>(q.1,q.2.1.n,([q.2.1.get 0,q.2.1.get 2,q.2.1.get 4,q.2.1.get 5,q.2.1.get 6]:List AV),q.2.2.1,q.2.2.2.2))=some (.normal,51,[(str s),(.ptr c 0),(.ptr a 0),(.ptr b 0),(.fn (.func 47) [] [(.ptr a 0),(.ptr b 0)])],s2,[buildSliceA E0 st 100 2 [(0,(i64 2)),(1,(i64 3))]=some (v18,s1),obC 47 [(.fn (.func 49) [] [(.ptr a 0),(.ptr b 0)]),v18,(.ptr a 0),(.ptr b 0)] s1 (.tup []) s2]):=by kernel_rfl
theorem f24_4{s:ByteArray}{c a b:Nat}{st s1 s2:St}{v18:AV}(h1:buildSliceA E0 st 100 2 [(0,(i64 2)),(1,(i64 3))]=some (v18,s1))(h2:obC 47 [(.fn (.func 49) [] [(.ptr a 0),(.ptr b 0)]),v18,(.ptr a 0),(.ptr b 0)] s1 (.tup []) s2){T:Tm}(hT:f24L4 T (str s) (.ptr c 0) (.ptr a 0) (.ptr b 0) (.fn (.func 47) [] [(.ptr a 0),(.ptr b 0)])):AW Tryz.prog (f24P 4) (fun ex T' st'=>ex= .normal∧f24L4 T' (str s) (.ptr c 0) (.ptr a 0) (.ptr b 0) (.fn (.func 47) [] [(.ptr a 0),(.ptr b 0)])∧st'=s2) T st:=by
  obtain ⟨hn,g0,g2,g4,g5,g6⟩:=hT
  exact (gen_run (G:=fun T=>([T.get 0,T.get 2,T.get 4,T.get 5,T.get 6]:List AV)) hE (f24_4_e s c a b st s1 s2 v18) (Ob.ok_cons.2 ⟨h1,(Ob.ok_cons.2 ⟨h2,Ob.ok_nil⟩)⟩) hn (conz g0 (conz g2 (conz g4 (conz g5 (one g6)))))).mono fun ex T' st' ⟨q1,q2,q3,q4⟩=>by simp only [List.cons.injEq,and_true] at q3;exact ⟨q1,⟨q2,q3⟩,q4⟩
theorem f24_5_e(s:ByteArray)(c a b:Nat)(st s1 s2:St)(v22:AV):((evS Tryz.prog E0 noOv noS 100000 [2022,6047] (f24P 5) ⟨51,[(0,(str s)),(2,(.ptr c 0)),(4,(.ptr a 0)),(5,(.ptr b 0)),(6,(.fn (.func 47) [] [(.ptr a 0),(.ptr b 0)]))],[]⟩ st [.eff v22 (fun _=>s1),.eff (.tup []) (fun _=>s2)]).map fun q=>(q.1,q.2.1.n,([q.2.1.get 0,q.2.1.get 2,q.2.1.get 4,q.2.1.get 5,q.2.1.get 6]:List AV),q.2.2.1,q.2.2.2.2))=some (.normal,51,[(str s),(.ptr c 0),(.ptr a 0),(.ptr b 0),(.fn (.func 47) [] [(.ptr a 0),(.ptr b 0)])],s2,[buildSliceA E0 st 100 4 [(0,(i64 4)),(1,(i64 6)),(2,(i64 7)),(3,(i64 8))]=some (v22,s1),obC 47 [(.fn (.func 51) [] [(.ptr a 0),(.ptr b 0)]),v22,(.ptr a 0),(.ptr b 0)] s1 (.tup []) s2]):=by kernel_rfl
theorem f24_5{s:ByteArray}{c a b:Nat}{st s1 s2:St}{v22:AV}(h1:buildSliceA E0 st 100 4 [(0,(i64 4)),(1,(i64 6)),(2,(i64 7)),(3,(i64 8))]=some (v22,s1))(h2:obC 47 [(.fn (.func 51) [] [(.ptr a 0),(.ptr b 0)]),v22,(.ptr a 0),(.ptr b 0)] s1 (.tup []) s2){T:Tm}(hT:f24L4 T (str s) (.ptr c 0) (.ptr a 0) (.ptr b 0) (.fn (.func 47) [] [(.ptr a 0),(.ptr b 0)])):AW Tryz.prog (f24P 5) (fun ex T' st'=>ex= .normal∧f24L4 T' (str s) (.ptr c 0) (.ptr a 0) (.ptr b 0) (.fn (.func 47) [] [(.ptr a 0),(.ptr b 0)])∧st'=s2) T st:=by
  obtain ⟨hn,g0,g2,g4,g5,g6⟩:=hT
  exact (gen_run (G:=fun T=>([T.get 0,T.get 2,T.get 4,T.get 5,T.get 6]:List AV)) hE (f24_5_e s c a b st s1 s2 v22) (Ob.ok_cons.2 ⟨h1,(Ob.ok_cons.2 ⟨h2,Ob.ok_nil⟩)⟩) hn (conz g0 (conz g2 (conz g4 (conz g5 (one g6)))))).mono fun ex T' st' ⟨q1,q2,q3,q4⟩=>by simp only [List.cons.injEq,and_true] at q3;exact ⟨q1,⟨q2,q3⟩,q4⟩
theorem f24_6_e(s:ByteArray)(c a b:Nat)(st s1 s2:St)(v26:AV):((evS Tryz.prog E0 noOv noS 100000 [2026,6047] (f24P 6) ⟨51,[(0,(str s)),(2,(.ptr c 0)),(4,(.ptr a 0)),(5,(.ptr b 0)),(6,(.fn (.func 47) [] [(.ptr a 0),(.ptr b 0)]))],[]⟩ st [.eff v26 (fun _=>s1),.eff (.tup []) (fun _=>s2)]).map fun q=>(q.1,q.2.1.n,([q.2.1.get 0,q.2.1.get 2,q.2.1.get 4,q.2.1.get 5,q.2.1.get 6]:List AV),q.2.2.1,q.2.2.2.2))=some (.normal,51,[(str s),(.ptr c 0),(.ptr a 0),(.ptr b 0),(.fn (.func 47) [] [(.ptr a 0),(.ptr b 0)])],s2,[buildSliceA E0 st 100 1 [(0,(i64 2))]=some (v26,s1),obC 47 [(.fn (.func 52) [] [(.ptr a 0),(.ptr b 0)]),v26,(.ptr a 0),(.ptr b 0)] s1 (.tup []) s2]):=by kernel_rfl
theorem f24_6{s:ByteArray}{c a b:Nat}{st s1 s2:St}{v26:AV}(h1:buildSliceA E0 st 100 1 [(0,(i64 2))]=some (v26,s1))(h2:obC 47 [(.fn (.func 52) [] [(.ptr a 0),(.ptr b 0)]),v26,(.ptr a 0),(.ptr b 0)] s1 (.tup []) s2){T:Tm}(hT:f24L4 T (str s) (.ptr c 0) (.ptr a 0) (.ptr b 0) (.fn (.func 47) [] [(.ptr a 0),(.ptr b 0)])):AW Tryz.prog (f24P 6) (fun ex T' st'=>ex= .normal∧f24L4 T' (str s) (.ptr c 0) (.ptr a 0) (.ptr b 0) (.fn (.func 47) [] [(.ptr a 0),(.ptr b 0)])∧st'=s2) T st:=by
  obtain ⟨hn,g0,g2,g4,g5,g6⟩:=hT
  exact (gen_run (G:=fun T=>([T.get 0,T.get 2,T.get 4,T.get 5,T.get 6]:List AV)) hE (f24_6_e s c a b st s1 s2 v26) (Ob.ok_cons.2 ⟨h1,(Ob.ok_cons.2 ⟨h2,Ob.ok_nil⟩)⟩) hn (conz g0 (conz g2 (conz g4 (conz g5 (one g6)))))).mono fun ex T' st' ⟨q1,q2,q3,q4⟩=>by simp only [List.cons.injEq,and_true] at q3;exact ⟨q1,⟨q2,q3⟩,q4⟩
theorem f24_7_e(s:ByteArray)(c a b:Nat)(st s1 s2:St)(v30:AV):((evS Tryz.prog E0 noOv noS 100000 [2030,6047] (f24P 7) ⟨51,[(0,(str s)),(2,(.ptr c 0)),(4,(.ptr a 0)),(5,(.ptr b 0)),(6,(.fn (.func 47) [] [(.ptr a 0),(.ptr b 0)]))],[]⟩ st [.eff v30 (fun _=>s1),.eff (.tup []) (fun _=>s2)]).map fun q=>(q.1,q.2.1.n,([q.2.1.get 0,q.2.1.get 2,q.2.1.get 4,q.2.1.get 5]:List AV),q.2.2.1,q.2.2.2.2))=some (.normal,51,[(str s),(.ptr c 0),(.ptr a 0),(.ptr b 0)],s2,[buildSliceA E0 st 100 1 [(0,(i64 8))]=some (v30,s1),obC 47 [(.fn (.func 54) [] [(.ptr a 0),(.ptr b 0)]),v30,(.ptr a 0),(.ptr b 0)] s1 (.tup []) s2]):=by kernel_rfl
theorem f24_7{s:ByteArray}{c a b:Nat}{st s1 s2:St}{v30:AV}(h1:buildSliceA E0 st 100 1 [(0,(i64 8))]=some (v30,s1))(h2:obC 47 [(.fn (.func 54) [] [(.ptr a 0),(.ptr b 0)]),v30,(.ptr a 0),(.ptr b 0)] s1 (.tup []) s2){T:Tm}(hT:f24L4 T (str s) (.ptr c 0) (.ptr a 0) (.ptr b 0) (.fn (.func 47) [] [(.ptr a 0),(.ptr b 0)])):AW Tryz.prog (f24P 7) (fun ex T' st'=>ex= .normal∧f24L3 T' (str s) (.ptr c 0) (.ptr a 0) (.ptr b 0)∧st'=s2) T st:=by
  obtain ⟨hn,g0,g2,g4,g5,g6⟩:=hT
  exact (gen_run (G:=fun T=>([T.get 0,T.get 2,T.get 4,T.get 5]:List AV)) hE (f24_7_e s c a b st s1 s2 v30) (Ob.ok_cons.2 ⟨h1,(Ob.ok_cons.2 ⟨h2,Ob.ok_nil⟩)⟩) hn (conz g0 (conz g2 (conz g4 (conz g5 (one g6)))))).mono fun ex T' st' ⟨q1,q2,q3,q4⟩=>by simp only [List.cons.injEq,and_true] at q3;exact ⟨q1,⟨q2,q3⟩,q4⟩
def f24L5(T:Tm)(a0 a2 a4 a5 a7 a8:AV):Prop:=T.n=51∧T.get 0=a0∧T.get 2=a2∧T.get 4=a4∧T.get 5=a5∧T.get 7=a7∧T.get 8=a8
theorem f24_8_e(s w34a:ByteArray)(c a b:Nat)(st s1:St)(v33:AV)(b34b:Bool):((evS Tryz.prog E0 noOv noS 100000 [2033,6021] (f24P 8) ⟨51,[(0,(str s)),(2,(.ptr c 0)),(4,(.ptr a 0)),(5,(.ptr b 0))],[]⟩ st [.eff v33 id,.eff (.tup [(str w34a),(bo b34b)]) (fun _=>s1)]).map fun q=>(q.1,q.2.1.n,([q.2.1.get 0,q.2.1.get 2,q.2.1.get 4,q.2.1.get 5,q.2.1.get 7,q.2.1.get 8]:List AV),q.2.2.1,q.2.2.2.2))=some (.normal,51,[(str s),(.ptr c 0),(.ptr a 0),(.ptr b 0),(str w34a),(bo b34b)],s1,[loadA E0 st 54 (.ptr b 0)=some v33∧st=st,obC 21 [v33] st (.tup [(str w34a),(bo b34b)]) s1]):=by kernel_rfl
theorem f24_8{s w34a:ByteArray}{c a b:Nat}{st s1:St}{v33:AV}{b34b:Bool}(h1:loadA E0 st 54 (.ptr b 0)=some v33)(h2:obC 21 [v33] st (.tup [(str w34a),(bo b34b)]) s1){T:Tm}(hT:f24L3 T (str s) (.ptr c 0) (.ptr a 0) (.ptr b 0)):AW Tryz.prog (f24P 8) (fun ex T' st'=>ex= .normal∧f24L5 T' (str s) (.ptr c 0) (.ptr a 0) (.ptr b 0) (str w34a) (bo b34b)∧st'=s1) T st:=by
  obtain ⟨hn,g0,g2,g4,g5⟩:=hT
  exact (gen_run (G:=fun T=>([T.get 0,T.get 2,T.get 4,T.get 5,T.get 7,T.get 8]:List AV)) hE (f24_8_e s w34a c a b st s1 v33 b34b) (Ob.ok_cons.2 ⟨⟨h1,rfl⟩,(Ob.ok_cons.2 ⟨h2,Ob.ok_nil⟩)⟩) hn (conz g0 (conz g2 (conz g4 (one g5))))).mono fun ex T' st' ⟨q1,q2,q3,q4⟩=>by simp only [List.cons.injEq,and_true] at q3;exact ⟨q1,⟨q2,q3⟩,q4⟩
def f24L6(T:Tm)(a2 a3:AV):Prop:=T.n=51∧T.get 2=a2∧T.get 3=a3
theorem f24_9_T_e(s w:ByteArray)(c a b r:Nat)(ok:Bool)(st s1:St)(v37:AV):((evS Tryz.prog E0 noOv noS 100000 [5000,7049,8000] (f24P 9) ⟨51,[(0,(str s)),(2,(.ptr c 0)),(4,(.ptr a 0)),(5,(.ptr b 0)),(7,(str w)),(8,(bo ok))],[]⟩ st [.eff v37 id,.eff (.ptr r 0) id,.eff TT id,.eff (.tup []) (fun _=>s1)]).map fun q=>(q.1,q.2.1.n,([q.2.1.get 2,q.2.1.get 3]:List AV),q.2.2.1,q.2.2.2.2))=some (.normal,51,[(.ptr c 0),FF],s1.show st [b,a,r],[∀k∈ [b,a,r],k<st.next,[b,a,r].contains b=true∧loadA E0 st 54 (.ptr b 0)=some v37,[b,a,r].contains a=true∧loadA E0 st 97 (.ptr a 0)=some (.ptr r 0),[b,a,r].contains r=true∧loadA E0 st 4 (.ptr r 1)=some TT,(true=true→ [b,a,r].all (fun k=>(st.get k).isSome)=true),storeA E0 (st.hide [b,a,r]) 54 (.ptr c 0) v37=some s1]):=by kernel_rfl
theorem f24_9_T{s w:ByteArray}{c a b r:Nat}{ok:Bool}{st s1:St}{v37:AV}(h1:∀k∈ [b,a,r],k<st.next)(h2:loadA E0 st 54 (.ptr b 0)=some v37)(h3:loadA E0 st 97 (.ptr a 0)=some (.ptr r 0))(h4:loadA E0 st 4 (.ptr r 1)=some TT)(h5: [b,a,r].all (fun k=>(st.get k).isSome)=true)(h6:storeA E0 (st.hide [b,a,r]) 54 (.ptr c 0) v37=some s1){T:Tm}(hT:f24L5 T (str s) (.ptr c 0) (.ptr a 0) (.ptr b 0) (str w) (bo ok)):AW Tryz.prog (f24P 9) (fun ex T' st'=>ex= .normal∧f24L6 T' (.ptr c 0) FF∧st'=(s1.show st [b,a,r])) T st:=by
  obtain ⟨hn,g0,g2,g4,g5,g7,g8⟩:=hT
  exact (gen_run (G:=fun T=>([T.get 2,T.get 3]:List AV)) hE (f24_9_T_e s w c a b r ok st s1 v37) (Ob.ok_cons.2 ⟨h1,(Ob.ok_cons.2 ⟨⟨by simp,h2⟩,(Ob.ok_cons.2 ⟨⟨by simp,h3⟩,(Ob.ok_cons.2 ⟨⟨by simp,h4⟩,(Ob.ok_cons.2 ⟨(fun _=>h5),(Ob.ok_cons.2 ⟨h6,Ob.ok_nil⟩)⟩)⟩)⟩)⟩)⟩) hn (conz g0 (conz g2 (conz g4 (conz g5 (conz g7 (one g8))))))).mono fun ex T' st' ⟨q1,q2,q3,q4⟩=>by simp only [List.cons.injEq,and_true] at q3;exact ⟨q1,⟨q2,q3⟩,q4⟩
theorem f24_9_FTT_e(s w:ByteArray)(c a b r:Nat)(st s1:St)(v37:AV):((evS Tryz.prog E0 noOv noS 100000 [5000,7049,8000] (f24P 9) ⟨51,[(0,(str s)),(2,(.ptr c 0)),(4,(.ptr a 0)),(5,(.ptr b 0)),(7,(str w)),(8,TT)],[]⟩ st [.eff v37 id,.eff (.ptr r 0) id,.eff FF id,.eff TT id,.eff (.tup []) (fun _=>s1)]).map fun q=>(q.1,q.2.1.n,([q.2.1.get 2,q.2.1.get 3]:List AV),q.2.2.1,q.2.2.2.2))=some (.normal,51,[(.ptr c 0),TT],s1.show st [b,a,r],[∀k∈ [b,a,r],k<st.next,[b,a,r].contains b=true∧loadA E0 st 54 (.ptr b 0)=some v37,[b,a,r].contains a=true∧loadA E0 st 97 (.ptr a 0)=some (.ptr r 0),[b,a,r].contains r=true∧loadA E0 st 4 (.ptr r 1)=some FF,binA E0 .eql 9 (str w) (str s)=some TT,(true=true→ [b,a,r].all (fun k=>(st.get k).isSome)=true),storeA E0 (st.hide [b,a,r]) 54 (.ptr c 0) v37=some s1]):=by kernel_rfl
theorem f24_9_FTT{s w:ByteArray}{c a b r:Nat}{st s1:St}{v37:AV}(h1:∀k∈ [b,a,r],k<st.next)(h2:loadA E0 st 54 (.ptr b 0)=some v37)(h3:loadA E0 st 97 (.ptr a 0)=some (.ptr r 0))(h4:loadA E0 st 4 (.ptr r 1)=some FF)(h5:binA E0 .eql 9 (str w) (str s)=some TT)(h6: [b,a,r].all (fun k=>(st.get k).isSome)=true)(h7:storeA E0 (st.hide [b,a,r]) 54 (.ptr c 0) v37=some s1){T:Tm}(hT:f24L5 T (str s) (.ptr c 0) (.ptr a 0) (.ptr b 0) (str w) TT):AW Tryz.prog (f24P 9) (fun ex T' st'=>ex= .normal∧f24L6 T' (.ptr c 0) TT∧st'=(s1.show st [b,a,r])) T st:=by
  obtain ⟨hn,g0,g2,g4,g5,g7,g8⟩:=hT
  exact (gen_run (G:=fun T=>([T.get 2,T.get 3]:List AV)) hE (f24_9_FTT_e s w c a b r st s1 v37) (Ob.ok_cons.2 ⟨h1,(Ob.ok_cons.2 ⟨⟨by simp,h2⟩,(Ob.ok_cons.2 ⟨⟨by simp,h3⟩,(Ob.ok_cons.2 ⟨⟨by simp,h4⟩,(Ob.ok_cons.2 ⟨h5,(Ob.ok_cons.2 ⟨(fun _=>h6),(Ob.ok_cons.2 ⟨h7,Ob.ok_nil⟩)⟩)⟩)⟩)⟩)⟩)⟩) hn (conz g0 (conz g2 (conz g4 (conz g5 (conz g7 (one g8))))))).mono fun ex T' st' ⟨q1,q2,q3,q4⟩=>by simp only [List.cons.injEq,and_true] at q3;exact ⟨q1,⟨q2,q3⟩,q4⟩
theorem f24_9_FTF_e(s w:ByteArray)(c a b r:Nat)(st s1:St)(v37:AV):((evS Tryz.prog E0 noOv noS 100000 [5000,7049,8000] (f24P 9) ⟨51,[(0,(str s)),(2,(.ptr c 0)),(4,(.ptr a 0)),(5,(.ptr b 0)),(7,(str w)),(8,TT)],[]⟩ st [.eff v37 id,.eff (.ptr r 0) id,.eff FF id,.eff FF id,.eff (.tup []) (fun _=>s1)]).map fun q=>(q.1,q.2.1.n,([q.2.1.get 2,q.2.1.get 3]:List AV),q.2.2.1,q.2.2.2.2))=some (.normal,51,[(.ptr c 0),FF],s1.show st [b,a,r],[∀k∈ [b,a,r],k<st.next,[b,a,r].contains b=true∧loadA E0 st 54 (.ptr b 0)=some v37,[b,a,r].contains a=true∧loadA E0 st 97 (.ptr a 0)=some (.ptr r 0),[b,a,r].contains r=true∧loadA E0 st 4 (.ptr r 1)=some FF,binA E0 .eql 9 (str w) (str s)=some FF,(true=true→ [b,a,r].all (fun k=>(st.get k).isSome)=true),storeA E0 (st.hide [b,a,r]) 54 (.ptr c 0) v37=some s1]):=by kernel_rfl
theorem f24_9_FTF{s w:ByteArray}{c a b r:Nat}{st s1:St}{v37:AV}(h1:∀k∈ [b,a,r],k<st.next)(h2:loadA E0 st 54 (.ptr b 0)=some v37)(h3:loadA E0 st 97 (.ptr a 0)=some (.ptr r 0))(h4:loadA E0 st 4 (.ptr r 1)=some FF)(h5:binA E0 .eql 9 (str w) (str s)=some FF)(h6: [b,a,r].all (fun k=>(st.get k).isSome)=true)(h7:storeA E0 (st.hide [b,a,r]) 54 (.ptr c 0) v37=some s1){T:Tm}(hT:f24L5 T (str s) (.ptr c 0) (.ptr a 0) (.ptr b 0) (str w) TT):AW Tryz.prog (f24P 9) (fun ex T' st'=>ex= .normal∧f24L6 T' (.ptr c 0) FF∧st'=(s1.show st [b,a,r])) T st:=by
  obtain ⟨hn,g0,g2,g4,g5,g7,g8⟩:=hT
  exact (gen_run (G:=fun T=>([T.get 2,T.get 3]:List AV)) hE (f24_9_FTF_e s w c a b r st s1 v37) (Ob.ok_cons.2 ⟨h1,(Ob.ok_cons.2 ⟨⟨by simp,h2⟩,(Ob.ok_cons.2 ⟨⟨by simp,h3⟩,(Ob.ok_cons.2 ⟨⟨by simp,h4⟩,(Ob.ok_cons.2 ⟨h5,(Ob.ok_cons.2 ⟨(fun _=>h6),(Ob.ok_cons.2 ⟨h7,Ob.ok_nil⟩)⟩)⟩)⟩)⟩)⟩)⟩) hn (conz g0 (conz g2 (conz g4 (conz g5 (conz g7 (one g8))))))).mono fun ex T' st' ⟨q1,q2,q3,q4⟩=>by simp only [List.cons.injEq,and_true] at q3;exact ⟨q1,⟨q2,q3⟩,q4⟩
theorem f24_9_FF_e(s w:ByteArray)(c a b r:Nat)(st s1:St)(v37:AV):((evS Tryz.prog E0 noOv noS 100000 [5000,7049,8000] (f24P 9) ⟨51,[(0,(str s)),(2,(.ptr c 0)),(4,(.ptr a 0)),(5,(.ptr b 0)),(7,(str w)),(8,FF)],[]⟩ st [.eff v37 id,.eff (.ptr r 0) id,.eff FF id,.eff (.tup []) (fun _=>s1)]).map fun q=>(q.1,q.2.1.n,([q.2.1.get 2,q.2.1.get 3]:List AV),q.2.2.1,q.2.2.2.2))=some (.normal,51,[(.ptr c 0),FF],s1.show st [b,a,r],[∀k∈ [b,a,r],k<st.next,[b,a,r].contains b=true∧loadA E0 st 54 (.ptr b 0)=some v37,[b,a,r].contains a=true∧loadA E0 st 97 (.ptr a 0)=some (.ptr r 0),[b,a,r].contains r=true∧loadA E0 st 4 (.ptr r 1)=some FF,(true=true→ [b,a,r].all (fun k=>(st.get k).isSome)=true),storeA E0 (st.hide [b,a,r]) 54 (.ptr c 0) v37=some s1]):=by kernel_rfl
theorem f24_9_FF{s w:ByteArray}{c a b r:Nat}{st s1:St}{v37:AV}(h1:∀k∈ [b,a,r],k<st.next)(h2:loadA E0 st 54 (.ptr b 0)=some v37)(h3:loadA E0 st 97 (.ptr a 0)=some (.ptr r 0))(h4:loadA E0 st 4 (.ptr r 1)=some FF)(h5: [b,a,r].all (fun k=>(st.get k).isSome)=true)(h6:storeA E0 (st.hide [b,a,r]) 54 (.ptr c 0) v37=some s1){T:Tm}(hT:f24L5 T (str s) (.ptr c 0) (.ptr a 0) (.ptr b 0) (str w) FF):AW Tryz.prog (f24P 9) (fun ex T' st'=>ex= .normal∧f24L6 T' (.ptr c 0) FF∧st'=(s1.show st [b,a,r])) T st:=by
  obtain ⟨hn,g0,g2,g4,g5,g7,g8⟩:=hT
  exact (gen_run (G:=fun T=>([T.get 2,T.get 3]:List AV)) hE (f24_9_FF_e s w c a b r st s1 v37) (Ob.ok_cons.2 ⟨h1,(Ob.ok_cons.2 ⟨⟨by simp,h2⟩,(Ob.ok_cons.2 ⟨⟨by simp,h3⟩,(Ob.ok_cons.2 ⟨⟨by simp,h4⟩,(Ob.ok_cons.2 ⟨(fun _=>h5),(Ob.ok_cons.2 ⟨h6,Ob.ok_nil⟩)⟩)⟩)⟩)⟩)⟩) hn (conz g0 (conz g2 (conz g4 (conz g5 (conz g7 (one g8))))))).mono fun ex T' st' ⟨q1,q2,q3,q4⟩=>by simp only [List.cons.injEq,and_true] at q3;exact ⟨q1,⟨q2,q3⟩,q4⟩
noncomputable def f33P(i:Nat):Code:=match Tryz.f33.body with
  |some (.seq x0 (.seq x1 (.seq x2 (.seq (.seq x3 (.block 0 (.seq x4 (.cond _ x5 (.seq x6 (.cond _ x7 (.seq x8 (.cond _ x9 (.seq x10 (.cond _ x11 (.seq x12 (.cond _ (.seq x13 x14) x15)))))))))))) (.seq x16 (.seq x17 x18))))))=> [x0,x1,x2,x3,x4,x5,x6,x7,x8,x9,x10,x11,x12,x13,x14,x15,x16,x17,x18].getD i .skip
  |_=> .skip
theorem f33body:Tryz.f33.body=some (.seq (f33P 0) (.seq (f33P 1) (.seq (f33P 2) (.seq (.seq (f33P 3) (.block 0 (.seq (f33P 4) (.cond (.tmp 17) (f33P 5) (.seq (f33P 6) (.cond (.tmp 23) (f33P 7) (.seq (f33P 8) (.cond (.tmp 29) (f33P 9) (.seq (f33P 10) (.cond (.tmp 36) (f33P 11) (.seq (f33P 12) (.cond (.tmp 43) (.seq (f33P 13) (f33P 14)) (f33P 15))))))))))))) (.seq (f33P 16) (.seq (f33P 17) (f33P 18))))))):=by kernel_rfl
def f33L0(T:Tm)(a0:AV):Prop:=T.n=73∧T.get 0=a0
def f33L1(T:Tm)(a0 a2:AV):Prop:=T.n=73∧T.get 0=a0∧T.get 2=a2
theorem f33_0_e(s:ByteArray)(st s1:St)(a2:Nat):((evS Tryz.prog E0 noOv noS 100000 [2002] (f33P 0) ⟨73,[(0,(str s))],[]⟩ st [.eff (.ptr a2 0) (fun _=>s1)]).map fun q=>(q.1,q.2.1.n,([q.2.1.get 0,q.2.1.get 2]:List AV),q.2.2.1,q.2.2.2.2))=some (.normal,73,[(str s),(.ptr a2 0)],s1,[allocA E0 st 70=some ((.ptr a2 0),s1)]):=by kernel_rfl
theorem f33_0{s:ByteArray}{st s1:St}{a2:Nat}(h1:allocA E0 st 70=some ((.ptr a2 0),s1)){T:Tm}(hT:f33L0 T (str s)):AW Tryz.prog (f33P 0) (fun ex T' st'=>ex= .normal∧f33L1 T' (str s) (.ptr a2 0)∧st'=s1) T st:=by
  obtain ⟨hn,g0⟩:=hT
  exact (gen_run (G:=fun T=>([T.get 0,T.get 2]:List AV)) hE (f33_0_e s st s1 a2) (Ob.ok_cons.2 ⟨h1,Ob.ok_nil⟩) hn (one g0)).mono fun ex T' st' ⟨q1,q2,q3,q4⟩=>by simp only [List.cons.injEq,and_true] at q3;exact ⟨q1,⟨q2,q3⟩,q4⟩
def f33L2(T:Tm)(a0 a2 a4:AV):Prop:=T.n=73∧T.get 0=a0∧T.get 2=a2∧T.get 4=a4
theorem f33_1_e(s:ByteArray)(c a11:Nat)(st s1:St)(v10:AV):((evS Tryz.prog E0 noOv noS 100000 [2011,7010] (f33P 1) ⟨73,[(0,(str s)),(2,(.ptr c 0))],[]⟩ st [.av v10,.eff (.ptr a11 0) (fun _=>s1)]).map fun q=>(q.1,q.2.1.n,([q.2.1.get 0,q.2.1.get 2,q.2.1.get 4]:List AV),q.2.2.1,q.2.2.2.2))=some (.normal,73,[(str s),(.ptr c 0),(.ptr a11 0)],s1,[buildA E0 99 [(0,(str s))]=some v10,boxA st 99 v10=some ((.ptr a11 0),s1)]):=by kernel_rfl
theorem f33_1{s:ByteArray}{c a11:Nat}{st s1:St}{v10:AV}(h1:buildA E0 99 [(0,(str s))]=some v10)(h2:boxA st 99 v10=some ((.ptr a11 0),s1)){T:Tm}(hT:f33L1 T (str s) (.ptr c 0)):AW Tryz.prog (f33P 1) (fun ex T' st'=>ex= .normal∧f33L2 T' (str s) (.ptr c 0) (.ptr a11 0)∧st'=s1) T st:=by
  obtain ⟨hn,g0,g2⟩:=hT
  exact (gen_run (G:=fun T=>([T.get 0,T.get 2,T.get 4]:List AV)) hE (f33_1_e s c a11 st s1 v10) (Ob.ok_cons.2 ⟨h1,(Ob.ok_cons.2 ⟨h2,Ob.ok_nil⟩)⟩) hn (conz g0 (one g2))).mono fun ex T' st' ⟨q1,q2,q3,q4⟩=>by simp only [List.cons.injEq,and_true] at q3;exact ⟨q1,⟨q2,q3⟩,q4⟩
def f33L3(T:Tm)(a0 a2 a4 a5:AV):Prop:=T.n=73∧T.get 0=a0∧T.get 2=a2∧T.get 4=a4∧T.get 5=a5
theorem f33_2_e(s:ByteArray)(c r a5:Nat)(st s1 s2 s3:St)(n13:Int)(v14:AV):((evS Tryz.prog E0 noOv noS 100000 [2005,5000,6046,7014] (f33P 2) ⟨73,[(0,(str s)),(2,(.ptr c 0)),(4,(.ptr r 0))],[]⟩ st [.eff (i64 n13) (fun _=>s1),.av v14,.eff (.ptr a5 0) (fun _=>s2),.eff .undef (fun _=>s3)]).map fun q=>(q.1,q.2.1.n,([q.2.1.get 0,q.2.1.get 2,q.2.1.get 4,q.2.1.get 5]:List AV),q.2.2.1,q.2.2.2.2))=some (.normal,73,[(str s),(.ptr c 0),(.ptr r 0),(.ptr a5 0)],s3,[obC 46 [(.ptr r 0)] st (i64 n13) s1,buildA E0 70 [(0,(i64 n13))]=some v14,allocA E0 s1 70=some ((.ptr a5 0),s2),storeA E0 s2 70 (.ptr a5 0) v14=some s3]):=by kernel_rfl
theorem f33_2{s:ByteArray}{c r a5:Nat}{st s1 s2 s3:St}{n13:Int}{v14:AV}(h1:obC 46 [(.ptr r 0)] st (i64 n13) s1)(h2:buildA E0 70 [(0,(i64 n13))]=some v14)(h3:allocA E0 s1 70=some ((.ptr a5 0),s2))(h4:storeA E0 s2 70 (.ptr a5 0) v14=some s3){T:Tm}(hT:f33L2 T (str s) (.ptr c 0) (.ptr r 0)):AW Tryz.prog (f33P 2) (fun ex T' st'=>ex= .normal∧f33L3 T' (str s) (.ptr c 0) (.ptr r 0) (.ptr a5 0)∧st'=s3) T st:=by
  obtain ⟨hn,g0,g2,g4⟩:=hT
  exact (gen_run (G:=fun T=>([T.get 0,T.get 2,T.get 4,T.get 5]:List AV)) hE (f33_2_e s c r a5 st s1 s2 s3 n13 v14) (Ob.ok_cons.2 ⟨h1,(Ob.ok_cons.2 ⟨h2,(Ob.ok_cons.2 ⟨h3,(Ob.ok_cons.2 ⟨h4,Ob.ok_nil⟩)⟩)⟩)⟩) hn (conz g0 (conz g2 (one g4)))).mono fun ex T' st' ⟨q1,q2,q3,q4⟩=>by simp only [List.cons.injEq,and_true] at q3;exact ⟨q1,⟨q2,q3⟩,q4⟩
def f33L4(T:Tm)(a0 a2 a4 a5 a6:AV):Prop:=T.n=73∧T.get 0=a0∧T.get 2=a2∧T.get 4=a4∧T.get 5=a5∧T.get 6=a6
theorem f33_3_e(s w16:ByteArray)(c r b:Nat)(st s1:St):((evS Tryz.prog E0 noOv noS 100000 [6060] (f33P 3) ⟨73,[(0,(str s)),(2,(.ptr c 0)),(4,(.ptr r 0)),(5,(.ptr b 0))],[]⟩ st [.eff (str w16) (fun _=>s1)]).map fun q=>(q.1,q.2.1.n,([q.2.1.get 0,q.2.1.get 2,q.2.1.get 4,q.2.1.get 5,q.2.1.get 6]:List AV),q.2.2.1,q.2.2.2.2))=some (.normal,73,[(str s),(.ptr c 0),(.ptr r 0),(.ptr b 0),(str w16)],s1,[obC 60 [(.ptr r 0)] st (str w16) s1]):=by kernel_rfl
theorem f33_3{s w16:ByteArray}{c r b:Nat}{st s1:St}(h1:obC 60 [(.ptr r 0)] st (str w16) s1){T:Tm}(hT:f33L3 T (str s) (.ptr c 0) (.ptr r 0) (.ptr b 0)):AW Tryz.prog (f33P 3) (fun ex T' st'=>ex= .normal∧f33L4 T' (str s) (.ptr c 0) (.ptr r 0) (.ptr b 0) (str w16)∧st'=s1) T st:=by
  obtain ⟨hn,g0,g2,g4,g5⟩:=hT
  exact (gen_run (G:=fun T=>([T.get 0,T.get 2,T.get 4,T.get 5,T.get 6]:List AV)) hE (f33_3_e s w16 c r b st s1) (Ob.ok_cons.2 ⟨h1,Ob.ok_nil⟩) hn (conz g0 (conz g2 (conz g4 (one g5))))).mono fun ex T' st' ⟨q1,q2,q3,q4⟩=>by simp only [List.cons.injEq,and_true] at q3;exact ⟨q1,⟨q2,q3⟩,q4⟩
def f33L5(T:Tm)(a0 a2 a4 a5 a6 a17:AV):Prop:=T.n=73∧T.get 0=a0∧T.get 2=a2∧T.get 4=a4∧T.get 5=a5∧T.get 6=a6∧T.get 17=a17
theorem f33_4_T_e(s w:ByteArray)(c r b:Nat)(st:St):((evS Tryz.prog E0 noOv noS 100000 [7019] (f33P 4) ⟨73,[(0,(str s)),(2,(.ptr c 0)),(4,(.ptr r 0)),(5,(.ptr b 0)),(6,(str w))],[]⟩ st [.av TT]).map fun q=>(q.1,q.2.1.n,([q.2.1.get 0,q.2.1.get 2,q.2.1.get 4,q.2.1.get 5,q.2.1.get 6,q.2.1.get 17]:List AV),q.2.2.1,q.2.2.2.2))=some (.normal,73,[(str s),(.ptr c 0),(.ptr r 0),(.ptr b 0),(str w),TT],st,[binA E0 .eql 9 (str w) (str ⟨#[101,114,114,111,114]⟩)=some TT]):=by kernel_rfl
theorem f33_4_T{s w:ByteArray}{c r b:Nat}{st:St}(h1:binA E0 .eql 9 (str w) (str ⟨#[101,114,114,111,114]⟩)=some TT){T:Tm}(hT:f33L4 T (str s) (.ptr c 0) (.ptr r 0) (.ptr b 0) (str w)):AW Tryz.prog (f33P 4) (fun ex T' st'=>ex= .normal∧f33L5 T' (str s) (.ptr c 0) (.ptr r 0) (.ptr b 0) (str w) TT∧st'=st) T st:=by
  obtain ⟨hn,g0,g2,g4,g5,g6⟩:=hT
  exact (gen_run (G:=fun T=>([T.get 0,T.get 2,T.get 4,T.get 5,T.get 6,T.get 17]:List AV)) hE (f33_4_T_e s w c r b st) (Ob.ok_cons.2 ⟨h1,Ob.ok_nil⟩) hn (conz g0 (conz g2 (conz g4 (conz g5 (one g6)))))).mono fun ex T' st' ⟨q1,q2,q3,q4⟩=>by simp only [List.cons.injEq,and_true] at q3;exact ⟨q1,⟨q2,q3⟩,q4⟩
theorem f33_4_F_e(s w:ByteArray)(c r b:Nat)(st:St):((evS Tryz.prog E0 noOv noS 100000 [7019] (f33P 4) ⟨73,[(0,(str s)),(2,(.ptr c 0)),(4,(.ptr r 0)),(5,(.ptr b 0)),(6,(str w))],[]⟩ st [.av FF]).map fun q=>(q.1,q.2.1.n,([q.2.1.get 0,q.2.1.get 2,q.2.1.get 4,q.2.1.get 5,q.2.1.get 6,q.2.1.get 17]:List AV),q.2.2.1,q.2.2.2.2))=some (.normal,73,[(str s),(.ptr c 0),(.ptr r 0),(.ptr b 0),(str w),FF],st,[binA E0 .eql 9 (str w) (str ⟨#[101,114,114,111,114]⟩)=some FF]):=by kernel_rfl
theorem f33_4_F{s w:ByteArray}{c r b:Nat}{st:St}(h1:binA E0 .eql 9 (str w) (str ⟨#[101,114,114,111,114]⟩)=some FF){T:Tm}(hT:f33L4 T (str s) (.ptr c 0) (.ptr r 0) (.ptr b 0) (str w)):AW Tryz.prog (f33P 4) (fun ex T' st'=>ex= .normal∧f33L5 T' (str s) (.ptr c 0) (.ptr r 0) (.ptr b 0) (str w) FF∧st'=st) T st:=by
  obtain ⟨hn,g0,g2,g4,g5,g6⟩:=hT
  exact (gen_run (G:=fun T=>([T.get 0,T.get 2,T.get 4,T.get 5,T.get 6,T.get 17]:List AV)) hE (f33_4_F_e s w c r b st) (Ob.ok_cons.2 ⟨h1,Ob.ok_nil⟩) hn (conz g0 (conz g2 (conz g4 (conz g5 (one g6)))))).mono fun ex T' st' ⟨q1,q2,q3,q4⟩=>by simp only [List.cons.injEq,and_true] at q3;exact ⟨q1,⟨q2,q3⟩,q4⟩
theorem f33_5_e(s:ByteArray)(c r b:Nat)(st s1 s2:St)(n21:Int):((evS Tryz.prog E0 noOv noS 100000 [5000,6050] (f33P 5) ⟨73,[(0,(str s)),(2,(.ptr c 0)),(4,(.ptr r 0)),(5,(.ptr b 0))],[]⟩ st [.eff (i64 n21) (fun _=>s1),.eff .undef (fun _=>s2)]).map fun q=>(q.1,q.2.1.n,([q.2.1.get 0,q.2.1.get 2,q.2.1.get 4,q.2.1.get 5]:List AV),q.2.2.1,q.2.2.2.2))=some (.normal,73,[(str s),(.ptr c 0),(.ptr r 0),(.ptr b 0)],s2,[obC 50 [(.ptr r 0)] st (i64 n21) s1,storeA E0 s1 23 (.ptr b 1) (i64 n21)=some s2]):=by kernel_rfl
theorem f33_5{s:ByteArray}{c r b:Nat}{st s1 s2:St}{n21:Int}(h1:obC 50 [(.ptr r 0)] st (i64 n21) s1)(h2:storeA E0 s1 23 (.ptr b 1) (i64 n21)=some s2){T:Tm}(hT:f33L3 T (str s) (.ptr c 0) (.ptr r 0) (.ptr b 0)):AW Tryz.prog (f33P 5) (fun ex T' st'=>ex= .normal∧f33L3 T' (str s) (.ptr c 0) (.ptr r 0) (.ptr b 0)∧st'=s2) T st:=by
  obtain ⟨hn,g0,g2,g4,g5⟩:=hT
  exact (gen_run (G:=fun T=>([T.get 0,T.get 2,T.get 4,T.get 5]:List AV)) hE (f33_5_e s c r b st s1 s2 n21) (Ob.ok_cons.2 ⟨h1,(Ob.ok_cons.2 ⟨h2,Ob.ok_nil⟩)⟩) hn (conz g0 (conz g2 (conz g4 (one g5))))).mono fun ex T' st' ⟨q1,q2,q3,q4⟩=>by simp only [List.cons.injEq,and_true] at q3;exact ⟨q1,⟨q2,q3⟩,q4⟩
def f33L6(T:Tm)(a0 a2 a4 a5 a23:AV):Prop:=T.n=73∧T.get 0=a0∧T.get 2=a2∧T.get 4=a4∧T.get 5=a5∧T.get 23=a23
theorem f33_6_T_e(s w:ByteArray)(c r b:Nat)(st:St):((evS Tryz.prog E0 noOv noS 100000 [7025] (f33P 6) ⟨73,[(0,(str s)),(2,(.ptr c 0)),(4,(.ptr r 0)),(5,(.ptr b 0)),(6,(str w))],[]⟩ st [.av TT]).map fun q=>(q.1,q.2.1.n,([q.2.1.get 0,q.2.1.get 2,q.2.1.get 4,q.2.1.get 5,q.2.1.get 23]:List AV),q.2.2.1,q.2.2.2.2))=some (.normal,73,[(str s),(.ptr c 0),(.ptr r 0),(.ptr b 0),TT],st,[binA E0 .neq 9 (str w) (str ⟨#[111,107]⟩)=some TT]):=by kernel_rfl
theorem f33_6_T{s w:ByteArray}{c r b:Nat}{st:St}(h1:binA E0 .neq 9 (str w) (str ⟨#[111,107]⟩)=some TT){T:Tm}(hT:f33L4 T (str s) (.ptr c 0) (.ptr r 0) (.ptr b 0) (str w)):AW Tryz.prog (f33P 6) (fun ex T' st'=>ex= .normal∧f33L6 T' (str s) (.ptr c 0) (.ptr r 0) (.ptr b 0) TT∧st'=st) T st:=by
  obtain ⟨hn,g0,g2,g4,g5,g6⟩:=hT
  exact (gen_run (G:=fun T=>([T.get 0,T.get 2,T.get 4,T.get 5,T.get 23]:List AV)) hE (f33_6_T_e s w c r b st) (Ob.ok_cons.2 ⟨h1,Ob.ok_nil⟩) hn (conz g0 (conz g2 (conz g4 (conz g5 (one g6)))))).mono fun ex T' st' ⟨q1,q2,q3,q4⟩=>by simp only [List.cons.injEq,and_true] at q3;exact ⟨q1,⟨q2,q3⟩,q4⟩
theorem f33_6_F_e(s w:ByteArray)(c r b:Nat)(st:St):((evS Tryz.prog E0 noOv noS 100000 [7025] (f33P 6) ⟨73,[(0,(str s)),(2,(.ptr c 0)),(4,(.ptr r 0)),(5,(.ptr b 0)),(6,(str w))],[]⟩ st [.av FF]).map fun q=>(q.1,q.2.1.n,([q.2.1.get 0,q.2.1.get 2,q.2.1.get 4,q.2.1.get 5,q.2.1.get 23]:List AV),q.2.2.1,q.2.2.2.2))=some (.normal,73,[(str s),(.ptr c 0),(.ptr r 0),(.ptr b 0),FF],st,[binA E0 .neq 9 (str w) (str ⟨#[111,107]⟩)=some FF]):=by kernel_rfl
theorem f33_6_F{s w:ByteArray}{c r b:Nat}{st:St}(h1:binA E0 .neq 9 (str w) (str ⟨#[111,107]⟩)=some FF){T:Tm}(hT:f33L4 T (str s) (.ptr c 0) (.ptr r 0) (.ptr b 0) (str w)):AW Tryz.prog (f33P 6) (fun ex T' st'=>ex= .normal∧f33L6 T' (str s) (.ptr c 0) (.ptr r 0) (.ptr b 0) FF∧st'=st) T st:=by
  obtain ⟨hn,g0,g2,g4,g5,g6⟩:=hT
  exact (gen_run (G:=fun T=>([T.get 0,T.get 2,T.get 4,T.get 5,T.get 23]:List AV)) hE (f33_6_F_e s w c r b st) (Ob.ok_cons.2 ⟨h1,Ob.ok_nil⟩) hn (conz g0 (conz g2 (conz g4 (conz g5 (one g6)))))).mono fun ex T' st' ⟨q1,q2,q3,q4⟩=>by simp only [List.cons.injEq,and_true] at q3;exact ⟨q1,⟨q2,q3⟩,q4⟩
theorem f33_7_e(s:ByteArray)(c r b:Nat)(st s1:St):((evS Tryz.prog E0 noOv noS 100000 [5000] (f33P 7) ⟨73,[(0,(str s)),(2,(.ptr c 0)),(4,(.ptr r 0)),(5,(.ptr b 0))],[]⟩ st [.eff .undef (fun _=>s1)]).map fun q=>(q.1,q.2.1.n,([q.2.1.get 0,q.2.1.get 2,q.2.1.get 4,q.2.1.get 5]:List AV),q.2.2.1,q.2.2.2.2))=some (.normal,73,[(str s),(.ptr c 0),(.ptr r 0),(.ptr b 0)],s1,[storeA E0 st 4 (.ptr r 1) TT=some s1]):=by kernel_rfl
theorem f33_7{s:ByteArray}{c r b:Nat}{st s1:St}(h1:storeA E0 st 4 (.ptr r 1) TT=some s1){T:Tm}(hT:f33L3 T (str s) (.ptr c 0) (.ptr r 0) (.ptr b 0)):AW Tryz.prog (f33P 7) (fun ex T' st'=>ex= .normal∧f33L3 T' (str s) (.ptr c 0) (.ptr r 0) (.ptr b 0)∧st'=s1) T st:=by
  obtain ⟨hn,g0,g2,g4,g5⟩:=hT
  exact (gen_run (G:=fun T=>([T.get 0,T.get 2,T.get 4,T.get 5]:List AV)) hE (f33_7_e s c r b st s1) (Ob.ok_cons.2 ⟨h1,Ob.ok_nil⟩) hn (conz g0 (conz g2 (conz g4 (one g5))))).mono fun ex T' st' ⟨q1,q2,q3,q4⟩=>by simp only [List.cons.injEq,and_true] at q3;exact ⟨q1,⟨q2,q3⟩,q4⟩
def f33L7(T:Tm)(a0 a2 a4 a5 a29:AV):Prop:=T.n=73∧T.get 0=a0∧T.get 2=a2∧T.get 4=a4∧T.get 5=a5∧T.get 29=a29
theorem f33_8_T_e(s:ByteArray)(c r b:Nat)(st:St)(n31:Int):((evS Tryz.prog E0 noOv noS 100000 [2031,7032] (f33P 8) ⟨73,[(0,(str s)),(2,(.ptr c 0)),(4,(.ptr r 0)),(5,(.ptr b 0))],[]⟩ st [.eff (i64 n31) id,.av TT]).map fun q=>(q.1,q.2.1.n,([q.2.1.get 0,q.2.1.get 2,q.2.1.get 4,q.2.1.get 5,q.2.1.get 29]:List AV),q.2.2.1,q.2.2.2.2))=some (.normal,73,[(str s),(.ptr c 0),(.ptr r 0),(.ptr b 0),TT],st,[loadA E0 st 3 (.ptr b 0)=some (i64 n31)∧st=st,binA E0 .eql 3 (i64 n31) (i64 1)=some TT]):=by kernel_rfl
theorem f33_8_T{s:ByteArray}{c r b:Nat}{st:St}{n31:Int}(h1:loadA E0 st 3 (.ptr b 0)=some (i64 n31))(h2:binA E0 .eql 3 (i64 n31) (i64 1)=some TT){T:Tm}(hT:f33L3 T (str s) (.ptr c 0) (.ptr r 0) (.ptr b 0)):AW Tryz.prog (f33P 8) (fun ex T' st'=>ex= .normal∧f33L7 T' (str s) (.ptr c 0) (.ptr r 0) (.ptr b 0) TT∧st'=st) T st:=by
  obtain ⟨hn,g0,g2,g4,g5⟩:=hT
  exact (gen_run (G:=fun T=>([T.get 0,T.get 2,T.get 4,T.get 5,T.get 29]:List AV)) hE (f33_8_T_e s c r b st n31) (Ob.ok_cons.2 ⟨⟨h1,rfl⟩,(Ob.ok_cons.2 ⟨h2,Ob.ok_nil⟩)⟩) hn (conz g0 (conz g2 (conz g4 (one g5))))).mono fun ex T' st' ⟨q1,q2,q3,q4⟩=>by simp only [List.cons.injEq,and_true] at q3;exact ⟨q1,⟨q2,q3⟩,q4⟩
theorem f33_8_F_e(s:ByteArray)(c r b:Nat)(st:St)(n31:Int):((evS Tryz.prog E0 noOv noS 100000 [2031,7032] (f33P 8) ⟨73,[(0,(str s)),(2,(.ptr c 0)),(4,(.ptr r 0)),(5,(.ptr b 0))],[]⟩ st [.eff (i64 n31) id,.av FF]).map fun q=>(q.1,q.2.1.n,([q.2.1.get 0,q.2.1.get 2,q.2.1.get 4,q.2.1.get 5,q.2.1.get 29]:List AV),q.2.2.1,q.2.2.2.2))=some (.normal,73,[(str s),(.ptr c 0),(.ptr r 0),(.ptr b 0),FF],st,[loadA E0 st 3 (.ptr b 0)=some (i64 n31)∧st=st,binA E0 .eql 3 (i64 n31) (i64 1)=some FF]):=by kernel_rfl
theorem f33_8_F{s:ByteArray}{c r b:Nat}{st:St}{n31:Int}(h1:loadA E0 st 3 (.ptr b 0)=some (i64 n31))(h2:binA E0 .eql 3 (i64 n31) (i64 1)=some FF){T:Tm}(hT:f33L3 T (str s) (.ptr c 0) (.ptr r 0) (.ptr b 0)):AW Tryz.prog (f33P 8) (fun ex T' st'=>ex= .normal∧f33L7 T' (str s) (.ptr c 0) (.ptr r 0) (.ptr b 0) FF∧st'=st) T st:=by
  obtain ⟨hn,g0,g2,g4,g5⟩:=hT
  exact (gen_run (G:=fun T=>([T.get 0,T.get 2,T.get 4,T.get 5,T.get 29]:List AV)) hE (f33_8_F_e s c r b st n31) (Ob.ok_cons.2 ⟨⟨h1,rfl⟩,(Ob.ok_cons.2 ⟨h2,Ob.ok_nil⟩)⟩) hn (conz g0 (conz g2 (conz g4 (one g5))))).mono fun ex T' st' ⟨q1,q2,q3,q4⟩=>by simp only [List.cons.injEq,and_true] at q3;exact ⟨q1,⟨q2,q3⟩,q4⟩
theorem f33_9_e(s:ByteArray)(c r b:Nat)(st s1 s2:St)(n34:Int):((evS Tryz.prog E0 noOv noS 100000 [5000,6050] (f33P 9) ⟨73,[(0,(str s)),(2,(.ptr c 0)),(4,(.ptr r 0)),(5,(.ptr b 0))],[]⟩ st [.eff (i64 n34) (fun _=>s1),.eff .undef (fun _=>s2)]).map fun q=>(q.1,q.2.1.n,([q.2.1.get 0,q.2.1.get 2,q.2.1.get 4,q.2.1.get 5]:List AV),q.2.2.1,q.2.2.2.2))=some (.normal,73,[(str s),(.ptr c 0),(.ptr r 0),(.ptr b 0)],s2,[obC 50 [(.ptr r 0)] st (i64 n34) s1,storeA E0 s1 3 (.ptr b 2) (i64 n34)=some s2]):=by kernel_rfl
theorem f33_9{s:ByteArray}{c r b:Nat}{st s1 s2:St}{n34:Int}(h1:obC 50 [(.ptr r 0)] st (i64 n34) s1)(h2:storeA E0 s1 3 (.ptr b 2) (i64 n34)=some s2){T:Tm}(hT:f33L3 T (str s) (.ptr c 0) (.ptr r 0) (.ptr b 0)):AW Tryz.prog (f33P 9) (fun ex T' st'=>ex= .normal∧f33L3 T' (str s) (.ptr c 0) (.ptr r 0) (.ptr b 0)∧st'=s2) T st:=by
  obtain ⟨hn,g0,g2,g4,g5⟩:=hT
  exact (gen_run (G:=fun T=>([T.get 0,T.get 2,T.get 4,T.get 5]:List AV)) hE (f33_9_e s c r b st s1 s2 n34) (Ob.ok_cons.2 ⟨h1,(Ob.ok_cons.2 ⟨h2,Ob.ok_nil⟩)⟩) hn (conz g0 (conz g2 (conz g4 (one g5))))).mono fun ex T' st' ⟨q1,q2,q3,q4⟩=>by simp only [List.cons.injEq,and_true] at q3;exact ⟨q1,⟨q2,q3⟩,q4⟩
def f33L8(T:Tm)(a0 a2 a4 a5 a36:AV):Prop:=T.n=73∧T.get 0=a0∧T.get 2=a2∧T.get 4=a4∧T.get 5=a5∧T.get 36=a36
theorem f33_10_T_e(s:ByteArray)(c r b:Nat)(st:St)(n38:Int):((evS Tryz.prog E0 noOv noS 100000 [2038,7039] (f33P 10) ⟨73,[(0,(str s)),(2,(.ptr c 0)),(4,(.ptr r 0)),(5,(.ptr b 0))],[]⟩ st [.eff (i64 n38) id,.av TT]).map fun q=>(q.1,q.2.1.n,([q.2.1.get 0,q.2.1.get 2,q.2.1.get 4,q.2.1.get 5,q.2.1.get 36]:List AV),q.2.2.1,q.2.2.2.2))=some (.normal,73,[(str s),(.ptr c 0),(.ptr r 0),(.ptr b 0),TT],st,[loadA E0 st 3 (.ptr b 0)=some (i64 n38)∧st=st,binA E0 .eql 3 (i64 n38) (i64 5)=some TT]):=by kernel_rfl
theorem f33_10_T{s:ByteArray}{c r b:Nat}{st:St}{n38:Int}(h1:loadA E0 st 3 (.ptr b 0)=some (i64 n38))(h2:binA E0 .eql 3 (i64 n38) (i64 5)=some TT){T:Tm}(hT:f33L3 T (str s) (.ptr c 0) (.ptr r 0) (.ptr b 0)):AW Tryz.prog (f33P 10) (fun ex T' st'=>ex= .normal∧f33L8 T' (str s) (.ptr c 0) (.ptr r 0) (.ptr b 0) TT∧st'=st) T st:=by
  obtain ⟨hn,g0,g2,g4,g5⟩:=hT
  exact (gen_run (G:=fun T=>([T.get 0,T.get 2,T.get 4,T.get 5,T.get 36]:List AV)) hE (f33_10_T_e s c r b st n38) (Ob.ok_cons.2 ⟨⟨h1,rfl⟩,(Ob.ok_cons.2 ⟨h2,Ob.ok_nil⟩)⟩) hn (conz g0 (conz g2 (conz g4 (one g5))))).mono fun ex T' st' ⟨q1,q2,q3,q4⟩=>by simp only [List.cons.injEq,and_true] at q3;exact ⟨q1,⟨q2,q3⟩,q4⟩
theorem f33_10_F_e(s:ByteArray)(c r b:Nat)(st:St)(n38:Int):((evS Tryz.prog E0 noOv noS 100000 [2038,7039] (f33P 10) ⟨73,[(0,(str s)),(2,(.ptr c 0)),(4,(.ptr r 0)),(5,(.ptr b 0))],[]⟩ st [.eff (i64 n38) id,.av FF]).map fun q=>(q.1,q.2.1.n,([q.2.1.get 0,q.2.1.get 2,q.2.1.get 4,q.2.1.get 5,q.2.1.get 36]:List AV),q.2.2.1,q.2.2.2.2))=some (.normal,73,[(str s),(.ptr c 0),(.ptr r 0),(.ptr b 0),FF],st,[loadA E0 st 3 (.ptr b 0)=some (i64 n38)∧st=st,binA E0 .eql 3 (i64 n38) (i64 5)=some FF]):=by kernel_rfl
theorem f33_10_F{s:ByteArray}{c r b:Nat}{st:St}{n38:Int}(h1:loadA E0 st 3 (.ptr b 0)=some (i64 n38))(h2:binA E0 .eql 3 (i64 n38) (i64 5)=some FF){T:Tm}(hT:f33L3 T (str s) (.ptr c 0) (.ptr r 0) (.ptr b 0)):AW Tryz.prog (f33P 10) (fun ex T' st'=>ex= .normal∧f33L8 T' (str s) (.ptr c 0) (.ptr r 0) (.ptr b 0) FF∧st'=st) T st:=by
  obtain ⟨hn,g0,g2,g4,g5⟩:=hT
  exact (gen_run (G:=fun T=>([T.get 0,T.get 2,T.get 4,T.get 5,T.get 36]:List AV)) hE (f33_10_F_e s c r b st n38) (Ob.ok_cons.2 ⟨⟨h1,rfl⟩,(Ob.ok_cons.2 ⟨h2,Ob.ok_nil⟩)⟩) hn (conz g0 (conz g2 (conz g4 (one g5))))).mono fun ex T' st' ⟨q1,q2,q3,q4⟩=>by simp only [List.cons.injEq,and_true] at q3;exact ⟨q1,⟨q2,q3⟩,q4⟩
theorem f33_11_e(s:ByteArray)(c r b:Nat)(st s1 s2:St)(n41:Int):((evS Tryz.prog E0 noOv noS 100000 [5000,6050] (f33P 11) ⟨73,[(0,(str s)),(2,(.ptr c 0)),(4,(.ptr r 0)),(5,(.ptr b 0))],[]⟩ st [.eff (i64 n41) (fun _=>s1),.eff .undef (fun _=>s2)]).map fun q=>(q.1,q.2.1.n,([q.2.1.get 0,q.2.1.get 2,q.2.1.get 4,q.2.1.get 5]:List AV),q.2.2.1,q.2.2.2.2))=some (.normal,73,[(str s),(.ptr c 0),(.ptr r 0),(.ptr b 0)],s2,[obC 50 [(.ptr r 0)] st (i64 n41) s1,storeA E0 s1 3 (.ptr b 3) (i64 n41)=some s2]):=by kernel_rfl
theorem f33_11{s:ByteArray}{c r b:Nat}{st s1 s2:St}{n41:Int}(h1:obC 50 [(.ptr r 0)] st (i64 n41) s1)(h2:storeA E0 s1 3 (.ptr b 3) (i64 n41)=some s2){T:Tm}(hT:f33L3 T (str s) (.ptr c 0) (.ptr r 0) (.ptr b 0)):AW Tryz.prog (f33P 11) (fun ex T' st'=>ex= .normal∧f33L3 T' (str s) (.ptr c 0) (.ptr r 0) (.ptr b 0)∧st'=s2) T st:=by
  obtain ⟨hn,g0,g2,g4,g5⟩:=hT
  exact (gen_run (G:=fun T=>([T.get 0,T.get 2,T.get 4,T.get 5]:List AV)) hE (f33_11_e s c r b st s1 s2 n41) (Ob.ok_cons.2 ⟨h1,(Ob.ok_cons.2 ⟨h2,Ob.ok_nil⟩)⟩) hn (conz g0 (conz g2 (conz g4 (one g5))))).mono fun ex T' st' ⟨q1,q2,q3,q4⟩=>by simp only [List.cons.injEq,and_true] at q3;exact ⟨q1,⟨q2,q3⟩,q4⟩
def f33L9(T:Tm)(a0 a2 a4 a5 a43:AV):Prop:=T.n=73∧T.get 0=a0∧T.get 2=a2∧T.get 4=a4∧T.get 5=a5∧T.get 43=a43
theorem f33_12_T_e(s:ByteArray)(c r b:Nat)(st:St)(n45:Int):((evS Tryz.prog E0 noOv noS 100000 [2045,7046] (f33P 12) ⟨73,[(0,(str s)),(2,(.ptr c 0)),(4,(.ptr r 0)),(5,(.ptr b 0))],[]⟩ st [.eff (i64 n45) id,.av TT]).map fun q=>(q.1,q.2.1.n,([q.2.1.get 0,q.2.1.get 2,q.2.1.get 4,q.2.1.get 5,q.2.1.get 43]:List AV),q.2.2.1,q.2.2.2.2))=some (.normal,73,[(str s),(.ptr c 0),(.ptr r 0),(.ptr b 0),TT],st,[loadA E0 st 3 (.ptr b 0)=some (i64 n45)∧st=st,binA E0 .eql 3 (i64 n45) (i64 2)=some TT]):=by kernel_rfl
theorem f33_12_T{s:ByteArray}{c r b:Nat}{st:St}{n45:Int}(h1:loadA E0 st 3 (.ptr b 0)=some (i64 n45))(h2:binA E0 .eql 3 (i64 n45) (i64 2)=some TT){T:Tm}(hT:f33L3 T (str s) (.ptr c 0) (.ptr r 0) (.ptr b 0)):AW Tryz.prog (f33P 12) (fun ex T' st'=>ex= .normal∧f33L9 T' (str s) (.ptr c 0) (.ptr r 0) (.ptr b 0) TT∧st'=st) T st:=by
  obtain ⟨hn,g0,g2,g4,g5⟩:=hT
  exact (gen_run (G:=fun T=>([T.get 0,T.get 2,T.get 4,T.get 5,T.get 43]:List AV)) hE (f33_12_T_e s c r b st n45) (Ob.ok_cons.2 ⟨⟨h1,rfl⟩,(Ob.ok_cons.2 ⟨h2,Ob.ok_nil⟩)⟩) hn (conz g0 (conz g2 (conz g4 (one g5))))).mono fun ex T' st' ⟨q1,q2,q3,q4⟩=>by simp only [List.cons.injEq,and_true] at q3;exact ⟨q1,⟨q2,q3⟩,q4⟩
theorem f33_12_F_e(s:ByteArray)(c r b:Nat)(st:St)(n45:Int):((evS Tryz.prog E0 noOv noS 100000 [2045,7046] (f33P 12) ⟨73,[(0,(str s)),(2,(.ptr c 0)),(4,(.ptr r 0)),(5,(.ptr b 0))],[]⟩ st [.eff (i64 n45) id,.av FF]).map fun q=>(q.1,q.2.1.n,([q.2.1.get 0,q.2.1.get 2,q.2.1.get 4,q.2.1.get 5,q.2.1.get 43]:List AV),q.2.2.1,q.2.2.2.2))=some (.normal,73,[(str s),(.ptr c 0),(.ptr r 0),(.ptr b 0),FF],st,[loadA E0 st 3 (.ptr b 0)=some (i64 n45)∧st=st,binA E0 .eql 3 (i64 n45) (i64 2)=some FF]):=by kernel_rfl
theorem f33_12_F{s:ByteArray}{c r b:Nat}{st:St}{n45:Int}(h1:loadA E0 st 3 (.ptr b 0)=some (i64 n45))(h2:binA E0 .eql 3 (i64 n45) (i64 2)=some FF){T:Tm}(hT:f33L3 T (str s) (.ptr c 0) (.ptr r 0) (.ptr b 0)):AW Tryz.prog (f33P 12) (fun ex T' st'=>ex= .normal∧f33L9 T' (str s) (.ptr c 0) (.ptr r 0) (.ptr b 0) FF∧st'=st) T st:=by
  obtain ⟨hn,g0,g2,g4,g5⟩:=hT
  exact (gen_run (G:=fun T=>([T.get 0,T.get 2,T.get 4,T.get 5,T.get 43]:List AV)) hE (f33_12_F_e s c r b st n45) (Ob.ok_cons.2 ⟨⟨h1,rfl⟩,(Ob.ok_cons.2 ⟨h2,Ob.ok_nil⟩)⟩) hn (conz g0 (conz g2 (conz g4 (one g5))))).mono fun ex T' st' ⟨q1,q2,q3,q4⟩=>by simp only [List.cons.injEq,and_true] at q3;exact ⟨q1,⟨q2,q3⟩,q4⟩
theorem f33_13_e(s:ByteArray)(c r b:Nat)(st s1 s2:St)(v48:AV):((evS Tryz.prog E0 noOv noS 100000 [5000,6053] (f33P 13) ⟨73,[(0,(str s)),(2,(.ptr c 0)),(4,(.ptr r 0)),(5,(.ptr b 0))],[]⟩ st [.eff v48 (fun _=>s1),.eff .undef (fun _=>s2)]).map fun q=>(q.1,q.2.1.n,([q.2.1.get 0,q.2.1.get 2,q.2.1.get 4,q.2.1.get 5]:List AV),q.2.2.1,q.2.2.2.2))=some (.normal,73,[(str s),(.ptr c 0),(.ptr r 0),(.ptr b 0)],s2,[obC 53 [(.ptr r 0)] st v48 s1,storeA E0 s1 51 (.ptr b 4) v48=some s2]):=by kernel_rfl
theorem f33_13{s:ByteArray}{c r b:Nat}{st s1 s2:St}{v48:AV}(h1:obC 53 [(.ptr r 0)] st v48 s1)(h2:storeA E0 s1 51 (.ptr b 4) v48=some s2){T:Tm}(hT:f33L3 T (str s) (.ptr c 0) (.ptr r 0) (.ptr b 0)):AW Tryz.prog (f33P 13) (fun ex T' st'=>ex= .normal∧f33L3 T' (str s) (.ptr c 0) (.ptr r 0) (.ptr b 0)∧st'=s2) T st:=by
  obtain ⟨hn,g0,g2,g4,g5⟩:=hT
  exact (gen_run (G:=fun T=>([T.get 0,T.get 2,T.get 4,T.get 5]:List AV)) hE (f33_13_e s c r b st s1 s2 v48) (Ob.ok_cons.2 ⟨h1,(Ob.ok_cons.2 ⟨h2,Ob.ok_nil⟩)⟩) hn (conz g0 (conz g2 (conz g4 (one g5))))).mono fun ex T' st' ⟨q1,q2,q3,q4⟩=>by simp only [List.cons.injEq,and_true] at q3;exact ⟨q1,⟨q2,q3⟩,q4⟩
theorem f33_14_T_e(s w51:ByteArray)(c r b:Nat)(st s1 s2:St):((evS Tryz.prog E0 noOv noS 100000 [5000,6060,7052] (f33P 14) ⟨73,[(0,(str s)),(2,(.ptr c 0)),(4,(.ptr r 0)),(5,(.ptr b 0))],[]⟩ st [.eff (str w51) (fun _=>s1),.av TT,.eff .undef (fun _=>s2)]).map fun q=>(q.1,q.2.1.n,([q.2.1.get 0,q.2.1.get 2,q.2.1.get 4,q.2.1.get 5]:List AV),q.2.2.1,q.2.2.2.2))=some (.normal,73,[(str s),(.ptr c 0),(.ptr r 0),(.ptr b 0)],s2,[obC 60 [(.ptr r 0)] st (str w51) s1,binA E0 .eql 9 (str w51) (str ⟨#[101,110,100,101,100]⟩)=some TT,storeA E0 s1 4 (.ptr b 5) TT=some s2]):=by kernel_rfl
theorem f33_14_T{s w51:ByteArray}{c r b:Nat}{st s1 s2:St}(h1:obC 60 [(.ptr r 0)] st (str w51) s1)(h2:binA E0 .eql 9 (str w51) (str ⟨#[101,110,100,101,100]⟩)=some TT)(h3:storeA E0 s1 4 (.ptr b 5) TT=some s2){T:Tm}(hT:f33L3 T (str s) (.ptr c 0) (.ptr r 0) (.ptr b 0)):AW Tryz.prog (f33P 14) (fun ex T' st'=>ex= .normal∧f33L3 T' (str s) (.ptr c 0) (.ptr r 0) (.ptr b 0)∧st'=s2) T st:=by
  obtain ⟨hn,g0,g2,g4,g5⟩:=hT
  exact (gen_run (G:=fun T=>([T.get 0,T.get 2,T.get 4,T.get 5]:List AV)) hE (f33_14_T_e s w51 c r b st s1 s2) (Ob.ok_cons.2 ⟨h1,(Ob.ok_cons.2 ⟨h2,(Ob.ok_cons.2 ⟨h3,Ob.ok_nil⟩)⟩)⟩) hn (conz g0 (conz g2 (conz g4 (one g5))))).mono fun ex T' st' ⟨q1,q2,q3,q4⟩=>by simp only [List.cons.injEq,and_true] at q3;exact ⟨q1,⟨q2,q3⟩,q4⟩
theorem f33_14_F_e(s w51:ByteArray)(c r b:Nat)(st s1 s2:St):((evS Tryz.prog E0 noOv noS 100000 [5000,6060,7052] (f33P 14) ⟨73,[(0,(str s)),(2,(.ptr c 0)),(4,(.ptr r 0)),(5,(.ptr b 0))],[]⟩ st [.eff (str w51) (fun _=>s1),.av FF,.eff .undef (fun _=>s2)]).map fun q=>(q.1,q.2.1.n,([q.2.1.get 0,q.2.1.get 2,q.2.1.get 4,q.2.1.get 5]:List AV),q.2.2.1,q.2.2.2.2))=some (.normal,73,[(str s),(.ptr c 0),(.ptr r 0),(.ptr b 0)],s2,[obC 60 [(.ptr r 0)] st (str w51) s1,binA E0 .eql 9 (str w51) (str ⟨#[101,110,100,101,100]⟩)=some FF,storeA E0 s1 4 (.ptr b 5) FF=some s2]):=by kernel_rfl
theorem f33_14_F{s w51:ByteArray}{c r b:Nat}{st s1 s2:St}(h1:obC 60 [(.ptr r 0)] st (str w51) s1)(h2:binA E0 .eql 9 (str w51) (str ⟨#[101,110,100,101,100]⟩)=some FF)(h3:storeA E0 s1 4 (.ptr b 5) FF=some s2){T:Tm}(hT:f33L3 T (str s) (.ptr c 0) (.ptr r 0) (.ptr b 0)):AW Tryz.prog (f33P 14) (fun ex T' st'=>ex= .normal∧f33L3 T' (str s) (.ptr c 0) (.ptr r 0) (.ptr b 0)∧st'=s2) T st:=by
  obtain ⟨hn,g0,g2,g4,g5⟩:=hT
  exact (gen_run (G:=fun T=>([T.get 0,T.get 2,T.get 4,T.get 5]:List AV)) hE (f33_14_F_e s w51 c r b st s1 s2) (Ob.ok_cons.2 ⟨h1,(Ob.ok_cons.2 ⟨h2,(Ob.ok_cons.2 ⟨h3,Ob.ok_nil⟩)⟩)⟩) hn (conz g0 (conz g2 (conz g4 (one g5))))).mono fun ex T' st' ⟨q1,q2,q3,q4⟩=>by simp only [List.cons.injEq,and_true] at q3;exact ⟨q1,⟨q2,q3⟩,q4⟩
def f33L10(T:Tm)(a0 a2 a4 a5 a7 a8:AV):Prop:=T.n=73∧T.get 0=a0∧T.get 2=a2∧T.get 4=a4∧T.get 5=a5∧T.get 7=a7∧T.get 8=a8
theorem f33_16_e(s w56a:ByteArray)(c r b:Nat)(st s1:St)(v55:AV)(b56b:Bool):((evS Tryz.prog E0 noOv noS 100000 [2055,6030] (f33P 16) ⟨73,[(0,(str s)),(2,(.ptr c 0)),(4,(.ptr r 0)),(5,(.ptr b 0))],[]⟩ st [.eff v55 id,.eff (.tup [(str w56a),(bo b56b)]) (fun _=>s1)]).map fun q=>(q.1,q.2.1.n,([q.2.1.get 0,q.2.1.get 2,q.2.1.get 4,q.2.1.get 5,q.2.1.get 7,q.2.1.get 8]:List AV),q.2.2.1,q.2.2.2.2))=some (.normal,73,[(str s),(.ptr c 0),(.ptr r 0),(.ptr b 0),(str w56a),(bo b56b)],s1,[loadA E0 st 70 (.ptr b 0)=some v55∧st=st,obC 30 [v55] st (.tup [(str w56a),(bo b56b)]) s1]):=by kernel_rfl
theorem f33_16{s w56a:ByteArray}{c r b:Nat}{st s1:St}{v55:AV}{b56b:Bool}(h1:loadA E0 st 70 (.ptr b 0)=some v55)(h2:obC 30 [v55] st (.tup [(str w56a),(bo b56b)]) s1){T:Tm}(hT:f33L3 T (str s) (.ptr c 0) (.ptr r 0) (.ptr b 0)):AW Tryz.prog (f33P 16) (fun ex T' st'=>ex= .normal∧f33L10 T' (str s) (.ptr c 0) (.ptr r 0) (.ptr b 0) (str w56a) (bo b56b)∧st'=s1) T st:=by
  obtain ⟨hn,g0,g2,g4,g5⟩:=hT
  exact (gen_run (G:=fun T=>([T.get 0,T.get 2,T.get 4,T.get 5,T.get 7,T.get 8]:List AV)) hE (f33_16_e s w56a c r b st s1 v55 b56b) (Ob.ok_cons.2 ⟨⟨h1,rfl⟩,(Ob.ok_cons.2 ⟨h2,Ob.ok_nil⟩)⟩) hn (conz g0 (conz g2 (conz g4 (one g5))))).mono fun ex T' st' ⟨q1,q2,q3,q4⟩=>by simp only [List.cons.injEq,and_true] at q3;exact ⟨q1,⟨q2,q3⟩,q4⟩
def f33L11(T:Tm)(a2 a3:AV):Prop:=T.n=73∧T.get 2=a2∧T.get 3=a3
theorem f33_17_T_e(s u:ByteArray)(c r b:Nat)(ok:Bool)(st s1:St)(v59:AV):((evS Tryz.prog E0 noOv noS 100000 [5000,7071,8000] (f33P 17) ⟨73,[(0,(str s)),(2,(.ptr c 0)),(4,(.ptr r 0)),(5,(.ptr b 0)),(7,(str u)),(8,(bo ok))],[]⟩ st [.eff v59 id,.eff TT id,.eff (.tup []) (fun _=>s1)]).map fun q=>(q.1,q.2.1.n,([q.2.1.get 2,q.2.1.get 3]:List AV),q.2.2.1,q.2.2.2.2))=some (.normal,73,[(.ptr c 0),FF],s1.show st [b,r],[∀k∈ [b,r],k<st.next,[b,r].contains b=true∧loadA E0 st 70 (.ptr b 0)=some v59,[b,r].contains r=true∧loadA E0 st 4 (.ptr r 1)=some TT,(true=true→ [b,r].all (fun k=>(st.get k).isSome)=true),storeA E0 (st.hide [b,r]) 70 (.ptr c 0) v59=some s1]):=by kernel_rfl
theorem f33_17_T{s u:ByteArray}{c r b:Nat}{ok:Bool}{st s1:St}{v59:AV}(h1:∀k∈ [b,r],k<st.next)(h2:loadA E0 st 70 (.ptr b 0)=some v59)(h3:loadA E0 st 4 (.ptr r 1)=some TT)(h4: [b,r].all (fun k=>(st.get k).isSome)=true)(h5:storeA E0 (st.hide [b,r]) 70 (.ptr c 0) v59=some s1){T:Tm}(hT:f33L10 T (str s) (.ptr c 0) (.ptr r 0) (.ptr b 0) (str u) (bo ok)):AW Tryz.prog (f33P 17) (fun ex T' st'=>ex= .normal∧f33L11 T' (.ptr c 0) FF∧st'=(s1.show st [b,r])) T st:=by
  obtain ⟨hn,g0,g2,g4,g5,g7,g8⟩:=hT
  exact (gen_run (G:=fun T=>([T.get 2,T.get 3]:List AV)) hE (f33_17_T_e s u c r b ok st s1 v59) (Ob.ok_cons.2 ⟨h1,(Ob.ok_cons.2 ⟨⟨by simp,h2⟩,(Ob.ok_cons.2 ⟨⟨by simp,h3⟩,(Ob.ok_cons.2 ⟨(fun _=>h4),(Ob.ok_cons.2 ⟨h5,Ob.ok_nil⟩)⟩)⟩)⟩)⟩) hn (conz g0 (conz g2 (conz g4 (conz g5 (conz g7 (one g8))))))).mono fun ex T' st' ⟨q1,q2,q3,q4⟩=>by simp only [List.cons.injEq,and_true] at q3;exact ⟨q1,⟨q2,q3⟩,q4⟩
theorem f33_17_FTT_e(s u:ByteArray)(c r b:Nat)(st s1:St)(v59:AV):((evS Tryz.prog E0 noOv noS 100000 [5000,7071,8000] (f33P 17) ⟨73,[(0,(str s)),(2,(.ptr c 0)),(4,(.ptr r 0)),(5,(.ptr b 0)),(7,(str u)),(8,TT)],[]⟩ st [.eff v59 id,.eff FF id,.eff TT id,.eff (.tup []) (fun _=>s1)]).map fun q=>(q.1,q.2.1.n,([q.2.1.get 2,q.2.1.get 3]:List AV),q.2.2.1,q.2.2.2.2))=some (.normal,73,[(.ptr c 0),TT],s1.show st [b,r],[∀k∈ [b,r],k<st.next,[b,r].contains b=true∧loadA E0 st 70 (.ptr b 0)=some v59,[b,r].contains r=true∧loadA E0 st 4 (.ptr r 1)=some FF,binA E0 .eql 9 (str u) (str s)=some TT,(true=true→ [b,r].all (fun k=>(st.get k).isSome)=true),storeA E0 (st.hide [b,r]) 70 (.ptr c 0) v59=some s1]):=by kernel_rfl
theorem f33_17_FTT{s u:ByteArray}{c r b:Nat}{st s1:St}{v59:AV}(h1:∀k∈ [b,r],k<st.next)(h2:loadA E0 st 70 (.ptr b 0)=some v59)(h3:loadA E0 st 4 (.ptr r 1)=some FF)(h4:binA E0 .eql 9 (str u) (str s)=some TT)(h5: [b,r].all (fun k=>(st.get k).isSome)=true)(h6:storeA E0 (st.hide [b,r]) 70 (.ptr c 0) v59=some s1){T:Tm}(hT:f33L10 T (str s) (.ptr c 0) (.ptr r 0) (.ptr b 0) (str u) TT):AW Tryz.prog (f33P 17) (fun ex T' st'=>ex= .normal∧f33L11 T' (.ptr c 0) TT∧st'=(s1.show st [b,r])) T st:=by
  obtain ⟨hn,g0,g2,g4,g5,g7,g8⟩:=hT
  exact (gen_run (G:=fun T=>([T.get 2,T.get 3]:List AV)) hE (f33_17_FTT_e s u c r b st s1 v59) (Ob.ok_cons.2 ⟨h1,(Ob.ok_cons.2 ⟨⟨by simp,h2⟩,(Ob.ok_cons.2 ⟨⟨by simp,h3⟩,(Ob.ok_cons.2 ⟨h4,(Ob.ok_cons.2 ⟨(fun _=>h5),(Ob.ok_cons.2 ⟨h6,Ob.ok_nil⟩)⟩)⟩)⟩)⟩)⟩) hn (conz g0 (conz g2 (conz g4 (conz g5 (conz g7 (one g8))))))).mono fun ex T' st' ⟨q1,q2,q3,q4⟩=>by simp only [List.cons.injEq,and_true] at q3;exact ⟨q1,⟨q2,q3⟩,q4⟩
theorem f33_17_FTF_e(s u:ByteArray)(c r b:Nat)(st s1:St)(v59:AV):((evS Tryz.prog E0 noOv noS 100000 [5000,7071,8000] (f33P 17) ⟨73,[(0,(str s)),(2,(.ptr c 0)),(4,(.ptr r 0)),(5,(.ptr b 0)),(7,(str u)),(8,TT)],[]⟩ st [.eff v59 id,.eff FF id,.eff FF id,.eff (.tup []) (fun _=>s1)]).map fun q=>(q.1,q.2.1.n,([q.2.1.get 2,q.2.1.get 3]:List AV),q.2.2.1,q.2.2.2.2))=some (.normal,73,[(.ptr c 0),FF],s1.show st [b,r],[∀k∈ [b,r],k<st.next,[b,r].contains b=true∧loadA E0 st 70 (.ptr b 0)=some v59,[b,r].contains r=true∧loadA E0 st 4 (.ptr r 1)=some FF,binA E0 .eql 9 (str u) (str s)=some FF,(true=true→ [b,r].all (fun k=>(st.get k).isSome)=true),storeA E0 (st.hide [b,r]) 70 (.ptr c 0) v59=some s1]):=by kernel_rfl
theorem f33_17_FTF{s u:ByteArray}{c r b:Nat}{st s1:St}{v59:AV}(h1:∀k∈ [b,r],k<st.next)(h2:loadA E0 st 70 (.ptr b 0)=some v59)(h3:loadA E0 st 4 (.ptr r 1)=some FF)(h4:binA E0 .eql 9 (str u) (str s)=some FF)(h5: [b,r].all (fun k=>(st.get k).isSome)=true)(h6:storeA E0 (st.hide [b,r]) 70 (.ptr c 0) v59=some s1){T:Tm}(hT:f33L10 T (str s) (.ptr c 0) (.ptr r 0) (.ptr b 0) (str u) TT):AW Tryz.prog (f33P 17) (fun ex T' st'=>ex= .normal∧f33L11 T' (.ptr c 0) FF∧st'=(s1.show st [b,r])) T st:=by
  obtain ⟨hn,g0,g2,g4,g5,g7,g8⟩:=hT
  exact (gen_run (G:=fun T=>([T.get 2,T.get 3]:List AV)) hE (f33_17_FTF_e s u c r b st s1 v59) (Ob.ok_cons.2 ⟨h1,(Ob.ok_cons.2 ⟨⟨by simp,h2⟩,(Ob.ok_cons.2 ⟨⟨by simp,h3⟩,(Ob.ok_cons.2 ⟨h4,(Ob.ok_cons.2 ⟨(fun _=>h5),(Ob.ok_cons.2 ⟨h6,Ob.ok_nil⟩)⟩)⟩)⟩)⟩)⟩) hn (conz g0 (conz g2 (conz g4 (conz g5 (conz g7 (one g8))))))).mono fun ex T' st' ⟨q1,q2,q3,q4⟩=>by simp only [List.cons.injEq,and_true] at q3;exact ⟨q1,⟨q2,q3⟩,q4⟩
theorem f33_17_FF_e(s u:ByteArray)(c r b:Nat)(st s1:St)(v59:AV):((evS Tryz.prog E0 noOv noS 100000 [5000,7071,8000] (f33P 17) ⟨73,[(0,(str s)),(2,(.ptr c 0)),(4,(.ptr r 0)),(5,(.ptr b 0)),(7,(str u)),(8,FF)],[]⟩ st [.eff v59 id,.eff FF id,.eff (.tup []) (fun _=>s1)]).map fun q=>(q.1,q.2.1.n,([q.2.1.get 2,q.2.1.get 3]:List AV),q.2.2.1,q.2.2.2.2))=some (.normal,73,[(.ptr c 0),FF],s1.show st [b,r],[∀k∈ [b,r],k<st.next,[b,r].contains b=true∧loadA E0 st 70 (.ptr b 0)=some v59,[b,r].contains r=true∧loadA E0 st 4 (.ptr r 1)=some FF,(true=true→ [b,r].all (fun k=>(st.get k).isSome)=true),storeA E0 (st.hide [b,r]) 70 (.ptr c 0) v59=some s1]):=by kernel_rfl
theorem f33_17_FF{s u:ByteArray}{c r b:Nat}{st s1:St}{v59:AV}(h1:∀k∈ [b,r],k<st.next)(h2:loadA E0 st 70 (.ptr b 0)=some v59)(h3:loadA E0 st 4 (.ptr r 1)=some FF)(h4: [b,r].all (fun k=>(st.get k).isSome)=true)(h5:storeA E0 (st.hide [b,r]) 70 (.ptr c 0) v59=some s1){T:Tm}(hT:f33L10 T (str s) (.ptr c 0) (.ptr r 0) (.ptr b 0) (str u) FF):AW Tryz.prog (f33P 17) (fun ex T' st'=>ex= .normal∧f33L11 T' (.ptr c 0) FF∧st'=(s1.show st [b,r])) T st:=by
  obtain ⟨hn,g0,g2,g4,g5,g7,g8⟩:=hT
  exact (gen_run (G:=fun T=>([T.get 2,T.get 3]:List AV)) hE (f33_17_FF_e s u c r b st s1 v59) (Ob.ok_cons.2 ⟨h1,(Ob.ok_cons.2 ⟨⟨by simp,h2⟩,(Ob.ok_cons.2 ⟨⟨by simp,h3⟩,(Ob.ok_cons.2 ⟨(fun _=>h4),(Ob.ok_cons.2 ⟨h5,Ob.ok_nil⟩)⟩)⟩)⟩)⟩) hn (conz g0 (conz g2 (conz g4 (conz g5 (conz g7 (one g8))))))).mono fun ex T' st' ⟨q1,q2,q3,q4⟩=>by simp only [List.cons.injEq,and_true] at q3;exact ⟨q1,⟨q2,q3⟩,q4⟩
end
section
set_option maxRecDepth 100000
open Go.RowKit Go.Shelf
/-! ### strconv.Atoi, by the shelf's contract -/
def Tryz.atoi71_ren:Go.Shelf.Ren:=⟨fun|172=>71|244=>82|245=>83|247=>96|279=>97|280=>98|281=>99|282=>100|287=>111|316=>112|171=>40|205=>113|321=>120|322=>121|243=>66|246=>80|283=>92|284=>93|285=>94|286=>95|129=>107|317=>106|318=>108|319=>109|320=>110|337=>118|338=>119|n=>n,fun|9=>9|3=>3|75=>85|76=>86|4=>4|5=>5|167=>135|37=>51|0=>0|85=>136|2=>2|168=>138|53=>114|175=>152|46=>108|210=>156|127=>110|145=>162|143=>160|21=>21|171=>130|173=>133|212=>147|51=>148|20=>20|213=>149|232=>169|233=>170|80=>89|n=>n,fun|15=>2|16=>3|17=>1|18=>6|19=>7|n=>n⟩
theorem Tryz.atoi71:Go.Proofs.LaysC.n172 Tryz.prog Tryz.atoi71_ren:={
  mixed:=by kernel_rfl
  f129:=Tryz.func107.trans (congrArg some (by kernel_rfl))
  f171:=Tryz.func40.trans (congrArg some (by kernel_rfl))
  f172:=Tryz.func71.trans (congrArg some (by kernel_rfl))
  f205:=Tryz.func113.trans (congrArg some (by kernel_rfl))
  f243:=Tryz.func66.trans (congrArg some (by kernel_rfl))
  f244:=Tryz.func82.trans (congrArg some (by kernel_rfl))
  f245:=Tryz.func83.trans (congrArg some (by kernel_rfl))
  f246:=Tryz.func80.trans (congrArg some (by kernel_rfl))
  f247:=Tryz.func96.trans (congrArg some (by kernel_rfl))
  f279:=Tryz.func97.trans (congrArg some (by kernel_rfl))
  f280:=Tryz.func98.trans (congrArg some (by kernel_rfl))
  f281:=Tryz.func99.trans (congrArg some (by kernel_rfl))
  f282:=Tryz.func100.trans (congrArg some (by kernel_rfl))
  f283:=Tryz.func92.trans (congrArg some (by kernel_rfl))
  f284:=Tryz.func93.trans (congrArg some (by kernel_rfl))
  f285:=Tryz.func94.trans (congrArg some (by kernel_rfl))
  f286:=Tryz.func95.trans (congrArg some (by kernel_rfl))
  f287:=Tryz.func111.trans (congrArg some (by kernel_rfl))
  f316:=Tryz.func112.trans (congrArg some (by kernel_rfl))
  f317:=Tryz.func106.trans (congrArg some (by kernel_rfl))
  f318:=Tryz.func108.trans (congrArg some (by kernel_rfl))
  f319:=Tryz.func109.trans (congrArg some (by kernel_rfl))
  f320:=Tryz.func110.trans (congrArg some (by kernel_rfl))
  f321:=Tryz.func120.trans (congrArg some (by kernel_rfl))
  f322:=Tryz.func121.trans (congrArg some (by kernel_rfl))
  f337:=Tryz.func118.trans (congrArg some (by kernel_rfl))
  f338:=Tryz.func119.trans (congrArg some (by kernel_rfl))
  t0:=Tryz.underlying0
  a0:=Tryz.isAgg0
  z0:=Tryz.sizeOf0
  v0:=Tryz.zeroValue0
  t2:=Tryz.underlying2
  a2:=Tryz.isAgg2
  z2:=Tryz.sizeOf2
  v2:=Tryz.zeroValue2
  t3:=Tryz.underlying3
  a3:=Tryz.isAgg3
  z3:=Tryz.sizeOf3
  v3:=Tryz.zeroValue3
  t4:=Tryz.underlying4
  a4:=Tryz.isAgg4
  z4:=Tryz.sizeOf4
  v4:=Tryz.zeroValue4
  t5:=Tryz.underlying5
  a5:=Tryz.isAgg5
  z5:=Tryz.sizeOf5
  v5:=Tryz.zeroValue5
  t9:=Tryz.underlying9
  a9:=Tryz.isAgg9
  z9:=Tryz.sizeOf9
  v9:=Tryz.zeroValue9
  t20:=Tryz.underlying20
  a20:=Tryz.isAgg20
  z20:=Tryz.sizeOf20
  v20:=Tryz.zeroValue20
  t21:=Tryz.underlying21
  a21:=Tryz.isAgg21
  z21:=Tryz.sizeOf21
  v21:=Tryz.zeroValue21
  t37:=Tryz.underlying51
  a37:=Tryz.isAgg51
  z37:=Tryz.sizeOf51
  v37:=Tryz.zeroValue51
  t46:=Tryz.underlying108
  a46:=Tryz.isAgg108
  z46:=Tryz.sizeOf108
  v46:=Tryz.zeroValue108
  t51:=Tryz.underlying148
  a51:=Tryz.isAgg148
  z51:=Tryz.sizeOf148
  v51:=Tryz.zeroValue148
  t53:=Tryz.underlying114
  a53:=Tryz.isAgg114
  z53:=Tryz.sizeOf114
  v53:=Tryz.zeroValue114
  t75:=Tryz.underlying85
  a75:=Tryz.isAgg85
  z75:=Tryz.sizeOf85
  v75:=Tryz.zeroValue85
  t76:=Tryz.underlying86
  a76:=Tryz.isAgg86
  z76:=Tryz.sizeOf86
  v76:=Tryz.zeroValue86
  t85:=Tryz.underlying136
  a85:=Tryz.isAgg136
  z85:=Tryz.sizeOf136
  v85:=Tryz.zeroValue136
  t127:=Tryz.underlying110
  a127:=Tryz.isAgg110
  z127:=Tryz.sizeOf110
  v127:=Tryz.zeroValue110
  t143:=Tryz.underlying160
  a143:=Tryz.isAgg160
  z143:=Tryz.sizeOf160
  v143:=Tryz.zeroValue160
  t145:=Tryz.underlying162
  a145:=Tryz.isAgg162
  z145:=Tryz.sizeOf162
  v145:=Tryz.zeroValue162
  t167:=Tryz.underlying135
  a167:=Tryz.isAgg135
  z167:=Tryz.sizeOf135
  v167:=Tryz.zeroValue135
  t168:=Tryz.underlying138
  a168:=Tryz.isAgg138
  z168:=Tryz.sizeOf138
  v168:=Tryz.zeroValue138
  t171:=Tryz.underlying130
  a171:=Tryz.isAgg130
  z171:=Tryz.sizeOf130
  v171:=Tryz.zeroValue130
  t173:=Tryz.underlying133
  a173:=Tryz.isAgg133
  z173:=Tryz.sizeOf133
  v173:=Tryz.zeroValue133
  t175:=Tryz.underlying152
  a175:=Tryz.isAgg152
  z175:=Tryz.sizeOf152
  v175:=Tryz.zeroValue152
  t210:=Tryz.underlying156
  a210:=Tryz.isAgg156
  z210:=Tryz.sizeOf156
  v210:=Tryz.zeroValue156
  t212:=Tryz.underlying147
  a212:=Tryz.isAgg147
  z212:=Tryz.sizeOf147
  v212:=Tryz.zeroValue147
  t213:=Tryz.underlying149
  a213:=Tryz.isAgg149
  z213:=Tryz.sizeOf149
  t232:=Tryz.underlying169
  a232:=Tryz.isAgg169
  z232:=Tryz.sizeOf169
  v232:=Tryz.zeroValue169
  t233:=Tryz.underlying170
  a233:=Tryz.isAgg170
  z233:=Tryz.sizeOf170
  v233:=Tryz.zeroValue170
  g15:=by kernel_rfl
  g16:=by kernel_rfl
  g17:=by kernel_rfl
  g18:=by kernel_rfl
  g19:=by kernel_rfl
  t80:=Tryz.underlying89
  a80:=Tryz.isAgg89
  z80:=Tryz.sizeOf89
  v80:=Tryz.zeroValue89
  i0:=by kernel_rfl
  i2:=by kernel_rfl
  i3:=by kernel_rfl
  i4:=by kernel_rfl
  i5:=by kernel_rfl
  i9:=by kernel_rfl
  i20:=by kernel_rfl
  i21:=by kernel_rfl
  i37:=by kernel_rfl
  i46:=by kernel_rfl
  i51:=by kernel_rfl
  i53:=by kernel_rfl
  i75:=by kernel_rfl
  i76:=by kernel_rfl
  i80:=by kernel_rfl
  i85:=by kernel_rfl
  i127:=by kernel_rfl
  i143:=by kernel_rfl
  i145:=by kernel_rfl
  i167:=by kernel_rfl
  i168:=by kernel_rfl
  i171:=by kernel_rfl
  i173:=by kernel_rfl
  i175:=by kernel_rfl
  i210:=by kernel_rfl
  i212:=by kernel_rfl
  i232:=by kernel_rfl
  i233:=by kernel_rfl
  m15:=by kernel_rfl
  m16:=by kernel_rfl
  m17:=by kernel_rfl
  m18:=by kernel_rfl
  m19:=by kernel_rfl
  c0:=by kernel_rfl
  c2:=by kernel_rfl
  c3:=by kernel_rfl
  c4:=by kernel_rfl
  c5:=by kernel_rfl
  c9:=by kernel_rfl
  c20:=by kernel_rfl
  c21:=by kernel_rfl
  c37:=by kernel_rfl
  c46:=by kernel_rfl
  c51:=by kernel_rfl
  c53:=by kernel_rfl
  c75:=by kernel_rfl
  c76:=by kernel_rfl
  c80:=by kernel_rfl
  c85:=by kernel_rfl
  c127:=by kernel_rfl
  c143:=by kernel_rfl
  c145:=by kernel_rfl
  c167:=by kernel_rfl
  c168:=by kernel_rfl
  c171:=by kernel_rfl
  c173:=by kernel_rfl
  c175:=by kernel_rfl
  c210:=by kernel_rfl
  c212:=by kernel_rfl
  c213:=by kernel_rfl
  c232:=by kernel_rfl
  c233:=by kernel_rfl}
/-- the two errors' variables hold errors -/
def ErrV(st:St):Prop:=(∃t,(2,[.ifc t .undef])∈st.gl)∧∃t,(3,[.ifc t .undef])∈st.gl
theorem ErrV.rest{a b:St}(h:ErrV a){S:List Nat}(k:Rest a b S):ErrV b:=by
  unfold ErrV
  rw [k.gl];exact h
theorem var_cell{g:G}{st:St}{w:World}(hok:OK g st w){i:Nat}{t:TypeId}(h:(i,[.ifc t .undef])∈st.gl):∃p,w.cell? ⟨i,0,none⟩=some (.iface t p):=by
  obtain ⟨h1,h23,_⟩:=hok.glob _ h
  obtain ⟨h2,h3⟩:=h23 (by simp)
  obtain ⟨cs,T,fr,h4,h5⟩:=hok.imm i h2
  cases h1 with
  |iptr _ us A hu hx h1 hA=>
    obtain ⟨_,hpre⟩:=hA
    have hpre:us<+:(g.M i).drop 0:=hpre
    rw [List.drop_zero] at hpre
    have hlen:us.length=(g.M i).length:=by rw [hu];exact h3.symm
    have he:us=g.M i:=hpre.eq_of_length hlen
    match us,hu,hx,he with
    | [u],_,hx,he=>
      have:=hx 0 (by simp)
      simp only [List.getD_cons_zero] at this
      cases this with
      |ifc _ _ v _=>
        refine ⟨v,?_⟩
        have hcs:cs.toList= [.iface t v]:=by rw [←h5,←he]
        have hcs2:cs= #[.iface t v]:=Array.ext' (by simpa using hcs)
        simp [World.cell?,h4,hcs2]
/-- what a part's reading as a number comes to -/
def numR(p:List UInt8):Int×Bool:=match Lib.atoiAll p with
  | .ok v=>(v,false)
  | .range=>(Lib.atoiSat p,true)
  |_=>(0,true)
theorem numR_I64(p:List UInt8):I64 (numR p).1:=by
  unfold numR
  split
  · rename_i v h;exact Lib.atoiAll_bounds h
  · exact Lib.atoiSat_bounds p
  · exact ⟨by decide,by decide⟩
theorem atoi_ok{st:St}(hE:ErrV st){p:List UInt8}(hp:p.length≤100000000000):obC 71 [sb p] st (.tup [i64 (numR p).1,if (numR p).2 then .ifc 138 .undef else .nili]) st:=by
  obtain ⟨⟨t1,e1⟩,t2,e2⟩:=hE
  intro g w us hok hv
  rw [vals1 hv]
  have hsz:(⟨p.toArray⟩:ByteArray).size=p.length:=rfl
  have hd:(⟨p.toArray⟩:ByteArray).data.toList=p:=by simp
  unfold numR
  rcases h:Lib.atoiAll p with v|_|_
  · have:=Any.strconv_Atoi_ok Tryz.atoi71 ⟨p.toArray⟩ (by rw [hsz];omega) v (by rw [hd];exact h) w
    refine this.mono fun e w' ⟨he,hw⟩=> ?_
    refine ⟨g,st,_,_,he,step_below hok ?_,.tup _ [.int .i64 v,.nilIface] rfl (fun i hi=> ?_),rfl,rfl⟩
    · rcases hw with rfl|⟨t,rfl⟩
      · exact Below.refl _ _
      · exact Lib.bytesWorld_below w _ t
    · match i,hi with
      |0,_=>exact .val _ rfl
      |1,_=>exact .nili
  · obtain ⟨pe,hc⟩:=var_cell hok e1
    have:=Any.strconv_Atoi_syntax Tryz.atoi71 ⟨p.toArray⟩ (by rw [hsz];omega) (by rw [hd];exact h) (.iface t1 pe) w hc (.inr ⟨_,_,rfl⟩)
    refine this.mono fun e w' ⟨N,he,_,_,hw⟩=> ?_
    refine ⟨g,st,_,_,he,step_below hok hw,.tup _ [.int .i64 0,.iface 138 (.pointer (some ⟨N,0,none⟩))] rfl (fun i hi=> ?_),rfl,rfl⟩
    match i,hi with
    |0,_=>exact .val _ rfl
    |1,_=>exact .ifc _ _ _ (.undef _)
  · obtain ⟨pe,hc⟩:=var_cell hok e2
    have:=Any.strconv_Atoi_range Tryz.atoi71 ⟨p.toArray⟩ (by rw [hsz];omega) (by rw [hd];exact h) (.iface t2 pe) w hc (.inr ⟨_,_,rfl⟩)
    rw [hd] at this
    refine this.mono fun e w' ⟨N,he,_,_,hw⟩=> ?_
    refine ⟨g,st,_,_,he,step_below hok hw,.tup _ [.int .i64 (Lib.atoiSat p),.iface 138 (.pointer (some ⟨N,0,none⟩))] rfl (fun i hi=> ?_),rfl,rfl⟩
    match i,hi with
    |0,_=>exact .val _ rfl
    |1,_=>exact .ifc _ _ _ (.undef _)
end
section
set_option maxRecDepth 8000
/-! ### words, told apart: plain laws -/
theorem dig_hex:∀k:Fin 16,digV (hexD k.val)=some k.val:=by decide
theorem scan_esc(c:UInt8){n:Nat}{t B:List UInt8}:scanP (n+1) (escB c++t) B=scanP n t (B++ [c]):=by
  have hc:=c.toNat_lt
  unfold escB
  split
  · have h1:digV (hexD (c.toNat/16))=some (c.toNat/16):=dig_hex ⟨c.toNat/16,by omega⟩
    have h2:digV (hexD (c.toNat%16))=some (c.toNat%16):=dig_hex ⟨c.toNat%16,by omega⟩
    have e:UInt8.ofNat (16*(c.toNat/16)+c.toNat%16)=c:=by
      rw [Nat.div_add_mod];exact UInt8.ofNat_toNat
    show scanP (n+1) (92::120::hexD (c.toNat/16)::hexD (c.toNat%16)::t) B=_
    simp only [scanP]
    rw [if_neg (by decide),if_pos trivial,if_pos trivial,h1,h2]
    simp only [e]
  · split
    · rename_i h1 h
      have hx:c≠120:=by rcases h with rfl|rfl<;>decide
      show scanP (n+1) (92::c::t) B=_
      simp only [scanP]
      rw [if_neg (by decide),if_pos trivial,if_neg hx]
    · rename_i h1 h
      show scanP (n+1) (c::t) B=_
      simp only [scanP]
      rw [if_neg (fun e=>h (.inl e)),if_neg (fun e=>h (.inr e))]
theorem scan_word(r:List UInt8):∀(b:List UInt8) (n:Nat) (B:List UInt8),b.length<n→scanP n (b.flatMap escB++34::r) B=some (B++b,r)
  | [],n+1,B,_=>by
    show scanP (n+1) (34::r) B=_
    simp only [scanP]
    rw [if_pos trivial,List.append_nil]
  |c::b,n+1,B,h=>by
    rw [List.flatMap_cons,List.append_assoc,scan_esc,scan_word r b n (B++ [c]) (by simp at h;omega)]
    simp
theorem esc_pos(c:UInt8):0<(escB c).length:=by
  unfold escB;split
  · simp
  · split<;>simp
theorem flat_ge:∀b:List UInt8,b.length≤(b.flatMap escB).length
  | []=>by simp
  |c::b=>by
    have:=flat_ge b
    have:=esc_pos c
    simp only [List.flatMap_cons,List.length_append,List.length_cons];omega
theorem unq_word(b r:List UInt8):unqP (quoteF b++r)=some (b,r):=by
  have e:quoteF b++r=34::(b.flatMap escB++34::r):=by simp [quoteF]
  rw [e]
  have h:=scan_word r b ((b.flatMap escB++34::r).length+1) [] (by have:=flat_ge b;simp only [List.length_append,List.length_cons];omega)
  simp only [unqP,h,List.nil_append]
  rw [if_pos e]
theorem unq_some{s B r:List UInt8}(h:unqP s=some (B,r)):quoteF B++r=s:=by
  unfold unqP at h
  split at h
  · split at h
    · split at h
      · rename_i h2
        simp only [Option.some.injEq,Prod.mk.injEq] at h
        obtain ⟨rfl,rfl⟩:=h
        exact h2
      · cases h
    · cases h
  · cases h
theorem hex_print:∀k:Fin 16,32≤(hexD k.val).toNat∧(hexD k.val).toNat≤126:=by decide
theorem esc_print{c x:UInt8}(h:x∈escB c):32≤x.toNat∧x.toNat≤126:=by
  have hc:=c.toNat_lt
  unfold escB at h
  split at h
  · simp only [List.mem_cons,List.mem_nil_iff,or_false] at h
    rcases h with rfl|rfl|rfl|rfl
    · decide
    · decide
    · exact hex_print ⟨c.toNat/16,by omega⟩
    · exact hex_print ⟨c.toNat%16,by omega⟩
  · rename_i h1
    split at h
    · simp only [List.mem_cons,List.mem_nil_iff,or_false] at h
      rcases h with rfl|rfl
      · decide
      · omega
    · simp only [List.mem_cons,List.mem_nil_iff,or_false] at h
      subst h;omega
theorem quote_print{a:List UInt8}{x:UInt8}(h:x∈quoteF a):32≤x.toNat∧x.toNat≤126:=by
  simp only [quoteF,List.mem_append,List.mem_cons,List.mem_flatMap,List.mem_nil_iff,or_false] at h
  rcases h with (rfl|⟨c,_,h⟩)|rfl
  · decide
  · exact esc_print h
  · decide
end
section
set_option maxRecDepth 8000
/-! ### parts of a line -/
theorem ib_at(c:UInt8):∀s:List UInt8,Lib.indexByte s c=if c∈s then ((s.takeWhile (· ≠c)).length:Int) else-1
  | []=>rfl
  |d::r=>by
    unfold Lib.indexByte
    by_cases hc:d=c
    · subst hc
      simp
    · have h1:(d==c)=false:=by simpa using hc
      rw [h1,ib_at c r]
      have h2:(c∈d::r)↔c∈r:=by rw [List.mem_cons];exact ⟨fun e=>e.resolve_left (fun q=>hc q.symm),.inr⟩
      by_cases hr:c∈r
      · rw [if_neg (by simp),if_pos hr,if_pos (h2.2 hr)]
        simp [hc]
      · rw [if_neg (by simp),if_neg hr,if_neg (fun e=>hr (h2.1 e))]
        simp
theorem split_at{c:UInt8}{s:List UInt8}(h:c∈s):s=s.takeWhile (· ≠c)++c::(s.dropWhile (· ≠c)).drop 1:=by
  induction s with
  |nil=>cases h
  |cons d r ih=>
    by_cases hc:d=c
    · subst hc;simp
    · have hr:c∈r:=(List.mem_cons.1 h).resolve_left (fun q=>hc q.symm)
      have:=ih hr
      simp [hc]
      simpa using this
/-- the part up to a blank, and what stands behind it -/
def cutB(s:List UInt8):List UInt8×List UInt8:=(s.takeWhile (· ≠32),(s.dropWhile (· ≠32)).drop 1)
theorem cutB_none{s:List UInt8}(h:32∉s):cutB s=(s,[]):=by
  have h1:s.takeWhile (· ≠32)=s:=by
    induction s with
    |nil=>rfl
    |cons d r ih=>
      rw [List.takeWhile_cons_of_pos (by simpa using fun e:d=32=>h (by rw [e];simp)),ih (fun hm=>h (List.mem_cons_of_mem _ hm))]
  have h2:s.dropWhile (· ≠32)= []:=by
    have:=List.takeWhile_append_dropWhile (p:=(· ≠32)) (l:=s)
    rw [h1] at this
    simpa using this
  simp only [cutB,h1,h2,List.drop_nil]
theorem cutB_le(s:List UInt8):(cutB s).1.length≤s.length∧(cutB s).2.length≤s.length:=by
  have e:=congrArg List.length (List.takeWhile_append_dropWhile (p:=(· ≠32)) (l:=s))
  simp only [List.length_append] at e
  simp only [cutB,List.length_drop]
  omega
theorem cutB_lt{s:List UInt8}(h:s≠ []):(cutB s).2.length<s.length:=by
  by_cases h32:32∈s
  · have e:=congrArg List.length (split_at h32)
    simp only [List.length_append,List.length_cons] at e
    simp only [cutB]
    omega
  · rw [cutB_none h32]
    exact List.length_pos_iff.2 h
theorem index_ok(st:St)(s:List UInt8):obC 101 [sb s,str ⟨#[32]⟩] st (i64 (Lib.indexByte s 32)) st:=by
  have hl:lenA E0 9 (str ⟨#[32]⟩)=some (i64 1):=len_sb [32]
  by_cases h:s= [32]
  · subst h
    exact f101_FT hl (eqlF (by decide)) (eq_sbT (a:= [32]) rfl)
  · exact f101_FFT hl (eqlF (by decide)) (eq_sbF (a:= [32]) (fun e=>h e.symm)) (eqlT rfl) (idx_sb (l:= [32]) (i:=0) (b:=32) rfl) (ib_ok ⟨s.toArray⟩ 32 st)
theorem cut_ok(st:St){s:List UInt8}(hb:s.length≤2000000000):∃f,obC 76 [sb s,str ⟨#[32]⟩] st (.tup [sb (cutB s).1,sb (cutB s).2,bo f]) st:=by
  have hi:=index_ok st s
  rw [ib_at] at hi
  by_cases h:32∈s
  · rw [if_pos h] at hi
    have e:=split_at h
    generalize hu:s.takeWhile (· ≠32)=u at hi e
    generalize hv:(s.dropWhile (· ≠32)).drop 1=v at e
    have e1:cutB s=(u,v):=by simp only [cutB,hu,hv]
    rw [e1]
    have hlen:s.length=u.length+1+v.length:=by rw [e];simp;omega
    have a1:binA E0 .add 3 (i64 u.length) (i64 1)=some (i64 ((u.length+1:Nat):Int)):=add3 (a:=u.length) (b:=1) (by omega)
    have t1:s.take u.length=u:=by rw [e];exact List.take_left' rfl
    have t2:s.drop (u.length+1)=v:=by rw [e,show u++32::v=(u++ [32])++v by simp];exact List.drop_left' (by simp)
    have sl1:=slice_hi st (l:=s) (k:=u.length) (by omega)
    have sl2:=slice_lo st (l:=s) (k:=u.length+1) (by omega)
    rw [t1] at sl1
    rw [t2] at sl2
    exact ⟨true,f76 (b9c:=true) (f87_T hi (geqT (by omega)) (fun k hk=>by cases hk) sl1 (len_sb [32]) a1 sl2)⟩
  · rw [if_neg h] at hi
    rw [cutB_none h]
    exact ⟨false,f76 (b9c:=false) (f87_F hi (geqF (by decide)))⟩
/-! ### cells of rows -/
theorem stf{σ:St}{a j t ty:Nat}{vs:List AV}{v:AV}(hsz:tySize E0 t=some 1)(hg:σ.get a=some (.row vs ty))(hl:σ.lock= [])(hv:avCells v=some [v])(hj:j+1≤vs.length):storeA E0 σ t (.ptr a j) v=some (σ.set a (.row (vs.set j v) ty)):=by
  have e:vs.take j++ [v]++vs.drop (j+1)=vs.set j v:=by
    rw [List.set_eq_take_append_cons_drop,if_pos (by omega)]
    simp
  unfold storeA
  simp only [hv,St.wget_of hg (by rw [hl];simp)]
  rw [if_pos ⟨by rw [hsz];rfl,by simpa using hj⟩]
  simp only [List.length_singleton]
  rw [e]
theorem z4:tySize E0 4=some 1:=by kernel_rfl
/-- a reader -/
structure Rd (σ:St) (r:Nat) (s:List UInt8) (bad:Bool):Prop where
  row:σ.get r=some (.row [sb s,bo bad] 99)
  wf:σ.wf
  lock:σ.lock= []
  tabs:Tabs σ
  errs:ErrV σ
  len:s.length≤2000000000
theorem Rd.step{σ σ':St}{r:Nat}{s s':List UInt8}{bad bad':Bool}(h:Rd σ r s bad){S:List Nat}(k:Rest σ σ' S)(hg:σ'.get r=some (.row [sb s',bo bad'] 99))(hl:s'.length≤2000000000):Rd σ' r s' bad':=⟨hg,k.wf,k.lock.trans h.lock,h.tabs.rest k,h.errs.rest k,hl⟩
theorem Rd.keep{σ σ':St}{r:Nat}{s:List UInt8}{bad:Bool}(h:Rd σ r s bad){S:List Nat}(k:Rest σ σ' S)(hS:r∉S):Rd σ' r s bad:=h.step k (k.keep _ _ hS h.row) h.len
theorem plain_ok{σ:St}{r:Nat}{s:List UInt8}{bad:Bool}(h:Rd σ r s bad):∃σ',obC 60 [.ptr r 0] σ (sb (cutB s).1) σ'∧Rest σ σ' [r]∧Rd σ' r (cutB s).2 bad:=by
  obtain ⟨f,h1⟩:=cut_ok σ h.len
  have h2:=stf (j:=0) (v:=sb (cutB s).2) z9 h.row h.lock rfl (by simp)
  have k:=Rest.set h.wf (h.wf _ _ h.row) (.row [sb (cutB s).2,bo bad] 99) (S:= [r]) (by simp)
  refine ⟨_,f60 (b11c:=f) (ldf k9 h.row rfl) h1 h2,k,h.step k (by rw [St.get_set,if_pos rfl];rfl) (Nat.le_trans (cutB_le s).2 h.len)⟩
/-- which name a part is -/
def idxN(p:List UInt8):Int:=match nmL.findIdx? (fun q=>p==q) with
  |some i=>(i:Int)
  |none=> -1
theorem find_loop{σ:St}{a:Nat}{p:List UInt8}{l:List (List UInt8)}(hg:σ.get a=some (.row (l.map sb) 9))(hb:l.length≤1000):∀(n i:Nat),l.length- i=n→i≤l.length→(∀j q,j<i→l[j]? =some q→p≠q)→
    ∀T,f69L1 T (.sl a 1 0 l.length true) (sb p) (i64 l.length) (i64 i)→LoopIn Tryz.prog (f69P 2) (fun ex T' z=>z=σ∧match l.findIdx? (fun q=>p==q) with|some j=>ex= .ret∧f69L2 T' (i64 j)|none=>ex= .exit 0∧f69L3 T') (n+1) T σ:=by
  intro n
  induction n with
  |zero=>
    intro i hn hi hno T hT
    have e:i=l.length:=by omega
    subst e
    have hf:l.findIdx? (fun q=>p==q)=none:=by
      rw [List.findIdx?_eq_none_iff]
      intro q hq
      obtain ⟨j,hj⟩:=List.getElem?_of_mem hq
      have:=hno j q (List.getElem?_eq_some_iff.1 hj).1 hj
      simpa using this
    refine LoopIn.out (by simp) (f69_2_F (lssF (by omega)) hT) fun T' hT'=>⟨rfl,?_⟩
    rw [hf]
    exact ⟨rfl,hT'⟩
  |succ n ih=>
    intro i hn hi hno T hT
    obtain ⟨q,hq⟩:∃q,l[i]? =some q:=⟨l[i]'(by omega),List.getElem?_eq_getElem (by omega)⟩
    have ld:loadA E0 σ 9 (.ptr a i)=some (sb q):=ldf k9 hg (by rw [List.getElem?_map,hq];rfl)
    by_cases he:p=q
    · have hf:l.findIdx? (fun q=>p==q)=some i:=by
        rw [List.findIdx?_eq_some_iff_getElem]
        refine ⟨by omega,by simpa [(List.getElem?_eq_some_iff.1 hq).2] using he,fun j hj=> ?_⟩
        have:=hno j (l[j]'(by omega)) hj (List.getElem?_eq_getElem (by omega))
        simpa using this
      refine LoopIn.out (by simp) (f69_2_TT (lssT (by omega)) (ix78 (by omega)) ld (eq_sbT he) hT) fun T' hT'=>⟨rfl,?_⟩
      rw [hf]
      exact ⟨rfl,hT'⟩
    · exact LoopIn.go (f69_2_TF (lssT (by omega)) (ix78 (by omega)) ld (eq_sbF he) (add3 (a:=i) (b:=1) (by omega)) hT) (ih (i+1) (by omega) (by omega) fun j q' hj hq'=>by
        by_cases hji:j=i
        · subst hji
          rw [hq] at hq'
          cases hq'
          exact he
        · exact hno j q' (by omega) hq')
theorem idx_ok{σ:St}{a:Nat}(p:List UInt8)(hg:σ.get a=some (.row (nmL.map sb) 9)):obC 69 [.sl a 1 0 10 true,sb p] σ (i64 (idxN p)) σ:=by
  have fin:∀{T:Tm} {a:AV} {z:St},f69L2 T a→endA E0 Tryz.f69 (fun r s=>r=a∧s=z) .ret T z:=fun {T a z} q=>⟨[T.get 4],rfl,by obtain ⟨_,q1⟩:=q;rw [q1];rfl,rfl⟩
  refine ACalls.body (E:=E0) hE Tryz.func69 f69body ?_
  refine AW.andThen (f69_0 (x:= .sl a 1 0 10 true) (s:=⟨p.toArray⟩) ⟨rfl,rfl,rfl⟩) fun T1 q1=> ?_
  refine .seq (.seq ((f69_1 (ln78 ..) q1).mono fun ex T2 z ⟨e1,e2,e3⟩=> ?_))
  subst e1;subst e3
  refine AW.block ((AW.loopIn (find_loop (p:=p) (l:=nmL) hg (by decide) 10 0 rfl (by decide) (fun j q hj=>by omega) T2 e2)).mono fun ex T3 z ⟨e3,e4⟩=> ?_)
  subst e3
  unfold idxN
  cases hf:nmL.findIdx? (fun q=>p==q) with
  |some j=>
    rw [hf] at e4
    obtain ⟨rfl,h4⟩:=e4
    exact fin h4
  |none=>
    rw [hf] at e4
    obtain ⟨rfl,h4⟩:=e4
    simp only [blockA,if_true]
    exact AW.atRet (f69_3 h4) fun T q=>fin q
theorem kind_ok{σ:St}{r:Nat}{s:List UInt8}{bad:Bool}(h:Rd σ r s bad):∃σ',obC 46 [.ptr r 0] σ (i64 (idxN (cutB s).1)) σ'∧Rest σ σ' [r]∧Rd σ' r (cutB s).2 (decide (idxN (cutB s).1<1)):=by
  have hs:=split_ok h.tabs h.wf
  have k1:=Rest.push h.wf (.row (nmL.map sb) 9) [r]
  have hr:=h.wf _ _ h.row
  have h1:Rd (σ.push (.row (nmL.map sb) 9)) r s bad:=h.step k1 (by rw [St.get_push,if_neg (by omega)];exact h.row) h.len
  obtain ⟨s2,h2,k2,h3⟩:=plain_ok h1
  have g2:s2.get σ.next=some (.row (nmL.map sb) 9):=k2.keep _ _ (by simp;omega) (get_new _ _ rfl)
  have h4:=idx_ok (cutB s).1 g2
  have h5:∀b,storeA E0 s2 4 (.ptr r 1) (bo b)=some (s2.set r (.row [sb (cutB s).2,bo b] 99)):=fun b=>stf (j:=1) (v:=bo b) z4 h3.row h3.lock rfl (by simp)
  have k3:∀b,Rest s2 (s2.set r (.row [sb (cutB s).2,bo b] 99)) [r]:=fun b=>Rest.set h3.wf (h3.wf _ _ h3.row) _ (by simp)
  by_cases hk:idxN (cutB s).1<1
  · rw [decide_eq_true hk]
    exact ⟨_,f46_T hs h2 h4 (lssT hk) (h5 true),(k1.trans k2).trans (k3 true),h3.step (k3 true) (by rw [St.get_set,if_pos rfl]) h3.len⟩
  · rw [decide_eq_false hk]
    exact ⟨_,f46_F hs h2 h4 (lssF hk) (h5 false),(k1.trans k2).trans (k3 false),h3.step (k3 false) (by rw [St.get_set,if_pos rfl]) h3.len⟩
theorem number_ok{σ:St}{r:Nat}{s:List UInt8}{bad:Bool}(h:Rd σ r s bad):∃σ',obC 50 [.ptr r 0] σ (i64 (numR (cutB s).1).1) σ'∧Rest σ σ' [r]∧Rd σ' r (cutB s).2 (bad||(numR (cutB s).1).2):=by
  obtain ⟨s1,h1,k1,h2⟩:=plain_ok h
  have hp:=(cutB_le s).1
  have hl:=h.len
  have h3:=atoi_ok h2.errs (p:=(cutB s).1) (by omega)
  have h5:∀b,storeA E0 s1 4 (.ptr r 1) (bo b)=some (s1.set r (.row [sb (cutB s).2,bo b] 99)):=fun b=>stf (j:=1) (v:=bo b) z4 h2.row h2.lock rfl (by simp)
  have k3:∀b,Rest s1 (s1.set r (.row [sb (cutB s).2,bo b] 99)) [r]:=fun b=>Rest.set h2.wf (h2.wf _ _ h2.row) _ (by simp)
  have l4:=ldf (t:=4) (j:=1) k4 h2.row rfl
  have fin:∀b,Rd (s1.set r (.row [sb (cutB s).2,bo b] 99)) r (cutB s).2 b:=fun b=>h2.step (k3 b) (by rw [St.get_set,if_pos rfl]) h2.len
  cases hb:(numR (cutB s).1).2 with
  |false=>
    rw [hb] at h3
    cases bad with
    |true=>exact ⟨_,f50_T h1 h3 l4 (h5 true),k1.trans (k3 true),fin true⟩
    |false=>exact ⟨_,f50_F h1 h3 l4 (h5 false),k1.trans (k3 false),fin false⟩
  |true=>
    rw [hb] at h3
    cases bad with
    |true=>exact ⟨_,f50e_T h1 h3 l4 (h5 true),k1.trans (k3 true),fin true⟩
    |false=>exact ⟨_,f50e_F h1 h3 l4 (h5 true),k1.trans (k3 true),fin true⟩
/-- a blank, if there is one, is taken -/
def trimB(s:List UInt8):List UInt8:=match s with
  |32::r=>r
  |s=>s
theorem trimB_le(s:List UInt8):(trimB s).length≤s.length:=by
  unfold trimB
  split<;>simp
theorem trim_ok(st:St){s:List UInt8}(hb:s.length≤2000000000):obC 72 [sb s,str ⟨#[32]⟩] st (sb (trimB s)) st:=by
  have hl:lenA E0 9 (str ⟨#[32]⟩)=some (i64 1):=len_sb [32]
  cases s with
  |nil=>exact f72 (f84_F (f74_F (len_sb []) hl (geqF (by decide))))
  |cons c r=>
    have hge:binA E0 .geq 3 (i64 ((c::r).length:Nat)) (i64 1)=some TT:=geqT (by simp only [List.length_cons];omega)
    have sl:sliceA E0 st 9 (sb (c::r)) none (some (i64 1)) none=some (sb [c]):=slice_hi st (l:=c::r) (k:=1) (by simp)
    by_cases h:c=32
    · subst h
      have sl2:sliceA E0 st 9 (sb (32::r)) (some (i64 1)) none none=some (sb r):=slice_lo st (l:=32::r) (k:=1) (by simp)
      exact f72 (f84_T (f74_TT (len_sb _) hl hge hl sl (eq_sbT rfl)) hl sl2)
    · have e:trimB (c::r)=c::r:=by
        unfold trimB
        split
        · rename_i q e;simp only [List.cons.injEq] at e;exact absurd e.1 h
        · rfl
      rw [e]
      exact f72 (f84_F (f74_TF (len_sb _) hl hge hl sl (eq_sbF (fun e=>h (by simpa using e)))))
/-- what a word's reading comes to -/
def wordR(s:List UInt8):List UInt8×List UInt8×Bool:=match unqP s with
  |some (B,r)=>(B,trimB r,false)
  |none=>([],[],true)
theorem word_ok{σ:St}{r:Nat}{s:List UInt8}{bad:Bool}(h:Rd σ r s bad):∃v σ',obC 53 [.ptr r 0] σ v σ'∧Rest σ σ' [r]∧Rd σ' r (wordR s).2.1 (bad||(wordR s).2.2)∧OwnB σ' v (wordR s).1∧∀j∈fid v,σ.next≤j:=by
  obtain ⟨s1,r1,h1,k1,m1⟩:=unquote_ok h.wf h.lock h.len
  have g1:Rd s1 r s bad:=h.keep k1 (by simp)
  have l9:=ldf (t:=9) (j:=0) k9 h.row rfl
  have l4:=ldf (t:=4) (j:=1) k4 g1.row rfl
  have hs1:∀b,storeA E0 s1 4 (.ptr r 1) (bo b)=some (s1.set r (.row [sb s,bo b] 99)):=fun b=>stf (j:=1) (v:=bo b) z4 g1.row g1.lock rfl (by simp)
  have k2:∀b,Rest s1 (s1.set r (.row [sb s,bo b] 99)) [r]:=fun b=>Rest.set g1.wf (g1.wf _ _ g1.row) _ (by simp)
  have g2:∀b,Rd (s1.set r (.row [sb s,bo b] 99)) r s b:=fun b=>g1.step (k2 b) (by rw [St.get_set,if_pos rfl]) g1.len
  have hs2:∀b (x:List UInt8),storeA E0 (s1.set r (.row [sb s,bo b] 99)) 9 (.ptr r 0) (sb x)=some ((s1.set r (.row [sb s,bo b] 99)).set r (.row [sb x,bo b] 99)):=fun b x=>stf (j:=0) (v:=sb x) z9 (g2 b).row (g2 b).lock rfl (by simp)
  have k3:∀b (x:List UInt8),Rest (s1.set r (.row [sb s,bo b] 99)) ((s1.set r (.row [sb s,bo b] 99)).set r (.row [sb x,bo b] 99)) [r]:=fun b x=>Rest.set (g2 b).wf ((g2 b).wf _ _ (g2 b).row) _ (by simp)
  have k13:∀b (x:List UInt8),Rest s1 ((s1.set r (.row [sb s,bo b] 99)).set r (.row [sb x,bo b] 99)) [r]:=fun b x=>(k2 b).trans (k3 b x)
  have k14:∀b (x:List UInt8),Rest σ ((s1.set r (.row [sb s,bo b] 99)).set r (.row [sb x,bo b] 99)) [r]:=fun b x=>(k1.weak (fun i hi=>by cases hi)).trans (k13 b x)
  have fin:∀b (x:List UInt8),x.length≤2000000000→Rd ((s1.set r (.row [sb s,bo b] 99)).set r (.row [sb x,bo b] 99)) r x b:=fun b x hx=>(g2 b).step (k3 b x) (by rw [St.get_set,if_pos rfl]) hx
  unfold wordR
  cases hu:unqP s with
  |some q=>
    obtain ⟨B,rest⟩:=q
    rw [hu] at m1
    obtain ⟨v,rfl,ho,hf⟩:=m1
    have hrest:rest.length≤s.length:=by
      have e:=congrArg List.length (unq_some hu)
      simp only [List.length_append] at e
      omega
    have hl:=h.len
    have ht:∀b,obC 72 [sb rest,str ⟨#[32]⟩] (s1.set r (.row [sb s,bo b] 99)) (sb (trimB rest)) (s1.set r (.row [sb s,bo b] 99)):=fun b=>trim_ok _ (by omega)
    have hrv:r∉fid v:=fun hm=>by have:=hf r hm;have:=h.wf _ _ h.row;omega
    have hx:(trimB rest).length≤2000000000:=by have:=trimB_le rest;omega
    cases bad with
    |true=>exact ⟨v,_,f53_T (b11c:=true) l9 h1 l4 (hs1 true) (ht true) (hs2 true _),k14 true _,fin true _ hx,ho.rest (k13 true _) (fun i hi e=>hrv (by simp only [List.mem_singleton] at e;rw [←e];exact hi)),hf⟩
    |false=>exact ⟨v,_,f53_FT l9 h1 l4 (hs1 false) (ht false) (hs2 false _),k14 false _,fin false _ hx,ho.rest (k13 false _) (fun i hi e=>hrv (by simp only [List.mem_singleton] at e;rw [←e];exact hi)),hf⟩
  |none=>
    rw [hu] at m1
    subst m1
    have ht:∀b,obC 72 [str ⟨#[]⟩,str ⟨#[32]⟩] (s1.set r (.row [sb s,bo b] 99)) (sb []) (s1.set r (.row [sb s,bo b] 99)):=fun b=>trim_ok (s:= []) _ (by simp)
    cases bad with
    |true=>exact ⟨.nils,_,f53_T (b11c:=false) l9 h1 l4 (hs1 true) (ht true) (hs2 true _),k14 true _,fin true [] (by simp),.inl ⟨rfl,rfl,rfl⟩,fun j hj=>by cases hj⟩
    |false=>exact ⟨.nils,_,f53_FF l9 h1 l4 (hs1 true) (ht true) (hs2 true _),k14 true _,fin true [] (by simp),.inl ⟨rfl,rfl,rfl⟩,fun j hj=>by cases hj⟩
end
section
set_option maxRecDepth 8000
/-! ### slices.Contains -/
theorem ty100:∃i,E0.ty 100=some i∧i.desc= .slice 3:=by
  have h:(E0.ty 100).map (·.desc)=some (.slice 3):=by kernel_rfl
  obtain ⟨i,h1,h2⟩:=Option.map_eq_some_iff.1 h
  exact ⟨i,h1,h2⟩
theorem ln100(a b c n:Nat)(f:Bool):lenA E0 100 (.sl a b c n f)=some (i64 n):=by
  obtain ⟨i,h1,h2⟩:=ty100
  simp only [lenA,h1,h2]
theorem ix100{a n:Nat}{f:Bool}{k:Nat}(h:k<n):indexAddrA E0 100 (.sl a 1 0 n f) (i64 k)=some (.ptr a k):=by
  obtain ⟨i,h1,h2⟩:=ty100
  simp only [indexAddrA,h1,h2]
  rw [if_pos ⟨z3,by omega,by omega⟩]
  simp
theorem findI_loop{σ:St}{a:Nat}{k:Int}{l:List Int}(hg:σ.get a=some (.row (l.map fun x=>i64 x) 3))(hb:l.length≤1000):∀(n i:Nat),l.length- i=n→i≤l.length→(∀j q,j<i→l[j]? =some q→k≠q)→
    ∀T,f70L1 T (.sl a 1 0 l.length true) (i64 k) (i64 l.length) (i64 i)→LoopIn Tryz.prog (f70P 2) (fun ex T' z=>z=σ∧match l.findIdx? (fun q=>k==q) with|some j=>ex= .ret∧f70L2 T' (i64 j)|none=>ex= .exit 0∧f70L3 T') (n+1) T σ:=by
  intro n
  induction n with
  |zero=>
    intro i hn hi hno T hT
    have e:i=l.length:=by omega
    subst e
    have hf:l.findIdx? (fun q=>k==q)=none:=by
      rw [List.findIdx?_eq_none_iff]
      intro q hq
      obtain ⟨j,hj⟩:=List.getElem?_of_mem hq
      have:=hno j q (List.getElem?_eq_some_iff.1 hj).1 hj
      simpa using this
    refine LoopIn.out (by simp) (f70_2_F (lssF (by omega)) hT) fun T' hT'=>⟨rfl,?_⟩
    rw [hf]
    exact ⟨rfl,hT'⟩
  |succ n ih=>
    intro i hn hi hno T hT
    obtain ⟨q,hq⟩:∃q,l[i]? =some q:=⟨l[i]'(by omega),List.getElem?_eq_getElem (by omega)⟩
    have ld:loadA E0 σ 3 (.ptr a i)=some (i64 q):=ldf k3 hg (by rw [List.getElem?_map,hq];rfl)
    by_cases he:k=q
    · have hf:l.findIdx? (fun q=>k==q)=some i:=by
        rw [List.findIdx?_eq_some_iff_getElem]
        refine ⟨by omega,by simpa [(List.getElem?_eq_some_iff.1 hq).2] using he,fun j hj=> ?_⟩
        have:=hno j (l[j]'(by omega)) hj (List.getElem?_eq_getElem (by omega))
        simpa using this
      refine LoopIn.out (by simp) (f70_2_TT (lssT (by omega)) (ix100 (by omega)) ld (eqlT he) hT) fun T' hT'=>⟨rfl,?_⟩
      rw [hf]
      exact ⟨rfl,hT'⟩
    · exact LoopIn.go (f70_2_TF (lssT (by omega)) (ix100 (by omega)) ld (eqlF he) (add3 (a:=i) (b:=1) (by omega)) hT) (ih (i+1) (by omega) (by omega) fun j q' hj hq'=>by
        by_cases hji:j=i
        · subst hji
          rw [hq] at hq'
          cases hq'
          exact he
        · exact hno j q' (by omega) hq')
theorem contains_ok{σ:St}{a:Nat}(k:Int){l:List Int}(hb:l.length≤1000)(hg:σ.get a=some (.row (l.map fun x=>i64 x) 3)):obC 48 [.sl a 1 0 l.length true,i64 k] σ (bo (decide (k∈l))) σ:=by
  have fin:∀{T:Tm} {a:AV} {z:St},f70L2 T a→endA E0 Tryz.f70 (fun r s=>r=a∧s=z) .ret T z:=fun {T a z} q=>⟨[T.get 4],rfl,by obtain ⟨_,q1⟩:=q;rw [q1];rfl,rfl⟩
  have h70:obC 70 [.sl a 1 0 l.length true,i64 k] σ (i64 (match l.findIdx? (fun q=>k==q) with|some j=>(j:Int)|none=> -1)) σ:=by
    refine ACalls.body (E:=E0) hE Tryz.func70 f70body ?_
    refine AW.andThen (f70_0 (x:= .sl a 1 0 l.length true) (k:=k) ⟨rfl,rfl,rfl⟩) fun T1 q1=> ?_
    refine .seq (.seq ((f70_1 (ln100 ..) q1).mono fun ex T2 z ⟨e1,e2,e3⟩=> ?_))
    subst e1;subst e3
    refine AW.block ((AW.loopIn (findI_loop hg hb l.length 0 rfl (by omega) (fun j q hj=>by omega) T2 e2)).mono fun ex T3 z ⟨e3,e4⟩=> ?_)
    subst e3
    cases hf:l.findIdx? (fun q=>k==q) with
    |some j=>
      rw [hf] at e4
      obtain ⟨rfl,h4⟩:=e4
      exact fin h4
    |none=>
      rw [hf] at e4
      obtain ⟨rfl,h4⟩:=e4
      simp only [blockA,if_true]
      exact AW.atRet (f70_3 h4) fun T q=>fin q
  cases hf:l.findIdx? (fun q=>k==q) with
  |some j=>
    rw [hf] at h70
    have hm:k∈l:=by
      obtain ⟨h1,h2,_⟩:=List.findIdx?_eq_some_iff_getElem.1 hf
      have e:k=l[j]:=by simpa using h2
      rw [e];exact List.getElem_mem _
    rw [decide_eq_true hm]
    exact f48_T h70 (geqT (show (0:Int)≤(j:Int) by omega))
  |none=>
    rw [hf] at h70
    have hm:k∉l:=fun hm=>by
      have:=List.findIdx?_eq_none_iff.1 hf k hm
      simp at this
    rw [decide_eq_false hm]
    exact f48_F h70 (geqF (by decide))
/-! ### the closures of event -/
def OwnP(st:St)(v:AV)(ps:List Nat):Prop:=Ls st 66 1 v ps.length (ps.map fun x:Nat=>u16 x)
theorem el52:ElT 52 66 1:=⟨elT_of (by kernel_rfl),by kernel_rfl,fun st x=>by
  have:(E0.ty 52).map (·.desc)=some (.slice 66):=by kernel_rfl
  obtain ⟨i,h1,h2⟩:=Option.map_eq_some_iff.1 this
  simp only [srcA,h1,h2],fun a b c n f=>by
  have:(E0.ty 52).map (·.desc)=some (.slice 66):=by kernel_rfl
  obtain ⟨i,h1,h2⟩:=Option.map_eq_some_iff.1 this
  simp only [lenA,h1,h2],by kernel_rfl⟩
theorem OwnP.ns{st:St}{v:AV}{ps:List Nat}(h:OwnP st v ps):NS st v ps:=by
  rcases h with ⟨h1,_,h3⟩|⟨h2,id,f,h3,h4⟩
  · exact .inl ⟨h3,List.length_eq_zero_iff.1 h1⟩
  · exact .inr (.inr ⟨id,0,f,_,h3,h4,by rw [List.drop_zero,List.take_of_length_le (by simp)],by simp⟩)
theorem OwnP.rest{st st':St}{v:AV}{ps:List Nat}(h:OwnP st v ps){S:List Nat}(hr:Rest st st' S)(hS:∀i∈fid v,i∉S):OwnP st' v ps:=Ls.rest h hr hS
theorem k97:(E0.ty 97).map (fun i=>isAggD i.desc)=some false:=by kernel_rfl
theorem z51:tySize E0 51=some 1:=by kernel_rfl
theorem z52:tySize E0 52=some 1:=by kernel_rfl
structure Es (n0:Nat) (σ:St) (a b r:Nat) (k c n:Int) (d p:AV) (db:List UInt8) (ps:List Nat) (s:List UInt8) (bad:Bool):Prop where
  ra:σ.get a=some (.row [.ptr r 0] 97)
  rb:σ.get b=some (.row [i64 k,i64 c,i64 n,d,p] 54)
  rd:Rd σ r s bad
  hd:OwnB σ d db
  hp:OwnP σ p ps
  na:n0≤a
  nb:n0≤b
  nr:n0≤r
  nd:∀j∈fid d,n0≤j
  np:∀j∈fid p,n0≤j
  c64:I64 c
  n64:I64 n
  ps6:∀x∈ps,x<65536
theorem Es.ne{n0:Nat}{σ:St}{a b r:Nat}{k c n:Int}{d p:AV}{db:List UInt8}{ps:List Nat}{s:List UInt8}{bad:Bool}(h:Es n0 σ a b r k c n d p db ps s bad):a≠b∧a≠r∧b≠r∧b∉fid d∧r∉fid d∧b∉fid p∧r∉fid p:=
  ⟨row_ne h.ra h.rb (by decide),row_ne h.ra h.rd.row (by decide),row_ne h.rb h.rd.row (by decide),Ls.ne h.hd h.rb (by decide),Ls.ne h.hd h.rd.row (by decide),Ls.ne h.hp h.rb (by decide),Ls.ne h.hp h.rd.row (by decide)⟩
/-- what leaves the state as it is -/
theorem Es.keep{n0:Nat}{σ σ':St}{a b r:Nat}{k c n:Int}{d p:AV}{db:List UInt8}{ps:List Nat}{s:List UInt8}{bad:Bool}(h:Es n0 σ a b r k c n d p db ps s bad)(k':Rest σ σ' []):Es n0 σ' a b r k c n d p db ps s bad:=
  ⟨k'.keep _ _ (by simp) h.ra,k'.keep _ _ (by simp) h.rb,h.rd.keep k' (by simp),h.hd.rest k' fun _ _=>by simp,h.hp.rest k' fun _ _=>by simp,h.na,h.nb,h.nr,h.nd,h.np,h.c64,h.n64,h.ps6⟩
/-- the reader's turn: a part is taken -/
theorem Es.read{n0:Nat}{σ σ':St}{a b r:Nat}{k c n:Int}{d p:AV}{db:List UInt8}{ps:List Nat}{s s':List UInt8}{bad bad':Bool}(h:Es n0 σ a b r k c n d p db ps s bad)(k':Rest σ σ' [r])(hr:Rd σ' r s' bad'):Es n0 σ' a b r k c n d p db ps s' bad':=by
  obtain ⟨h1,h2,h3,h4,h5,h6,h7⟩:=h.ne
  exact ⟨k'.keep _ _ (by simpa using h2) h.ra,k'.keep _ _ (by simpa using h3) h.rb,hr,h.hd.rest k' (fun i hi e=>h5 (by simp only [List.mem_singleton] at e;rw [←e];exact hi)),h.hp.rest k' (fun i hi e=>h7 (by simp only [List.mem_singleton] at e;rw [←e];exact hi)),h.na,h.nb,h.nr,h.nd,h.np,h.c64,h.n64,h.ps6⟩
def stN(go:Bool)(s:List UInt8)(bad:Bool)(old:Int):Int×List UInt8×Bool:=if go then ((numR (cutB s).1).1,(cutB s).2,bad||(numR (cutB s).1).2) else (old,s,bad)
end
section
set_option maxRecDepth 8000
/-- a field is written -/
theorem Es.set{n0:Nat}{σ:St}{a b r:Nat}{k c n:Int}{d p:AV}{db:List UInt8}{ps:List Nat}{s:List UInt8}{bad:Bool}(h:Es n0 σ a b r k c n d p db ps s bad){c' n':Int}{d' p':AV}{db':List UInt8}{ps':List Nat}(hc:I64 c')(hn:I64 n')(hp6:∀x∈ps',x<65536)(hd:OwnB σ d' db')(hp:OwnP σ p' ps')(nd:∀j∈fid d',n0≤j)(np:∀j∈fid p',n0≤j):
    Es n0 (σ.set b (.row [i64 k,i64 c',i64 n',d',p'] 54)) a b r k c' n' d' p' db' ps' s bad∧Rest σ (σ.set b (.row [i64 k,i64 c',i64 n',d',p'] 54)) [b]:=by
  obtain ⟨h1,h2,h3,_⟩:=h.ne
  have kk:=Rest.set h.rd.wf (h.rd.wf _ _ h.rb) (.row [i64 k,i64 c',i64 n',d',p'] 54) (S:= [b]) (by simp)
  have e1:b∉fid d':=Ls.ne hd h.rb (by decide)
  have e2:b∉fid p':=Ls.ne hp h.rb (by decide)
  refine ⟨⟨kk.keep _ _ (by simpa using h1) h.ra,by rw [St.get_set,if_pos rfl],h.rd.keep kk (by simpa using Ne.symm h3),hd.rest kk (fun i hi e=>e1 (by simp only [List.mem_singleton] at e;rw [←e];exact hi)),hp.rest kk (fun i hi e=>e2 (by simp only [List.mem_singleton] at e;rw [←e];exact hi)),h.na,h.nb,h.nr,nd,np,hc,hn,hp6⟩,kk⟩
/-- one of the reads: what stands ahead of the closure -/
theorem reads{n0:Nat}{σ:St}{a b r:Nat}{k c n:Int}{d p:AV}{db:List UInt8}{ps:List Nat}{s:List UInt8}{bad:Bool}(h:Es n0 σ a b r k c n d p db ps s bad){l:List Int}{id:Nat}(hb:l.length≤1000)(hg:σ.get id=some (.row (l.map fun x=>i64 x) 3)):
    loadA E0 σ 97 (.ptr a 0)=some (.ptr r 0)∧loadA E0 σ 4 (.ptr r 1)=some (bo bad)∧loadA E0 σ 3 (.ptr b 0)=some (i64 k)∧obC 48 [.sl id 1 0 l.length true,i64 k] σ (bo (decide (k∈l))) σ:=
  ⟨ldf k97 h.ra rfl,ldf k4 h.rd.row rfl,ldf k3 h.rb rfl,contains_ok k hb hg⟩
theorem conn_step{n0:Nat}{σ:St}{a b r:Nat}{k c n:Int}{d p:AV}{db:List UInt8}{ps:List Nat}{s:List UInt8}{bad:Bool}(h:Es n0 σ a b r k c n d p db ps s bad){l:List Int}{id:Nat}(hb:l.length≤1000)(hg:σ.get id=some (.row (l.map fun x=>i64 x) 3)):
    ∃σ',obC 47 [.fn (.func 49) [] [.ptr a 0,.ptr b 0],.sl id 1 0 l.length true,.ptr a 0,.ptr b 0] σ (.tup []) σ'∧Rest σ σ' [b,r]∧Es n0 σ' a b r k (stN (!bad&&decide (k∈l)) s bad c).1 n d p db ps (stN (!bad&&decide (k∈l)) s bad c).2.1 (stN (!bad&&decide (k∈l)) s bad c).2.2:=by
  obtain ⟨h1,h2,h3,h4⟩:=reads h hb hg
  cases bad with
  |true=>exact ⟨σ,f47a_T h1 h2,.refl h.rd.wf _,h⟩
  |false=>
    by_cases hk:k∈l
    · rw [decide_eq_true hk] at h4⊢
      obtain ⟨s1,n1,k1,g1⟩:=number_ok h.rd
      have e1:=h.read k1 g1
      have st1:=stf (j:=1) (v:=i64 (numR (cutB s).1).1) z3 e1.rb e1.rd.lock rfl (by simp)
      obtain ⟨e2,k2⟩:=e1.set (numR_I64 (cutB s).1) e1.n64 e1.ps6 e1.hd e1.hp e1.nd e1.np
      exact ⟨_,f47a_FT h1 h2 h3 h4 (f49 h1 n1 st1),(k1.weak (fun i hi=>by simp only [List.mem_singleton] at hi;simp [hi])).trans (k2.weak (fun i hi=>by simp only [List.mem_singleton] at hi;simp [hi])),e2⟩
    · rw [decide_eq_false hk] at h4⊢
      exact ⟨σ,f47a_FF h1 h2 h3 h4,.refl h.rd.wf _,h⟩
theorem num_step{n0:Nat}{σ:St}{a b r:Nat}{k c n:Int}{d p:AV}{db:List UInt8}{ps:List Nat}{s:List UInt8}{bad:Bool}(h:Es n0 σ a b r k c n d p db ps s bad){l:List Int}{id:Nat}(hb:l.length≤1000)(hg:σ.get id=some (.row (l.map fun x=>i64 x) 3)):
    ∃σ',obC 47 [.fn (.func 51) [] [.ptr a 0,.ptr b 0],.sl id 1 0 l.length true,.ptr a 0,.ptr b 0] σ (.tup []) σ'∧Rest σ σ' [b,r]∧Es n0 σ' a b r k c (stN (!bad&&decide (k∈l)) s bad n).1 d p db ps (stN (!bad&&decide (k∈l)) s bad n).2.1 (stN (!bad&&decide (k∈l)) s bad n).2.2:=by
  obtain ⟨h1,h2,h3,h4⟩:=reads h hb hg
  cases bad with
  |true=>exact ⟨σ,f47b_T h1 h2,.refl h.rd.wf _,h⟩
  |false=>
    by_cases hk:k∈l
    · rw [decide_eq_true hk] at h4⊢
      obtain ⟨s1,n1,k1,g1⟩:=number_ok h.rd
      have e1:=h.read k1 g1
      have st1:=stf (j:=2) (v:=i64 (numR (cutB s).1).1) z3 e1.rb e1.rd.lock rfl (by simp)
      obtain ⟨e2,k2⟩:=e1.set e1.c64 (numR_I64 (cutB s).1) e1.ps6 e1.hd e1.hp e1.nd e1.np
      exact ⟨_,f47b_FT h1 h2 h3 h4 (f51 h1 n1 st1),(k1.weak (fun i hi=>by simp only [List.mem_singleton] at hi;simp [hi])).trans (k2.weak (fun i hi=>by simp only [List.mem_singleton] at hi;simp [hi])),e2⟩
    · rw [decide_eq_false hk] at h4⊢
      exact ⟨σ,f47b_FF h1 h2 h3 h4,.refl h.rd.wf _,h⟩
/-- the word's step -/
def stW(go:Bool)(s:List UInt8)(bad:Bool)(old:List UInt8):List UInt8×List UInt8×Bool:=if go then ((wordR s).1,(wordR s).2.1,bad||(wordR s).2.2) else (old,s,bad)
theorem word_step{n0:Nat}{σ:St}{a b r:Nat}{k c n:Int}{d p:AV}{db:List UInt8}{ps:List Nat}{s:List UInt8}{bad:Bool}(h:Es n0 σ a b r k c n d p db ps s bad)(hn0:n0≤σ.next){l:List Int}{id:Nat}(hb:l.length≤1000)(hg:σ.get id=some (.row (l.map fun x=>i64 x) 3)):
    ∃d' σ',obC 47 [.fn (.func 52) [] [.ptr a 0,.ptr b 0],.sl id 1 0 l.length true,.ptr a 0,.ptr b 0] σ (.tup []) σ'∧Rest σ σ' [b,r]∧Es n0 σ' a b r k c n d' p (stW (!bad&&decide (k∈l)) s bad db).1 ps (stW (!bad&&decide (k∈l)) s bad db).2.1 (stW (!bad&&decide (k∈l)) s bad db).2.2:=by
  obtain ⟨h1,h2,h3,h4⟩:=reads h hb hg
  cases bad with
  |true=>exact ⟨d,σ,f47c_T h1 h2,.refl h.rd.wf _,h⟩
  |false=>
    by_cases hk:k∈l
    · rw [decide_eq_true hk] at h4⊢
      obtain ⟨v,s1,n1,k1,g1,o1,f1⟩:=word_ok h.rd
      have e1:=h.read k1 g1
      have hcv:avCells v=some [v]:=by
        rcases o1 with ⟨_,_,rfl⟩|⟨_,id,f,rfl,_⟩<;>rfl
      have st1:=stf (j:=3) (v:=v) z51 e1.rb e1.rd.lock hcv (by simp)
      obtain ⟨e2,k2⟩:=e1.set e1.c64 e1.n64 e1.ps6 o1 e1.hp (fun j hj=>Nat.le_trans hn0 (f1 j hj)) e1.np
      exact ⟨v,_,f47c_FT h1 h2 h3 h4 (f52 h1 n1 st1),(k1.weak (fun i hi=>by simp only [List.mem_singleton] at hi;simp [hi])).trans (k2.weak (fun i hi=>by simp only [List.mem_singleton] at hi;simp [hi])),e2⟩
    · rw [decide_eq_false hk] at h4⊢
      exact ⟨d,σ,f47c_FF h1 h2 h3 h4,.refl h.rd.wf _,h⟩
/-! the picks -/
def picksF:Nat→List UInt8→Bool→List Nat→List Nat×Bool
  |0,_,bad,ps=>(ps,bad)
  |m+1,s,bad,ps=>if s= []∨bad=true then (ps,bad) else
      picksF m (cutB s).2 ((numR (cutB s).1).2||decide ((numR (cutB s).1).1<0)||decide (65535<(numR (cutB s).1).1)) (ps++ [((numR (cutB s).1).1%65536).toNat])
theorem conv366(st:St)(n:Int):convO E0 st 3 66 (i64 n)=some (u16 ((n%65536).toNat:Nat),st):=by
  have:convO E0 st 3 66 (i64 n)=some (u16 (IntKind.u16.wrap n),st):=by kernel_rfl
  rw [this]
  have hw:IntKind.u16.wrap n=((n%65536).toNat:Nat):=by
    show n%65536=_
    omega
  rw [hw]
theorem b52(st:St)(x:Int):buildSliceA E0 st 52 1 [(0,u16 x)]=some (.sl st.next 1 0 1 true,st.push (.row [u16 x] 66)):=by kernel_rfl
theorem picks_loop2{n0:Nat}:∀(m:Nat) (σ:St) (a b r:Nat) (k c n:Int) (d p:AV) (db:List UInt8) (ps:List Nat) (s:List UInt8) (bad:Bool),Es n0 σ a b r k c n d p db ps s bad→n0≤σ.next→s.length<m→ps.length+s.length≤3000000000→
    ∃p' s' σ',Rest σ σ' (b::r::fid p)∧Es n0 σ' a b r k c n d p' db (picksF m s bad ps).1 s' (picksF m s bad ps).2∧(∀T,f54L0 T (.ptr a 0) (.ptr b 0)→LoopIn Tryz.prog (.seq (.seq (f54P 0) (f54P 1)) (.block 1 (.seq (f54P 2) (.seq (f54P 3) (f54P 4))))) (fun ex T' z=>ex= .exit 0∧f54L2 T'∧z=σ') m T σ)∧n0≤σ'.next:=by
  intro m
  induction m with
  |zero=>intro σ a b r k c n d p db ps s bad h hn hm;omega
  |succ m ih=>
    intro σ a b r k c n d p db ps s bad h hn hm hbd
    have l97:=ldf (t:=97) (j:=0) k97 h.ra rfl
    have l9:=ldf (t:=9) (j:=0) k9 h.rd.row rfl
    have l4:=ldf (t:=4) (j:=1) k4 h.rd.row rfl
    by_cases hs:s= []
    · have e0:picksF (m+1) s bad ps=(ps,bad):=by simp only [picksF];rw [if_pos (.inl hs)]
      rw [e0]
      refine ⟨p,s,σ,.refl h.rd.wf _,h,fun T hT=> ?_,hn⟩
      refine LoopIn.out (L:=fun T=>f54L2 T) (s:=σ) (e:= .exit 0) (by simp) ?_ fun T' hT'=>⟨rfl,hT',rfl⟩
      refine .seq (.seq ((f54_0_F l97 l9 (ne_sbF (b:= []) hs) hT).mono fun ex T1 z ⟨e1,e2,e3⟩=> ?_))
      subst e1;subst e3
      refine (f54_1_F e2).mono fun ex T2 z ⟨e4,e5,e6⟩=> ?_
      subst e4;subst e6
      exact ⟨rfl,e5,rfl⟩
    · cases bad with
      |true=>
        have e0:picksF (m+1) s true ps=(ps,true):=by simp only [picksF];rw [if_pos (.inr trivial)]
        rw [e0]
        refine ⟨p,s,σ,.refl h.rd.wf _,h,fun T hT=> ?_,hn⟩
        refine LoopIn.out (L:=fun T=>f54L2 T) (s:=σ) (e:= .exit 0) (by simp) ?_ fun T' hT'=>⟨rfl,hT',rfl⟩
        refine .seq (.seq ((f54_0_TT l97 l9 (ne_sbT (b:= []) hs) l97 l4 hT).mono fun ex T1 z ⟨e1,e2,e3⟩=> ?_))
        subst e1;subst e3
        refine (f54_1_F e2).mono fun ex T2 z ⟨e4,e5,e6⟩=> ?_
        subst e4;subst e6
        exact ⟨rfl,e5,rfl⟩
      |false=>
        have e0:picksF (m+1) s false ps=picksF m (cutB s).2 ((numR (cutB s).1).2||decide ((numR (cutB s).1).1<0)||decide (65535<(numR (cutB s).1).1)) (ps++ [((numR (cutB s).1).1%65536).toNat]):=by simp only [picksF];rw [if_neg (by simp [hs])]
        rw [e0]
        obtain ⟨s1,n1,k1,g1⟩:=number_ok h.rd
        have e1:=h.read k1 g1
        generalize hv:numR (cutB s).1=nv at n1 g1 e1
        obtain ⟨v,vb⟩:=nv
        simp only [Bool.false_or] at n1 g1 e1⊢
        have ls:=ldf (t:=97) (j:=0) k97 e1.ra rfl
        have l4':=ldf (t:=4) (j:=1) k4 e1.rd.row rfl
        have hlt:∀j∈ [a,a,r],j<s1.next:=fun j hj=>by
          simp only [List.mem_cons,List.mem_nil_iff,or_false] at hj
          rcases hj with rfl|rfl|rfl
          · exact e1.rd.wf _ _ e1.ra
          · exact e1.rd.wf _ _ e1.ra
          · exact e1.rd.wf _ _ e1.rd.row
        have sto:∀x,storeA E0 s1 4 (.ptr r 1) (bo x)=some (s1.set r (.row [sb (cutB s).2,bo x] 99)):=fun x=>stf (j:=1) (v:=bo x) z4 e1.rd.row e1.rd.lock rfl (by simp)
        have k2:∀x,Rest s1 (s1.set r (.row [sb (cutB s).2,bo x] 99)) [r]:=fun x=>Rest.set e1.rd.wf (e1.rd.wf _ _ e1.rd.row) _ (by simp)
        have e2:∀x,Es n0 (s1.set r (.row [sb (cutB s).2,bo x] 99)) a b r k c n d p db ps (cutB s).2 x:=fun x=>e1.read (k2 x) (e1.rd.step (k2 x) (by rw [St.get_set,if_pos rfl]) e1.rd.len)
        have tst:∀T,f54L3 T (.ptr a 0) (.ptr b 0) (i64 v)→AW Tryz.prog (f54P 3) (fun ex T' st'=>ex= .normal∧f54L3 T' (.ptr a 0) (.ptr b 0) (i64 v)∧st'=s1.set r (.row [sb (cutB s).2,bo (vb||decide (v<0)||decide (65535<v))] 99)) T s1:=fun T hT=>by
          cases vb with
          |true=>exact f54_3_T hlt ls ls l4' (sto true) hT
          |false=>
            by_cases hv0:v<0
            · rw [decide_eq_true hv0];exact f54_3_FT hlt ls ls l4' (lssT hv0) (sto true) hT
            · rw [decide_eq_false hv0]
              by_cases hv1:65535<v
              · rw [decide_eq_true hv1];exact f54_3_FFT hlt ls ls l4' (lssF hv0) (gtrT hv1) (sto true) hT
              · rw [decide_eq_false hv1];exact f54_3_FFF hlt ls ls l4' (lssF hv0) (gtrF hv1) (sto false) hT
        generalize hbx:(vb||decide (v<0)||decide (65535<v))=bx at tst
        have e3:=e2 bx
        have k12:Rest σ (s1.set r (.row [sb (cutB s).2,bo bx] 99)) [r]:=k1.trans (k2 bx)
        generalize s1.set r (.row [sb (cutB s).2,bo bx] 99)=s2 at tst e3 k12
        have hr3:=Rest.push e3.rd.wf (.row [u16 ((v%65536).toNat:Nat)] 66) []
        have hp3:=e3.hp.rest hr3 fun _ _=>by simp
        have hx:sliceCells (s2.push (.row [u16 ((v%65536).toNat:Nat)] 66)) (.sl s2.next 1 0 1 true)=some (1,[u16 ((v%65536).toNat:Nat)]):=by
          simp only [sliceCells,St.get_push,if_true]
          rfl
        obtain ⟨s4,p1,p2,p3,p4⟩:=app_gen (m:=1) (c:= [u16 ((v%65536).toNat:Nat)]) el52 hp3 hr3.wf (fun i _=>by rw [hr3.lock,e3.rd.lock];simp) (by omega) rfl (by decide) hx
        have bsl:=b52 s2 ((v%65536).toNat:Nat)
        have cvv:=conv366 s2 v
        generalize hq:AV.sl (s2.push (.row [u16 ((v%65536).toNat:Nat)] 66)).next 1 0 (ps.length+1) false=q at p1 p2
        have hqf:∀j∈fid q,s2.next≤j:=fun j hj=>by
          rw [←hq] at hj
          simp only [fid,List.mem_singleton,St.next_push] at hj
          omega
        obtain ⟨d1,d2,d3,d4,d5,d6,d7⟩:=e3.ne
        have dap:a∉fid p:=Ls.ne e3.hp e3.ra (by decide)
        have g4:∀i o,i∉fid p→s2.get i=some o→s4.get i=some o:=fun i o hi ho=>p3.keep i o hi (hr3.keep i o (by simp) ho)
        have l4s:s4.lock= []:=p3.lock.trans (hr3.lock.trans e3.rd.lock)
        have hoq:OwnP s4 q (ps++ [(v%65536).toNat]):=by
          unfold OwnP
          rw [List.map_append,List.length_append]
          exact p2
        have gb:=g4 b _ d6 e3.rb
        have stb:=stf (j:=4) (v:=q) z52 gb l4s (by rw [←hq];rfl) (by simp)
        have k5:=Rest.set p3.wf (p3.wf _ _ gb) (.row [i64 k,i64 c,i64 n,d,q] 54) (S:= [b]) (by simp)
        have ndp:∀j∈fid d,j∉fid p:=fun j hj hjp=>by
          rcases e3.hd with ⟨_,_,rfl⟩|⟨_,id,f,rfl,hg⟩
          · cases hj
          · simp only [fid,List.mem_singleton] at hj
            subst hj
            exact Ls.ne e3.hp hg (by decide) hjp
        have hd4:OwnB s4 d db:=Ls.keep e3.hd fun id hid hg=>g4 id _ (ndp id hid) hg
        have hw6:∀x∈ps++ [(v%65536).toNat],x<65536:=fun x hx=>by
          rcases List.mem_append.1 hx with hx|hx
          · exact e3.ps6 x hx
          · simp only [List.mem_singleton] at hx
            omega
        have e5:Es n0 (s4.set b (.row [i64 k,i64 c,i64 n,d,q] 54)) a b r k c n d q db (ps++ [(v%65536).toNat]) (cutB s).2 bx:=by
          have e1q:b∉fid q:=Ls.ne hoq gb (by decide)
          refine ⟨k5.keep _ _ (by simpa using d1) (g4 a _ dap e3.ra),by rw [St.get_set,if_pos rfl],⟨k5.keep _ _ (by simpa using Ne.symm d3) (g4 r _ d7 e3.rd.row),k5.wf,k5.lock.trans l4s,((e3.rd.tabs.rest hr3).rest p3).rest k5,((e3.rd.errs.rest hr3).rest p3).rest k5,e3.rd.len⟩,hd4.rest k5 (fun i hi e=>d4 (by simp only [List.mem_singleton] at e;rw [←e];exact hi)),hoq.rest k5 (fun i hi e=>e1q (by simp only [List.mem_singleton] at e;rw [←e];exact hi)),e3.na,e3.nb,e3.nr,e3.nd,fun j hj=> ?_,e3.c64,e3.n64,hw6⟩
          have:=hqf j hj
          have:=k12.next
          omega
        have k05:Rest σ (s4.set b (.row [i64 k,i64 c,i64 n,d,q] 54)) (b::r::fid p):=(((k12.weak (fun i hi=>by simp only [List.mem_singleton] at hi;simp [hi])).trans (hr3.weak (fun i hi=>by cases hi))).trans (p3.weak (fun i hi=>by simp [hi]))).trans (k5.weak (fun i hi=>by simp only [List.mem_singleton] at hi;simp [hi]))
        have hlt2:=cutB_lt hs
        obtain ⟨p',s',σ',u1,u2,u3,u4⟩:=ih _ a b r k c n d q db (ps++ [(v%65536).toNat]) (cutB s).2 bx e5 (Nat.le_trans hn k05.next) (by omega) (by simp only [List.length_append,List.length_singleton];omega)
        refine ⟨p',s',σ',⟨fun i o hi ho=>u1.keep i o (fun hm=> ?_) (k05.keep i o hi ho),Nat.le_trans k05.next u1.next,u1.lock.trans k05.lock,u1.gl.trans k05.gl,u1.wf⟩,u2,fun T hT=> ?_,u4⟩
        · rcases List.mem_cons.1 hm with rfl|hm
          · exact hi (by simp)
          · rcases List.mem_cons.1 hm with rfl|hm
            · exact hi (by simp)
            · have:=hqf i hm
              have:=h.rd.wf _ _ ho
              have:=k12.next
              omega
        · refine LoopIn.go (L:=fun T=>f54L0 T (.ptr a 0) (.ptr b 0)) (s:=s4.set b (.row [i64 k,i64 c,i64 n,d,q] 54)) ?_ u3
          refine .seq (.seq ((f54_0_TF l97 l9 (ne_sbT (b:= []) hs) l97 l4 hT).mono fun ex T1 z ⟨w1,w2,w3⟩=> ?_))
          subst w1;subst w3
          refine (f54_1_T w2).mono fun ex T2 z ⟨w4,w5,w6⟩=> ?_
          subst w4;subst w6
          refine AW.block (AW.andThen (f54_2 l97 n1 w5) fun T3 q3=>AW.andThen (tst T3 q3) fun T4 q4=> ?_)
          refine (f54_4 (ldf (show (E0.ty 52).map (fun i=>isAggD i.desc)=some false by kernel_rfl) e3.rb rfl) cvv bsl p1 stb q4).mono fun ex T5 z ⟨w7,w8,w9⟩=> ?_
          subst w7
          exact ⟨rfl,w8,w9⟩
end
section
set_option maxRecDepth 8000
/-! ### event -/
structure EvR where
  k:Int
  c:Int
  n:Int
  d:List UInt8
  ps:List Nat
  bad:Bool
def evRead(s:List UInt8):EvR:=
  let k:=idxN (cutB s).1
  let b0:=decide (k<1)
  let A:=stN (!b0&&decide (k∈ [2,3])) (cutB s).2 b0 0
  let B:=stN (!A.2.2&&decide (k∈ [4,6,7,8])) A.2.1 A.2.2 0
  let C:=stW (!B.2.2&&decide (k∈ [2])) B.2.1 B.2.2 []
  let D:=if !C.2.2&&decide (k∈ [8]) then picksF (C.2.1.length+1) C.2.1 C.2.2 [] else ([],C.2.2)
  ⟨k,A.1,B.1,C.1,D.1,D.2⟩
def evLineR(e:EvR):Option (List UInt8):=evLine e.k e.c e.n e.d e.ps
def evOK(s:List UInt8):Bool:= !(evRead s).bad&&decide (evLineR (evRead s)=some s)
theorem stN_le(go:Bool)(s:List UInt8)(bad:Bool)(old:Int):(stN go s bad old).2.1.length≤s.length:=by
  unfold stN
  split
  · exact (cutB_le s).2
  · exact Nat.le_refl _
theorem wordR_le(s:List UInt8):(wordR s).1.length≤s.length∧(wordR s).2.1.length≤s.length:=by
  unfold wordR
  cases hu:unqP s with
  |none=>simp
  |some q=>
    obtain ⟨B,r⟩:=q
    have e:=congrArg List.length (unq_some hu)
    have:=flat_ge B
    have:=trimB_le r
    simp only [quoteF,List.length_append,List.length_cons,List.length_nil] at e
    simp only
    omega
theorem stW_le(go:Bool)(s:List UInt8)(bad:Bool):(stW go s bad []).1.length≤s.length∧(stW go s bad []).2.1.length≤s.length:=by
  unfold stW
  split
  · exact wordR_le s
  · exact ⟨by simp,Nat.le_refl _⟩
theorem picksF_le:∀(m:Nat) (s:List UInt8) (bad:Bool) (ps:List Nat),(picksF m s bad ps).1.length≤ps.length+m
  |0,s,bad,ps=>by simp [picksF]
  |m+1,s,bad,ps=>by
    simp only [picksF]
    split
    · simp only;omega
    · have:=picksF_le m (cutB s).2 ((numR (cutB s).1).2||decide ((numR (cutB s).1).1<0)||decide (65535<(numR (cutB s).1).1)) (ps++ [((numR (cutB s).1).1%65536).toNat])
      simp only [List.length_append,List.length_singleton] at this
      omega
theorem bd99(s:ByteArray):buildA E0 99 [(0,str s)]=some (.agg [str s,FF]):=by kernel_rfl
theorem bx99(st:St)(s:ByteArray):boxA st 99 (.agg [str s,FF])=some (.ptr st.next 0,st.push (.row [str s,FF] 99)):=by kernel_rfl
theorem al97(st:St):allocA E0 st 97=some (.ptr st.next 0,st.push (.row [.nilp] 97)):=by kernel_rfl
theorem bd54(k:Int):buildA E0 54 [(0,i64 k)]=some (.agg [i64 k,i64 0,i64 0,.nils,.nils]):=by kernel_rfl
theorem z97:tySize E0 97=some 1:=by kernel_rfl
theorem b100_1(st:St)(a:Int):buildSliceA E0 st 100 1 [(0,i64 a)]=some (.sl st.next 1 0 1 true,st.push (.row [i64 a] 3)):=by kernel_rfl
theorem b100_2(st:St)(a b:Int):buildSliceA E0 st 100 2 [(0,i64 a),(1,i64 b)]=some (.sl st.next 1 0 2 true,st.push (.row [i64 a,i64 b] 3)):=by kernel_rfl
theorem b100_4(st:St)(a b c d:Int):buildSliceA E0 st 100 4 [(0,i64 a),(1,i64 b),(2,i64 c),(3,i64 d)]=some (.sl st.next 1 0 4 true,st.push (.row [i64 a,i64 b,i64 c,i64 d] 3)):=by kernel_rfl
/-- the reads of picks -/
theorem pick_step{n0:Nat}{σ:St}{a b r:Nat}{k c n:Int}{d p:AV}{db:List UInt8}{ps:List Nat}{s:List UInt8}{bad:Bool}(h:Es n0 σ a b r k c n d p db ps s bad)(hn0:n0≤σ.next){l:List Int}{id:Nat}(hb:l.length≤1000)(hg:σ.get id=some (.row (l.map fun x=>i64 x) 3))(hbd:ps.length+s.length≤3000000000):
    ∃p' s' σ',obC 47 [.fn (.func 54) [] [.ptr a 0,.ptr b 0],.sl id 1 0 l.length true,.ptr a 0,.ptr b 0] σ (.tup []) σ'∧Rest σ σ' (b::r::fid p)∧Es n0 σ' a b r k c n d p' db (if !bad&&decide (k∈l) then picksF (s.length+1) s bad ps else (ps,bad)).1 s' (if !bad&&decide (k∈l) then picksF (s.length+1) s bad ps else (ps,bad)).2:=by
  obtain ⟨h1,h2,h3,h4⟩:=reads h hb hg
  cases bad with
  |true=>exact ⟨p,s,σ,f47d_T h1 h2,.refl h.rd.wf _,h⟩
  |false=>
    by_cases hk:k∈l
    · rw [decide_eq_true hk] at h4⊢
      obtain ⟨p',s',σ',u1,u2,u3,u4⟩:=picks_loop2 (s.length+1) σ a b r k c n d p db ps s false h hn0 (by omega) hbd
      refine ⟨p',s',σ',f47d_FT h1 h2 h3 h4 ?_,u1,u2⟩
      refine ACalls.body (E:=E0) hE Tryz.func54 f54body ?_
      refine AW.block ((AW.loopIn (u3 _ ⟨rfl,rfl,rfl⟩)).mono fun ex T' z ⟨e1,e2,e3⟩=> ?_)
      subst e1;subst e3
      simp only [blockA,if_true]
      exact ⟨[],rfl,rfl,rfl⟩
    · rw [decide_eq_false hk] at h4⊢
      exact ⟨p,s,σ,f47d_FF h1 h2 h3 h4,.refl h.rd.wf _,h⟩
end
section
set_option maxRecDepth 8000
theorem res24{T:Tm}{z:St}{c:Nat}{x1 x2 x3 x4 x5 b:AV}(hT:f24L6 T (.ptr c 0) b)(hc:z.get c=some (.row [x1,x2,x3,x4,x5] 54)):resA E0 T z Tryz.f24.results.toList=some [.agg [x1,x2,x3,x4,x5],b]:=by
  obtain ⟨_,q2,q3⟩:=hT
  have e:Tryz.f24.results.toList= [.cell 2 54,.tmp 3]:=by kernel_rfl
  rw [e]
  simp only [resA,q2,q3,ld38 hc rfl]
  rfl
/-- the start: the reader, the event's cell -/
theorem event_start{st:St}{s:List UInt8}(hw:st.wf)(hl:st.lock= [])(hgl:Tabs st)(herr:ErrV st)(hs:s.length≤100000):
    ∃a b r σ,Es st.next σ a b r (idxN (cutB s).1) 0 0 .nils .nils [] [] (cutB s).2 (decide (idxN (cutB s).1<1))∧Rest st σ []∧σ.get st.next=some (.row [i64 0,i64 0,i64 0,.nils,.nils] 54)∧st.next≠b∧st.next<σ.next∧
      ∀(r':AV) (z:St),(∀T,f24L4 T (sb s) (.ptr st.next 0) (.ptr a 0) (.ptr b 0) (.fn (.func 47) [] [.ptr a 0,.ptr b 0])→AW Tryz.prog (.seq (f24P 4) (.seq (f24P 5) (.seq (f24P 6) (.seq (f24P 7) (.seq (f24P 8) (.seq (f24P 9) (f24P 10))))))) (endA E0 Tryz.f24 (fun q s=>q=r'∧s=z)) T σ)→obC 24 [sb s] st r' z:=by
  have r1:=Rest.push hw (.row [i64 0,i64 0,i64 0,.nils,.nils] 54) []
  have g1:(st.push (.row [i64 0,i64 0,i64 0,.nils,.nils] 54)).get st.next=some (.row [i64 0,i64 0,i64 0,.nils,.nils] 54):=get_new _ _ rfl
  have h0:=al38 st
  have n1:(st.push (.row [i64 0,i64 0,i64 0,.nils,.nils] 54)).next=st.next+1:=rfl
  generalize st.push (.row [i64 0,i64 0,i64 0,.nils,.nils] 54)=s1 at r1 g1 h0 n1
  have r2:=Rest.push r1.wf (.row [sb s,FF] 99) []
  have h2:=bx99 s1 ⟨s.toArray⟩
  have g2:(s1.push (.row [sb s,FF] 99)).get s1.next=some (.row [sb s,FF] 99):=get_new _ _ rfl
  have n2:(s1.push (.row [sb s,FF] 99)).next=s1.next+1:=rfl
  generalize s1.push (.row [sb s,FF] 99)=s2 at r2 h2 g2 n2
  have r3:=Rest.push r2.wf (.row [.nilp] 97) []
  have h3:=al97 s2
  have g3:(s2.push (.row [.nilp] 97)).get s2.next=some (.row [.nilp] 97):=get_new _ _ rfl
  have l3:(s2.push (.row [.nilp] 97)).lock= []:=(((r1.trans r2).trans r3).lock).trans hl
  have n3:(s2.push (.row [.nilp] 97)).next=s2.next+1:=rfl
  generalize s2.push (.row [.nilp] 97)=s3 at r3 h3 g3 l3 n3
  have h4:storeA E0 s3 97 (.ptr s2.next 0) (.ptr s1.next 0)=some (s3.set s2.next (.row [.ptr s1.next 0] 97)):=stf (j:=0) (v:= .ptr s1.next 0) z97 g3 l3 rfl (by simp)
  have r4:=Rest.set r3.wf (r3.wf _ _ g3) (.row [.ptr s1.next 0] 97) (S:= [s2.next]) (by simp)
  have r04:Rest st (s3.set s2.next (.row [.ptr s1.next 0] 97)) []:=((r1.trans r2).trans r3).fresh r4 hw (by simp only [List.mem_singleton,forall_eq];omega)
  have g4:(s3.set s2.next (.row [.ptr s1.next 0] 97)).get s2.next=some (.row [.ptr s1.next 0] 97):=by rw [St.get_set,if_pos rfl]
  have gr4:(s3.set s2.next (.row [.ptr s1.next 0] 97)).get s1.next=some (.row [sb s,FF] 99):=r4.keep _ _ (by simp;omega) (r3.keep _ _ (by simp) g2)
  have gc4:(s3.set s2.next (.row [.ptr s1.next 0] 97)).get st.next=some (.row [i64 0,i64 0,i64 0,.nils,.nils] 54):=r4.keep _ _ (by simp;omega) ((r2.trans r3).keep _ _ (by simp) g1)
  have n4:(s3.set s2.next (.row [.ptr s1.next 0] 97)).next=st.next+3:=by show s3.next=_;omega
  generalize s3.set s2.next (.row [.ptr s1.next 0] 97)=s4 at h4 r04 g4 gr4 gc4 n4
  have hrd:Rd s4 s1.next s false:=⟨gr4,r04.wf,r04.lock.trans hl,hgl.rest r04,herr.rest r04,by omega⟩
  obtain ⟨s5,h5,r5,hrd5⟩:=kind_ok hrd
  have h6:=al38 s5
  have r6:=Rest.push r5.wf (.row [i64 0,i64 0,i64 0,.nils,.nils] 54) []
  have g6:(s5.push (.row [i64 0,i64 0,i64 0,.nils,.nils] 54)).get s5.next=some (.row [i64 0,i64 0,i64 0,.nils,.nils] 54):=get_new _ _ rfl
  have n6:(s5.push (.row [i64 0,i64 0,i64 0,.nils,.nils] 54)).next=s5.next+1:=rfl
  have l6:(s5.push (.row [i64 0,i64 0,i64 0,.nils,.nils] 54)).lock= []:=r6.lock.trans hrd5.lock
  generalize s5.push (.row [i64 0,i64 0,i64 0,.nils,.nils] 54)=s6 at h6 r6 g6 n6 l6
  have h7:=st38 (cs:= [i64 (idxN (cutB s).1),i64 0,i64 0,.nils,.nils]) g6 rfl rfl (by rw [l6];simp)
  have r7:=Rest.set r6.wf (r6.wf _ _ g6) (.row [i64 (idxN (cutB s).1),i64 0,i64 0,.nils,.nils] 54) (S:= [s5.next]) (by simp)
  have nx:=r5.next
  have ga7:∀{i o},i<s5.next→s5.get i=some o→(s6.set s5.next (.row [i64 (idxN (cutB s).1),i64 0,i64 0,.nils,.nils] 54)).get i=some o:=fun {i o} hi ho=>r7.keep _ _ (by simp;omega) (r6.keep _ _ (by simp) ho)
  have r67:Rest s5 (s6.set s5.next (.row [i64 (idxN (cutB s).1),i64 0,i64 0,.nils,.nils] 54)) []:=r6.fresh r7 r5.wf (by simp)
  have r07:Rest st (s6.set s5.next (.row [i64 (idxN (cutB s).1),i64 0,i64 0,.nils,.nils] 54)) []:=(r04.fresh r5 hw (by simp only [List.mem_singleton,forall_eq];omega)).trans r67
  have g5a:s5.get s2.next=some (.row [.ptr s1.next 0] 97):=r5.keep _ _ (by simp;omega) g4
  have g5c:s5.get st.next=some (.row [i64 0,i64 0,i64 0,.nils,.nils] 54):=r5.keep _ _ (by simp;omega) gc4
  refine ⟨s2.next,s5.next,s1.next,_,⟨ga7 (by omega) g5a,by rw [St.get_set,if_pos rfl],hrd5.keep r67 (by simp),.inl ⟨rfl,rfl,rfl⟩,.inl ⟨rfl,rfl,rfl⟩,by omega,by omega,by omega,(fun j hj=>by cases hj),(fun j hj=>by cases hj),⟨by decide,by decide⟩,⟨by decide,by decide⟩,(fun x hx=>by cases hx)⟩,r07,ga7 (by omega) g5c,by omega,by show st.next<s6.next;omega,fun r' z hk=> ?_⟩
  refine ACalls.body (E:=E0) hE Tryz.func24 f24body ?_
  refine AW.andThen (f24_0 (s:=⟨s.toArray⟩) h0 ⟨rfl,rfl⟩) fun T1 q1=> ?_
  refine AW.andThen (f24_1 (bd99 _) h2 h3 h4 q1) fun T2 q2=> ?_
  refine AW.andThen (f24_2 (ldf k97 g4 rfl) h5 (bd54 _) h6 h7 q2) fun T3 q3=> ?_
  exact AW.andThen (f24_3 q3) fun T4 q4=>hk T4 q4
theorem event_ok{st:St}{s:List UInt8}(hw:st.wf)(hl:st.lock= [])(hgl:Tabs st)(herr:ErrV st)(hs:s.length≤100000):
    ∃d p s',obC 24 [sb s] st (.tup [.agg [i64 (evRead s).k,i64 (evRead s).c,i64 (evRead s).n,d,p],bo (evOK s)]) s'∧Rest st s' []∧OwnB s' d (evRead s).d∧OwnP s' p (evRead s).ps∧I64 (evRead s).c∧I64 (evRead s).n∧∀x∈(evRead s).ps,x<65536:=by
  obtain ⟨a,b,r,σ,e0,r0,gc0,hcb,hlt,start⟩:=event_start hw hl hgl herr hs
  have rA:=Rest.push e0.rd.wf (.row [i64 2,i64 3] 3) []
  have gA:(σ.push (.row [i64 2,i64 3] 3)).get σ.next=some (.row (([2,3]:List Int).map fun x=>i64 x) 3):=get_new _ _ rfl
  obtain ⟨s1,c1,r1,e1⟩:=conn_step (e0.keep rA) (l:= [2,3]) (by simp) gA
  have rB:=Rest.push e1.rd.wf (.row [i64 4,i64 6,i64 7,i64 8] 3) []
  have gB:(s1.push (.row [i64 4,i64 6,i64 7,i64 8] 3)).get s1.next=some (.row (([4,6,7,8]:List Int).map fun x=>i64 x) 3):=get_new _ _ rfl
  obtain ⟨s2,c2,r2,e2⟩:=num_step (e1.keep rB) (l:= [4,6,7,8]) (by simp) gB
  have nx1:st.next≤s1.next:=Nat.le_trans (Nat.le_trans r0.next rA.next) r1.next
  have nx2:st.next≤s2.next:=Nat.le_trans (Nat.le_trans nx1 rB.next) r2.next
  have rC:=Rest.push e2.rd.wf (.row [i64 2] 3) []
  have gC:(s2.push (.row [i64 2] 3)).get s2.next=some (.row (([2]:List Int).map fun x=>i64 x) 3):=get_new _ _ rfl
  obtain ⟨d3,s3,c3,r3,e3⟩:=word_step (e2.keep rC) (Nat.le_trans nx2 rC.next) (l:= [2]) (by simp) gC
  have nx3:st.next≤s3.next:=Nat.le_trans (Nat.le_trans nx2 rC.next) r3.next
  have rD:=Rest.push e3.rd.wf (.row [i64 8] 3) []
  have gD:(s3.push (.row [i64 8] 3)).get s3.next=some (.row (([8]:List Int).map fun x=>i64 x) 3):=get_new _ _ rfl
  have q0:=(cutB_le s).2
  have q1:=stN_le (!decide (idxN (cutB s).1<1)&&decide (idxN (cutB s).1∈([2,3]:List Int))) (cutB s).2 (decide (idxN (cutB s).1<1)) 0
  generalize hA:stN (!decide (idxN (cutB s).1<1)&&decide (idxN (cutB s).1∈([2,3]:List Int))) (cutB s).2 (decide (idxN (cutB s).1<1)) 0=A at e1 e2 e3 q1
  have q2:=stN_le (!A.2.2&&decide (idxN (cutB s).1∈([4,6,7,8]:List Int))) A.2.1 A.2.2 0
  generalize hB:stN (!A.2.2&&decide (idxN (cutB s).1∈([4,6,7,8]:List Int))) A.2.1 A.2.2 0=B at e2 e3 q2
  have q3:=stW_le (!B.2.2&&decide (idxN (cutB s).1∈([2]:List Int))) B.2.1 B.2.2
  generalize hC:stW (!B.2.2&&decide (idxN (cutB s).1∈([2]:List Int))) B.2.1 B.2.2 []=C at e3 q3
  obtain ⟨p4,t4,s4,c4,r4,e4⟩:=pick_step (e3.keep rD) (Nat.le_trans nx3 rD.next) (l:= [8]) (by simp) gD (by simp only [List.length_nil];omega)
  generalize hD:(if !C.2.2&&decide (idxN (cutB s).1∈([8]:List Int)) then picksF (C.2.1.length+1) C.2.1 C.2.2 [] else (([]:List Nat),C.2.2))=D at e4
  have hread:evRead s=⟨idxN (cutB s).1,A.1,B.1,C.1,D.1,D.2⟩:=by
    simp only [evRead,hA,hB,hC,hD]
  have hDl:D.1.length≤100001:=by
    rw [←hD]
    split
    · have:=picksF_le (C.2.1.length+1) C.2.1 C.2.2 []
      simp only [List.length_nil] at this
      omega
    · simp
  have kept:Rest st s4 []:=by
    have hnb:=e0.nb
    have hnr:=e0.nr
    have k1:=(r0.trans rA).fresh r1 hw (by simp only [List.mem_cons,List.mem_nil_iff,or_false];rintro i (rfl|rfl)<;>assumption)
    have k2:=(k1.trans rB).fresh r2 hw (by simp only [List.mem_cons,List.mem_nil_iff,or_false];rintro i (rfl|rfl)<;>assumption)
    have k3:=(k2.trans rC).fresh r3 hw (by simp only [List.mem_cons,List.mem_nil_iff,or_false];rintro i (rfl|rfl)<;>assumption)
    exact (k3.trans rD).fresh r4 hw (fun i hi=>by
      rcases List.mem_cons.1 hi with rfl|hi
      · exact hnb
      · rcases List.mem_cons.1 hi with rfl|hi
        · exact hnr
        · exact e3.np i hi)
  have gc4:s4.get st.next=some (.row [i64 0,i64 0,i64 0,.nils,.nils] 54):=by
    have cr:st.next≠r:=row_ne gc0 e0.rd.row (by decide)
    have u1:=r1.keep _ _ (by simp [hcb,cr]) (rA.keep _ _ (by simp) gc0)
    have u2:=r2.keep _ _ (by simp [hcb,cr]) (rB.keep _ _ (by simp) u1)
    have u3:=r3.keep _ _ (by simp [hcb,cr]) (rC.keep _ _ (by simp) u2)
    have u4:=rD.keep _ _ (by simp) u3
    have np:st.next∉fid .nils:=by simp [fid]
    refine r4.keep _ _ (fun hm=> ?_) u4
    rcases List.mem_cons.1 hm with h|h
    · exact hcb h
    · rcases List.mem_cons.1 h with h|h
      · exact cr h
      · cases h
  obtain ⟨s5,c5,r5⟩:=eventLine_ok (k:=idxN (cutB s).1) (c:=A.1) (n:=B.1) (d:=d3) (p:=p4) (db:=C.1) (ps:=D.1) e4.rd.wf e4.rd.lock e4.rd.tabs e4.hd.bs e4.hp.ns e4.c64 e4.n64 (by omega) e4.ps6 (by omega)
  have e5:=e4.keep r5
  have gc5:=r5.keep _ _ (by simp) gc4
  have lb:=ld38 e5.rb rfl
  have la:=ldf (t:=97) (j:=0) k97 e5.ra rfl
  have lr:=ldf (t:=4) (j:=1) k4 e5.rd.row rfl
  have hlt5:∀j∈ [b,a,r],j<s5.next:=fun j hj=>by
    simp only [List.mem_cons,List.mem_nil_iff,or_false] at hj
    rcases hj with rfl|rfl|rfl
    · exact e5.rd.wf _ _ e5.rb
    · exact e5.rd.wf _ _ e5.ra
    · exact e5.rd.wf _ _ e5.rd.row
  have hall: [b,a,r].all (fun j=>(s5.get j).isSome)=true:=by simp [e5.rb,e5.ra,e5.rd.row]
  have cr:st.next≠r:=row_ne gc5 e5.rd.row (by decide)
  have ca:st.next≠a:=row_ne gc5 e5.ra (by decide)
  have hst:storeA E0 (s5.hide [b,a,r]) 54 (.ptr st.next 0) (.agg [i64 (idxN (cutB s).1),i64 A.1,i64 B.1,d3,p4])=some ((s5.hide [b,a,r]).set st.next (.row [i64 (idxN (cutB s).1),i64 A.1,i64 B.1,d3,p4] 54)):=
    st38 (vs:= [i64 0,i64 0,i64 0,.nils,.nils]) gc5 rfl rfl (by show st.next∉ [b,a,r]++s5.lock;rw [e5.rd.lock];simp [hcb,ca,cr])
  have hz:∀i o,i≠st.next→s5.get i=some o→(((s5.hide [b,a,r]).set st.next (.row [i64 (idxN (cutB s).1),i64 A.1,i64 B.1,d3,p4] 54)).show s5 [b,a,r]).get i=some o:=fun i o hi ho=>by
    rw [St.show_get]
    split
    · exact ho
    · rw [St.get_set,if_neg hi];exact ho
  have hzc:(((s5.hide [b,a,r]).set st.next (.row [i64 (idxN (cutB s).1),i64 A.1,i64 B.1,d3,p4] 54)).show s5 [b,a,r]).get st.next=some (.row [i64 (idxN (cutB s).1),i64 A.1,i64 B.1,d3,p4] 54):=by
    rw [St.show_get,if_neg (by simp [hcb,ca,cr]),St.get_set,if_pos rfl]
  have hzr:Rest s5 (((s5.hide [b,a,r]).set st.next (.row [i64 (idxN (cutB s).1),i64 A.1,i64 B.1,d3,p4] 54)).show s5 [b,a,r]) [st.next]:=by
    refine ⟨fun i o hi ho=>hz i o (by simpa using hi) ho,by rw [St.show_next];exact Nat.le_refl _,rfl,by rw [St.show_gl];rfl,fun i o ho=> ?_⟩
    rw [St.show_next]
    show i<s5.next
    rw [St.show_get] at ho
    split at ho
    · exact e5.rd.wf _ _ ho
    · rw [St.get_set] at ho
      split at ho
      · rename_i h;rw [h];exact e5.rd.wf _ _ gc5
      · exact e5.rd.wf _ _ ho
  generalize hfin:((s5.hide [b,a,r]).set st.next (.row [i64 (idxN (cutB s).1),i64 A.1,i64 B.1,d3,p4] 54)).show s5 [b,a,r]=zf at hz hzc hzr
  have ncd:st.next∉fid d3:=Ls.ne e5.hd gc5 (by decide)
  have ncp:st.next∉fid p4:=Ls.ne e5.hp gc5 (by decide)
  rw [hread]
  have hokv:evOK s=(!D.2&&decide (evLine (idxN (cutB s).1) A.1 B.1 C.1 D.1=some s)):=by
    simp only [evOK,hread,evLineR]
  refine ⟨d3,p4,zf,start _ zf fun T q=> ?_,(kept.trans r5).fresh hzr hw (by simp),e5.hd.rest hzr (fun i hi e=>ncd (by simp only [List.mem_singleton] at e;rw [←e];exact hi)),e5.hp.rest hzr (fun i hi e=>ncp (by simp only [List.mem_singleton] at e;rw [←e];exact hi)),e5.c64,e5.n64,e5.ps6⟩
  refine AW.andThen (f24_4 (b100_2 σ 2 3) c1 q) fun T1 q1=> ?_
  refine AW.andThen (f24_5 (b100_4 s1 4 6 7 8) c2 q1) fun T2 q2=> ?_
  refine AW.andThen (f24_6 (b100_1 s2 2) c3 q2) fun T3 q3=> ?_
  refine AW.andThen (f24_7 (b100_1 s3 8) c4 q3) fun T4 q4=> ?_
  refine AW.andThen (f24_8 (ld38 e4.rb rfl) c5 q4) fun T5 q5=> ?_
  rw [show f24P 10= .ret from by kernel_rfl,hokv]
  have fin:∀{T:Tm} {x:Bool},f24L6 T (.ptr st.next 0) (bo x)→endA E0 Tryz.f24 (fun q s'=>q= .tup [.agg [i64 (idxN (cutB s).1),i64 A.1,i64 B.1,d3,p4],bo x]∧s'=zf) .ret T zf:=fun q=>⟨_,res24 q hzc,rfl,rfl⟩
  cases hb:D.2 with
  |true=>
    rw [hb] at lr
    have f9:=f24_9_T hlt5 lb la lr hall hst q5
    rw [hfin] at f9
    exact AW.andThen (L:=fun T=>f24L6 T (.ptr st.next 0) (bo false)) f9 fun T6 q6=>AW.ret (fin q6)
  |false=>
    rw [hb] at lr
    cases hv:evLine (idxN (cutB s).1) A.1 B.1 C.1 D.1 with
    |none=>
      rw [hv] at q5
      have f9:=f24_9_FF hlt5 lb la lr hall hst q5
      rw [hfin] at f9
      exact AW.andThen (L:=fun T=>f24L6 T (.ptr st.next 0) (bo false)) f9 fun T6 q6=>AW.ret (fin q6)
    |some l=>
      rw [hv] at q5
      by_cases hls:l=s
      · have f9:=f24_9_FTT hlt5 lb la lr (eq_sbT hls) hall hst q5
        rw [hfin] at f9
        have e:(!false&&decide (some l=some s))=true:=by simp [hls]
        rw [e]
        exact AW.andThen (L:=fun T=>f24L6 T (.ptr st.next 0) (bo true)) f9 fun T6 q6=>AW.ret (fin q6)
      · have f9:=f24_9_FTF hlt5 lb la lr (eq_sbF hls) hall hst q5
        rw [hfin] at f9
        have e:(!false&&decide (some l=some s))=false:=by simp [hls]
        rw [e]
        exact AW.andThen (L:=fun T=>f24L6 T (.ptr st.next 0) (bo false)) f9 fun T6 q6=>AW.ret (fin q6)
end
section
set_option maxRecDepth 8000
/-! ### row -/
structure RwR where
  k:Int
  e:Int
  c:Int
  n:Int
  d:List UInt8
  en:Bool
  bad:Bool
/-- behind the Kind and the word told -/
def rowRest(k:Int)(told s:List UInt8)(bad:Bool):RwR:=
  if told=errB then ⟨k,(numR (cutB s).1).1,0,0,[],false,bad||(numR (cutB s).1).2⟩
  else if told≠okB then ⟨k,0,0,0,[],false,true⟩
  else if k=1 then ⟨k,0,(numR (cutB s).1).1,0,[],false,bad||(numR (cutB s).1).2⟩
  else if k=5 then ⟨k,0,0,(numR (cutB s).1).1,[],false,bad||(numR (cutB s).1).2⟩
  else if k=2 then ⟨k,0,0,0,(wordR s).1,decide ((cutB (wordR s).2.1).1=endB true),bad||(wordR s).2.2⟩
  else ⟨k,0,0,0,[],false,bad⟩
def rowRead(s:List UInt8):RwR:=
  let k:=idxN (cutB s).1
  rowRest k (cutB (cutB s).2).1 (cutB (cutB s).2).2 (decide (k<1))
def rowFR(x:RwR):Option (List UInt8):=rowF x.k x.e x.c x.n x.d x.en
def rowOK(s:List UInt8):Bool:= !(rowRead s).bad&&decide (rowFR (rowRead s)=some s)
structure Er (n0:Nat) (σ:St) (b r:Nat) (k e c n:Int) (d:AV) (en:Bool) (db:List UInt8) (s:List UInt8) (bad:Bool):Prop where
  rb:σ.get b=some (.row [i64 k,i64 e,i64 c,i64 n,d,bo en] 70)
  rd:Rd σ r s bad
  hd:OwnB σ d db
  nb:n0≤b
  nr:n0≤r
  nd:∀j∈fid d,n0≤j
  e64:I64 e
  c64:I64 c
  n64:I64 n
theorem Er.ne{n0:Nat}{σ:St}{b r:Nat}{k e c n:Int}{d:AV}{en:Bool}{db:List UInt8}{s:List UInt8}{bad:Bool}(h:Er n0 σ b r k e c n d en db s bad):b≠r∧b∉fid d∧r∉fid d:=
  ⟨row_ne h.rb h.rd.row (by decide),Ls.ne h.hd h.rb (by decide),Ls.ne h.hd h.rd.row (by decide)⟩
theorem Er.keep{n0:Nat}{σ σ':St}{b r:Nat}{k e c n:Int}{d:AV}{en:Bool}{db:List UInt8}{s:List UInt8}{bad:Bool}(h:Er n0 σ b r k e c n d en db s bad)(k':Rest σ σ' []):Er n0 σ' b r k e c n d en db s bad:=
  ⟨k'.keep _ _ (by simp) h.rb,h.rd.keep k' (by simp),h.hd.rest k' fun _ _=>by simp,h.nb,h.nr,h.nd,h.e64,h.c64,h.n64⟩
theorem Er.read{n0:Nat}{σ σ':St}{b r:Nat}{k e c n:Int}{d:AV}{en:Bool}{db:List UInt8}{s s':List UInt8}{bad bad':Bool}(h:Er n0 σ b r k e c n d en db s bad)(k':Rest σ σ' [r])(hr:Rd σ' r s' bad'):Er n0 σ' b r k e c n d en db s' bad':=by
  obtain ⟨h1,h2,h3⟩:=h.ne
  exact ⟨k'.keep _ _ (by simpa using h1) h.rb,hr,h.hd.rest k' (fun i hi e=>h3 (by simp only [List.mem_singleton] at e;rw [←e];exact hi)),h.nb,h.nr,h.nd,h.e64,h.c64,h.n64⟩
theorem Er.set{n0:Nat}{σ:St}{b r:Nat}{k e c n:Int}{d:AV}{en:Bool}{db:List UInt8}{s:List UInt8}{bad:Bool}(h:Er n0 σ b r k e c n d en db s bad){e' c' n':Int}{d':AV}{en':Bool}{db':List UInt8}(he:I64 e')(hc:I64 c')(hn:I64 n')(hd:OwnB σ d' db')(nd:∀j∈fid d',n0≤j):
    Er n0 (σ.set b (.row [i64 k,i64 e',i64 c',i64 n',d',bo en'] 70)) b r k e' c' n' d' en' db' s bad∧Rest σ (σ.set b (.row [i64 k,i64 e',i64 c',i64 n',d',bo en'] 70)) [b]:=by
  obtain ⟨h1,h2,h3⟩:=h.ne
  have kk:=Rest.set h.rd.wf (h.rd.wf _ _ h.rb) (.row [i64 k,i64 e',i64 c',i64 n',d',bo en'] 70) (S:= [b]) (by simp)
  have e1:b∉fid d':=Ls.ne hd h.rb (by decide)
  exact ⟨⟨by rw [St.get_set,if_pos rfl],h.rd.keep kk (by simpa using Ne.symm h1),hd.rest kk (fun i hi e=>e1 (by simp only [List.mem_singleton] at e;rw [←e];exact hi)),h.nb,h.nr,nd,he,hc,hn⟩,kk⟩
theorem z23:tySize E0 23=some 1:=by kernel_rfl
theorem i0:I64 0:=⟨by decide,by decide⟩
theorem w2{a b r:Nat}{σ σ' σ2:St}(h:Rest σ σ' [r])(k:Rest σ' σ2 [b]):Rest σ σ2 [b,r]:=(h.weak (fun i hi=>by simp only [List.mem_singleton] at hi;simp [hi])).trans (k.weak (fun i hi=>by simp only [List.mem_singleton] at hi;simp [hi]))
noncomputable abbrev blk33:Code:= .block 0 (.seq (f33P 4) (.cond (.tmp 17) (f33P 5) (.seq (f33P 6) (.cond (.tmp 23) (f33P 7) (.seq (f33P 8) (.cond (.tmp 29) (f33P 9) (.seq (f33P 10) (.cond (.tmp 36) (f33P 11) (.seq (f33P 12) (.cond (.tmp 43) (.seq (f33P 13) (f33P 14)) (f33P 15)))))))))))
theorem row_rest{n0:Nat}{σ:St}{c0 b r:Nat}{k:Int}{s0 told s:List UInt8}{bad:Bool}(h:Er n0 σ b r k 0 0 0 .nils false [] s bad)(hn0:n0≤σ.next):
    ∃d' s' σ',Rest σ σ' [b,r]∧Er n0 σ' b r (rowRest k told s bad).k (rowRest k told s bad).e (rowRest k told s bad).c (rowRest k told s bad).n d' (rowRest k told s bad).en (rowRest k told s bad).d s' (rowRest k told s bad).bad∧
      ∀T,f33L4 T (sb s0) (.ptr c0 0) (.ptr r 0) (.ptr b 0) (sb told)→AW Tryz.prog blk33 (fun ex T' st'=>ex= .normal∧f33L3 T' (sb s0) (.ptr c0 0) (.ptr r 0) (.ptr b 0)∧st'=σ') T σ:=by
  have fin:∀{T:Tm} {σ σ':St} {cd:Code},AW Tryz.prog cd (fun ex T' st'=>ex= .normal∧f33L3 T' (sb s0) (.ptr c0 0) (.ptr r 0) (.ptr b 0)∧st'=σ') T σ→AW Tryz.prog (.block 0 cd) (fun ex T' st'=>ex= .normal∧f33L3 T' (sb s0) (.ptr c0 0) (.ptr r 0) (.ptr b 0)∧st'=σ') T σ:=fun h=>AW.block (h.mono fun ex T' st' ⟨e1,e2,e3⟩=>by
    subst e1;exact ⟨rfl,e2,e3⟩)
  have lk:=ldf (t:=3) (j:=0) k3 h.rb rfl
  unfold rowRest
  by_cases h1:told=errB
  · rw [if_pos h1]
    obtain ⟨s1,n1,k1,g1⟩:=number_ok h.rd
    have e1:=h.read k1 g1
    have st1:=stf (j:=1) (v:=i64 (numR (cutB s).1).1) z23 e1.rb e1.rd.lock rfl (by simp)
    obtain ⟨e2,k2⟩:=e1.set (en':=false) (numR_I64 (cutB s).1) i0 i0 e1.hd e1.nd
    exact ⟨_,_,_,w2 (a:=0) k1 k2,e2,fun T hT=>fin (AW.cnd (b:=true) (f33_4_T (eq_sbT (b:=errB) h1) hT) (fun T' q=>q.2.2.2.2.2.2) fun T' q=>f33_5 n1 st1 ⟨q.1,q.2.1,q.2.2.1,q.2.2.2.1,q.2.2.2.2.1⟩)⟩
  · rw [if_neg h1]
    have c1:∀{Q:Exit→Tm→St→Prop} {x y:Code} {T:Tm},f33L4 T (sb s0) (.ptr c0 0) (.ptr r 0) (.ptr b 0) (sb told)→(∀T',f33L4 T' (sb s0) (.ptr c0 0) (.ptr r 0) (.ptr b 0) (sb told)→AW Tryz.prog y Q T' σ)→AW Tryz.prog (.seq (f33P 4) (.cond (.tmp 17) x y)) Q T σ:=fun {Q x y T} hT k=>AW.cnd (b:=false) (f33_4_F (eq_sbF (b:=errB) h1) hT) (fun T' q=>q.2.2.2.2.2.2) fun T' q=>k T' ⟨q.1,q.2.1,q.2.2.1,q.2.2.2.1,q.2.2.2.2.1,q.2.2.2.2.2.1⟩
    by_cases h2:told=okB
    · rw [if_neg (by simpa using h2)]
      have c2:∀{Q:Exit→Tm→St→Prop} {x y:Code} {T:Tm},f33L4 T (sb s0) (.ptr c0 0) (.ptr r 0) (.ptr b 0) (sb told)→(∀T',f33L3 T' (sb s0) (.ptr c0 0) (.ptr r 0) (.ptr b 0)→AW Tryz.prog y Q T' σ)→AW Tryz.prog (.seq (f33P 6) (.cond (.tmp 23) x y)) Q T σ:=fun {Q x y T} hT k=>AW.cnd (b:=false) (f33_6_F (ne_sbF (b:=okB) h2) hT) (fun T' q=>q.2.2.2.2.2) fun T' q=>k T' ⟨q.1,q.2.1,q.2.2.1,q.2.2.2.1,q.2.2.2.2.1⟩
      by_cases h3:k=1
      · rw [if_pos h3]
        obtain ⟨s1,n1,k1,g1⟩:=number_ok h.rd
        have e1:=h.read k1 g1
        have st1:=stf (j:=2) (v:=i64 (numR (cutB s).1).1) z3 e1.rb e1.rd.lock rfl (by simp)
        obtain ⟨e2,k2⟩:=e1.set (en':=false) i0 (numR_I64 (cutB s).1) i0 e1.hd e1.nd
        exact ⟨_,_,_,w2 (a:=0) k1 k2,e2,fun T hT=>fin (c1 hT fun T1 q1=>c2 q1 fun T2 q2=>AW.cnd (b:=true) (f33_8_T lk (eqlT h3) q2) (fun T' q=>q.2.2.2.2.2) fun T' q=>f33_9 n1 st1 ⟨q.1,q.2.1,q.2.2.1,q.2.2.2.1,q.2.2.2.2.1⟩)⟩
      · rw [if_neg h3]
        have c3:∀{Q:Exit→Tm→St→Prop} {x y:Code} {T:Tm},f33L3 T (sb s0) (.ptr c0 0) (.ptr r 0) (.ptr b 0)→(∀T',f33L3 T' (sb s0) (.ptr c0 0) (.ptr r 0) (.ptr b 0)→AW Tryz.prog y Q T' σ)→AW Tryz.prog (.seq (f33P 8) (.cond (.tmp 29) x y)) Q T σ:=fun {Q x y T} hT k'=>AW.cnd (b:=false) (f33_8_F lk (eqlF h3) hT) (fun T' q=>q.2.2.2.2.2) fun T' q=>k' T' ⟨q.1,q.2.1,q.2.2.1,q.2.2.2.1,q.2.2.2.2.1⟩
        by_cases h4:k=5
        · rw [if_pos h4]
          obtain ⟨s1,n1,k1,g1⟩:=number_ok h.rd
          have e1:=h.read k1 g1
          have st1:=stf (j:=3) (v:=i64 (numR (cutB s).1).1) z3 e1.rb e1.rd.lock rfl (by simp)
          obtain ⟨e2,k2⟩:=e1.set (en':=false) i0 i0 (numR_I64 (cutB s).1) e1.hd e1.nd
          exact ⟨_,_,_,w2 (a:=0) k1 k2,e2,fun T hT=>fin (c1 hT fun T1 q1=>c2 q1 fun T2 q2=>c3 q2 fun T3 q3=>AW.cnd (b:=true) (f33_10_T lk (eqlT h4) q3) (fun T' q=>q.2.2.2.2.2) fun T' q=>f33_11 n1 st1 ⟨q.1,q.2.1,q.2.2.1,q.2.2.2.1,q.2.2.2.2.1⟩)⟩
        · rw [if_neg h4]
          have c4:∀{Q:Exit→Tm→St→Prop} {x y:Code} {T:Tm},f33L3 T (sb s0) (.ptr c0 0) (.ptr r 0) (.ptr b 0)→(∀T',f33L3 T' (sb s0) (.ptr c0 0) (.ptr r 0) (.ptr b 0)→AW Tryz.prog y Q T' σ)→AW Tryz.prog (.seq (f33P 10) (.cond (.tmp 36) x y)) Q T σ:=fun {Q x y T} hT k'=>AW.cnd (b:=false) (f33_10_F lk (eqlF h4) hT) (fun T' q=>q.2.2.2.2.2) fun T' q=>k' T' ⟨q.1,q.2.1,q.2.2.1,q.2.2.2.1,q.2.2.2.2.1⟩
          by_cases h5:k=2
          · rw [if_pos h5]
            obtain ⟨v,s1,n1,k1,g1,o1,f1⟩:=word_ok h.rd
            have e1:=h.read k1 g1
            have hcv:avCells v=some [v]:=by
              rcases o1 with ⟨_,_,rfl⟩|⟨_,id,f,rfl,_⟩<;>rfl
            have st1:=stf (j:=4) (v:=v) z51 e1.rb e1.rd.lock hcv (by simp)
            obtain ⟨e2,k2⟩:=e1.set (en':=false) i0 i0 i0 o1 (fun j hj=>Nat.le_trans hn0 (f1 j hj))
            have st1':storeA E0 s1 51 (.ptr b 4) v=some (s1.set b (.row [i64 k,i64 0,i64 0,i64 0,v,bo false] 70)):=st1
            generalize s1.set b (.row [i64 k,i64 0,i64 0,i64 0,v,bo false] 70)=s2 at e2 k2 st1'
            obtain ⟨s3,n3,k3',g3⟩:=plain_ok e2.rd
            have e3:=e2.read k3' g3
            have st3:∀x,storeA E0 s3 4 (.ptr b 5) (bo x)=some (s3.set b (.row [i64 k,i64 0,i64 0,i64 0,v,bo x] 70)):=fun x=>stf (j:=5) (v:=bo x) z4 e3.rb e3.rd.lock rfl (by simp)
            obtain ⟨e4,k4'⟩:=e3.set (en':=decide ((cutB (wordR s).2.1).1=endB true)) i0 i0 i0 e3.hd e3.nd
            refine ⟨_,_,_,(w2 (a:=0) k1 k2).trans (w2 (a:=0) k3' k4'),e4,fun T hT=>fin (c1 hT fun T1 q1=>c2 q1 fun T2 q2=>c3 q2 fun T3 q3=>c4 q3 fun T4 q4=>AW.cnd (b:=true) (f33_12_T lk (eqlT h5) q4) (fun T' q=>q.2.2.2.2.2) fun T' q=>AW.andThen (f33_13 n1 st1' ⟨q.1,q.2.1,q.2.2.1,q.2.2.2.1,q.2.2.2.2.1⟩) fun T5 q5=> ?_)⟩
            by_cases h6:(cutB (wordR s).2.1).1=endB true
            · rw [decide_eq_true h6]
              exact f33_14_T n3 (eq_sbT h6) (st3 true) q5
            · rw [decide_eq_false h6]
              exact f33_14_F n3 (eq_sbF h6) (st3 false) q5
          · rw [if_neg h5]
            refine ⟨.nils,s,σ,.refl h.rd.wf _,h,fun T hT=>fin (c1 hT fun T1 q1=>c2 q1 fun T2 q2=>c3 q2 fun T3 q3=>c4 q3 fun T4 q4=>AW.cnd (b:=false) (f33_12_F lk (eqlF h5) q4) (fun T' q=>q.2.2.2.2.2) fun T' q=> ?_)⟩
            have e:f33P 15= .skip:=by kernel_rfl
            show AW Tryz.prog (f33P 15) _ _ _
            rw [e]
            exact AW.skp ⟨q.1,q.2.1,q.2.2.1,q.2.2.2.1,q.2.2.2.2.1⟩
    · rw [if_pos (by simpa using h2)]
      have st1:storeA E0 σ 4 (.ptr r 1) TT=some (σ.set r (.row [sb s,bo true] 99)):=stf (j:=1) (v:=bo true) z4 h.rd.row h.rd.lock rfl (by simp)
      have k2:=Rest.set h.rd.wf (h.rd.wf _ _ h.rd.row) (.row [sb s,bo true] 99) (S:= [r]) (by simp)
      have e1:=h.read k2 (h.rd.step (bad':=true) k2 (by rw [St.get_set,if_pos rfl]) h.rd.len)
      exact ⟨_,_,_,k2.weak (fun i hi=>by simp only [List.mem_singleton] at hi;simp [hi]),e1,fun T hT=>fin (c1 hT fun T1 q1=>AW.cnd (b:=true) (f33_6_T (ne_sbT (b:=okB) h2) q1) (fun T' q=>q.2.2.2.2.2) fun T' q=>f33_7 st1 ⟨q.1,q.2.1,q.2.2.1,q.2.2.2.1,q.2.2.2.2.1⟩)⟩
end
section
set_option maxRecDepth 8000
theorem res33{T:Tm}{z:St}{c:Nat}{x1 x2 x3 x4 x5 x6 b:AV}(hT:f33L11 T (.ptr c 0) b)(hc:z.get c=some (.row [x1,x2,x3,x4,x5,x6] 70)):resA E0 T z Tryz.f33.results.toList=some [.agg [x1,x2,x3,x4,x5,x6],b]:=by
  obtain ⟨_,q2,q3⟩:=hT
  have e:Tryz.f33.results.toList= [.cell 2 70,.tmp 3]:=by kernel_rfl
  rw [e]
  simp only [resA,q2,q3,ld43 hc rfl]
  rfl
theorem bd70(k:Int):buildA E0 70 [(0,i64 k)]=some (.agg [i64 k,i64 0,i64 0,i64 0,.nils,FF]):=by kernel_rfl
theorem row_ok{st:St}{s:List UInt8}(hw:st.wf)(hl:st.lock= [])(hgl:Tabs st)(herr:ErrV st)(hs:s.length≤100000):
    ∃d s',obC 33 [sb s] st (.tup [.agg [i64 (rowRead s).k,i64 (rowRead s).e,i64 (rowRead s).c,i64 (rowRead s).n,d,bo (rowRead s).en],bo (rowOK s)]) s'∧Rest st s' []∧OwnB s' d (rowRead s).d∧I64 (rowRead s).e∧I64 (rowRead s).c∧I64 (rowRead s).n:=by
  have r1:=Rest.push hw (.row [i64 0,i64 0,i64 0,i64 0,.nils,FF] 70) []
  have g1:(st.push (.row [i64 0,i64 0,i64 0,i64 0,.nils,FF] 70)).get st.next=some (.row [i64 0,i64 0,i64 0,i64 0,.nils,FF] 70):=get_new _ _ rfl
  have h0:=al43 st
  have n1:(st.push (.row [i64 0,i64 0,i64 0,i64 0,.nils,FF] 70)).next=st.next+1:=rfl
  generalize st.push (.row [i64 0,i64 0,i64 0,i64 0,.nils,FF] 70)=s1 at r1 g1 h0 n1
  have r2:=Rest.push r1.wf (.row [sb s,FF] 99) []
  have h2:=bx99 s1 ⟨s.toArray⟩
  have g2:(s1.push (.row [sb s,FF] 99)).get s1.next=some (.row [sb s,FF] 99):=get_new _ _ rfl
  have n2:(s1.push (.row [sb s,FF] 99)).next=s1.next+1:=rfl
  have gc2:=r2.keep _ _ (by simp) g1
  generalize s1.push (.row [sb s,FF] 99)=s2 at r2 h2 g2 n2 gc2
  have r02:=r1.trans r2
  have hrd:Rd s2 s1.next s false:=⟨g2,r02.wf,r02.lock.trans hl,hgl.rest r02,herr.rest r02,by omega⟩
  obtain ⟨s5,h5,r5,hrd5⟩:=kind_ok hrd
  have h6:=al43 s5
  have r6:=Rest.push r5.wf (.row [i64 0,i64 0,i64 0,i64 0,.nils,FF] 70) []
  have g6:(s5.push (.row [i64 0,i64 0,i64 0,i64 0,.nils,FF] 70)).get s5.next=some (.row [i64 0,i64 0,i64 0,i64 0,.nils,FF] 70):=get_new _ _ rfl
  have n6:(s5.push (.row [i64 0,i64 0,i64 0,i64 0,.nils,FF] 70)).next=s5.next+1:=rfl
  have l6:(s5.push (.row [i64 0,i64 0,i64 0,i64 0,.nils,FF] 70)).lock= []:=r6.lock.trans hrd5.lock
  generalize s5.push (.row [i64 0,i64 0,i64 0,i64 0,.nils,FF] 70)=s6 at h6 r6 g6 n6 l6
  have h7:=st43 (cs:= [i64 (idxN (cutB s).1),i64 0,i64 0,i64 0,.nils,FF]) g6 rfl rfl (by rw [l6];simp)
  have r7:=Rest.set r6.wf (r6.wf _ _ g6) (.row [i64 (idxN (cutB s).1),i64 0,i64 0,i64 0,.nils,FF] 70) (S:= [s5.next]) (by simp)
  have nx:=r5.next
  have r67:Rest s5 (s6.set s5.next (.row [i64 (idxN (cutB s).1),i64 0,i64 0,i64 0,.nils,FF] 70)) []:=r6.fresh r7 r5.wf (by simp)
  have r07:Rest st (s6.set s5.next (.row [i64 (idxN (cutB s).1),i64 0,i64 0,i64 0,.nils,FF] 70)) []:=(r02.fresh r5 hw (by simp only [List.mem_singleton,forall_eq];omega)).trans r67
  have g5c:s5.get st.next=some (.row [i64 0,i64 0,i64 0,i64 0,.nils,FF] 70):=r5.keep _ _ (by simp;omega) gc2
  have gc7:=r67.keep _ _ (by simp) g5c
  have e7:Er st.next (s6.set s5.next (.row [i64 (idxN (cutB s).1),i64 0,i64 0,i64 0,.nils,FF] 70)) s5.next s1.next (idxN (cutB s).1) 0 0 0 .nils false [] (cutB s).2 (decide (idxN (cutB s).1<1)):=
    ⟨by rw [St.get_set,if_pos rfl];rfl,hrd5.keep r67 (by simp),.inl ⟨rfl,rfl,rfl⟩,by omega,by omega,(fun j hj=>by cases hj),i0,i0,i0⟩
  have hcb:st.next≠s5.next:=by omega
  generalize s6.set s5.next (.row [i64 (idxN (cutB s).1),i64 0,i64 0,i64 0,.nils,FF] 70)=s7 at h7 r67 r07 gc7 e7
  obtain ⟨s8,h8,r8,hrd8⟩:=plain_ok e7.rd
  have e8:=e7.read r8 hrd8
  have cr:st.next≠s1.next:=by omega
  have gc8:=r8.keep _ _ (by simpa using cr) gc7
  have nx7:=r07.next
  have nx8:=r8.next
  obtain ⟨d9,t9,s9,r9,e9,w9⟩:=row_rest (c0:=st.next) (s0:=s) (told:=(cutB (cutB s).2).1) e8 (by omega)
  have hread:rowRead s=rowRest (idxN (cutB s).1) (cutB (cutB s).2).1 (cutB (cutB s).2).2 (decide (idxN (cutB s).1<1)):=rfl
  generalize hR:rowRest (idxN (cutB s).1) (cutB (cutB s).2).1 (cutB (cutB s).2).2 (decide (idxN (cutB s).1<1))=R at e9 hread
  have gc9:=r9.keep _ _ (by simp only [List.mem_cons,List.mem_nil_iff,or_false,not_or];exact ⟨hcb,cr⟩) gc8
  have kept:Rest st s9 []:=(r07.fresh r8 hw (by simp only [List.mem_singleton,forall_eq];omega)).fresh r9 hw (by simp only [List.mem_cons,List.mem_nil_iff,or_false];rintro i (rfl|rfl)<;>omega)
  have hdl:R.d.length≤100000:=by
    rw [←hR]
    unfold rowRest
    have q1:=(cutB_le s).2
    have q2:=(cutB_le (cutB s).2).2
    have q3:=(wordR_le (cutB (cutB s).2).2).1
    split
    · simp
    · split
      · simp
      · split
        · simp
        · split
          · simp
          · split
            · simp only;omega
            · simp
  obtain ⟨s10,c10,r10⟩:=rowLine_ok (k:=R.k) (e:=R.e) (c:=R.c) (n:=R.n) (d:=d9) (db:=R.d) (en:=R.en) e9.rd.wf e9.rd.lock e9.rd.tabs e9.hd.bs e9.e64 e9.c64 e9.n64 (by omega)
  have e10:=e9.keep r10
  have gc10:=r10.keep _ _ (by simp) gc9
  have lb:=ld43 e10.rb rfl
  have lr:=ldf (t:=4) (j:=1) k4 e10.rd.row rfl
  have hlt:∀j∈ [s5.next,s1.next],j<s10.next:=fun j hj=>by
    simp only [List.mem_cons,List.mem_nil_iff,or_false] at hj
    rcases hj with rfl|rfl
    · exact e10.rd.wf _ _ e10.rb
    · exact e10.rd.wf _ _ e10.rd.row
  have hall: [s5.next,s1.next].all (fun j=>(s10.get j).isSome)=true:=by simp [e10.rb,e10.rd.row]
  have hst:storeA E0 (s10.hide [s5.next,s1.next]) 70 (.ptr st.next 0) (.agg [i64 R.k,i64 R.e,i64 R.c,i64 R.n,d9,bo R.en])=some ((s10.hide [s5.next,s1.next]).set st.next (.row [i64 R.k,i64 R.e,i64 R.c,i64 R.n,d9,bo R.en] 70)):=
    st43 (vs:= [i64 0,i64 0,i64 0,i64 0,.nils,FF]) gc10 rfl rfl (by show st.next∉ [s5.next,s1.next]++s10.lock;rw [e10.rd.lock];simp [hcb,cr])
  have hz:∀i o,i≠st.next→s10.get i=some o→(((s10.hide [s5.next,s1.next]).set st.next (.row [i64 R.k,i64 R.e,i64 R.c,i64 R.n,d9,bo R.en] 70)).show s10 [s5.next,s1.next]).get i=some o:=fun i o hi ho=>by
    rw [St.show_get]
    split
    · exact ho
    · rw [St.get_set,if_neg hi];exact ho
  have hzc:(((s10.hide [s5.next,s1.next]).set st.next (.row [i64 R.k,i64 R.e,i64 R.c,i64 R.n,d9,bo R.en] 70)).show s10 [s5.next,s1.next]).get st.next=some (.row [i64 R.k,i64 R.e,i64 R.c,i64 R.n,d9,bo R.en] 70):=by
    rw [St.show_get,if_neg (by simp [hcb,cr]),St.get_set,if_pos rfl]
  have hzr:Rest s10 (((s10.hide [s5.next,s1.next]).set st.next (.row [i64 R.k,i64 R.e,i64 R.c,i64 R.n,d9,bo R.en] 70)).show s10 [s5.next,s1.next]) [st.next]:=by
    refine ⟨fun i o hi ho=>hz i o (by simpa using hi) ho,by rw [St.show_next];exact Nat.le_refl _,rfl,by rw [St.show_gl];rfl,fun i o ho=> ?_⟩
    rw [St.show_next]
    show i<s10.next
    rw [St.show_get] at ho
    split at ho
    · exact e10.rd.wf _ _ ho
    · rw [St.get_set] at ho
      split at ho
      · rename_i h;rw [h];exact e10.rd.wf _ _ gc10
      · exact e10.rd.wf _ _ ho
  generalize hfin:((s10.hide [s5.next,s1.next]).set st.next (.row [i64 R.k,i64 R.e,i64 R.c,i64 R.n,d9,bo R.en] 70)).show s10 [s5.next,s1.next]=zf at hz hzc hzr
  have ncd:st.next∉fid d9:=Ls.ne e10.hd gc10 (by decide)
  rw [hread]
  have hokv:rowOK s=(!R.bad&&decide (rowF R.k R.e R.c R.n R.d R.en=some s)):=by
    simp only [rowOK,hread,rowFR]
  refine ⟨d9,zf,?_,(kept.trans r10).fresh hzr hw (by simp),e10.hd.rest hzr (fun i hi e=>ncd (by simp only [List.mem_singleton] at e;rw [←e];exact hi)),e10.e64,e10.c64,e10.n64⟩
  have fin:∀{T:Tm} {x:Bool},f33L11 T (.ptr st.next 0) (bo x)→endA E0 Tryz.f33 (fun q s'=>q= .tup [.agg [i64 R.k,i64 R.e,i64 R.c,i64 R.n,d9,bo R.en],bo x]∧s'=zf) .ret T zf:=fun q=>⟨_,res33 q hzc,rfl,rfl⟩
  refine ACalls.body (E:=E0) hE Tryz.func33 f33body ?_
  refine AW.andThen (f33_0 (s:=⟨s.toArray⟩) h0 ⟨rfl,rfl⟩) fun T1 q1=> ?_
  refine AW.andThen (f33_1 (bd99 _) h2 q1) fun T2 q2=> ?_
  refine AW.andThen (f33_2 h5 (bd70 _) h6 h7 q2) fun T3 q3=> ?_
  refine AW.andThen (L:=fun T=>f33L3 T (sb s) (.ptr st.next 0) (.ptr s1.next 0) (.ptr s5.next 0)) (s:=s9) (AW.andThen (f33_3 h8 q3) fun T4 q4=>w9 T4 q4) fun T5 q5=> ?_
  refine AW.andThen (f33_16 (ld43 e9.rb rfl) c10 q5) fun T6 q6=> ?_
  rw [show f33P 18= .ret from by kernel_rfl,hokv]
  cases hb:R.bad with
  |true=>
    rw [hb] at lr
    have f9:=f33_17_T hlt lb lr hall hst q6
    rw [hfin] at f9
    exact AW.andThen (L:=fun T=>f33L11 T (.ptr st.next 0) (bo false)) f9 fun T6 q6=>AW.ret (fin q6)
  |false=>
    rw [hb] at lr
    cases hv:rowF R.k R.e R.c R.n R.d R.en with
    |none=>
      rw [hv] at q6
      have f9:=f33_17_FF hlt lb lr hall hst q6
      rw [hfin] at f9
      exact AW.andThen (L:=fun T=>f33L11 T (.ptr st.next 0) (bo false)) f9 fun T6 q6=>AW.ret (fin q6)
    |some l=>
      rw [hv] at q6
      by_cases hls:l=s
      · have f9:=f33_17_FTT hlt lb lr (eq_sbT hls) hall hst q6
        rw [hfin] at f9
        have e:(!false&&decide (some l=some s))=true:=by simp [hls]
        rw [e]
        exact AW.andThen (L:=fun T=>f33L11 T (.ptr st.next 0) (bo true)) f9 fun T6 q6=>AW.ret (fin q6)
      · have f9:=f33_17_FTF hlt lb lr (eq_sbF hls) hall hst q6
        rw [hfin] at f9
        have e:(!false&&decide (some l=some s))=false:=by simp [hls]
        rw [e]
        exact AW.andThen (L:=fun T=>f33L11 T (.ptr st.next 0) (bo false)) f9 fun T6 q6=>AW.ret (fin q6)
end
section
set_option maxRecDepth 8000
/-! ### what is written is read: plain laws -/
theorem parse_snoc(d:UInt8)(hd:48≤d.toNat∧d.toNat≤57):∀(l:List UInt8) (acc v:Nat),Lib.parseUint10 acc l= .ok v→v*10+(d.toNat- 48)<18446744073709551616→Lib.parseUint10 acc (l++ [d])= .ok (v*10+(d.toNat- 48))
  | [],acc,v,h,hb=>by
    simp only [Lib.parseUint10] at h
    injection h with h
    subst h
    simp only [List.nil_append,Lib.parseUint10]
    rw [if_pos hd,if_neg (by omega),if_neg (by omega)]
  |c::r,acc,v,h,hb=>by
    simp only [Lib.parseUint10] at h
    simp only [List.cons_append,Lib.parseUint10]
    split at h
    · rename_i hc
      rw [if_pos hc]
      split at h
      · cases h
      · rename_i h1
        rw [if_neg h1]
        split at h
        · cases h
        · rename_i h2
          rw [if_neg h2]
          exact parse_snoc d hd r _ v h hb
    · cases h
theorem dig_ofNat{u:Nat}(h:u<10):(UInt8.ofNat (48+u)).toNat=48+u:=by
  rw [UInt8.toNat_ofNat'];exact Nat.mod_eq_of_lt (by omega)
theorem parse_dec:∀(m u:Nat),u<m→u<18446744073709551616→Lib.parseUint10 0 (Lib.decDigits u)= .ok u
  |0,u,h,_=>absurd h (Nat.not_lt_zero u)
  |m+1,u,h,hb=>by
    unfold Lib.decDigits
    split
    · rename_i hu
      have e:=dig_ofNat hu
      simp only [Lib.parseUint10]
      rw [if_pos (by omega),if_neg (by omega),if_neg (by omega),e]
      congr 1
      omega
    · rename_i hu
      have e:=dig_ofNat (u:=u%10) (by omega)
      have:=parse_snoc (UInt8.ofNat (48+u%10)) (by omega) (Lib.decDigits (u/10)) 0 (u/10) (parse_dec m (u/10) (by omega) (by omega)) (by omega)
      rw [this,e]
      congr 1
      omega
theorem dec_digits:∀(m u:Nat),u<m→∀c∈Lib.decDigits u,48≤c.toNat∧c.toNat≤57
  |0,u,h=>absurd h (Nat.not_lt_zero u)
  |m+1,u,h=>by
    intro c hc
    unfold Lib.decDigits at hc
    split at hc
    · rename_i hu
      simp only [List.mem_singleton] at hc
      rw [hc,dig_ofNat hu];omega
    · rename_i hu
      rcases List.mem_append.1 hc with hc|hc
      · exact dec_digits m (u/10) (by omega) c hc
      · simp only [List.mem_singleton] at hc
        rw [hc,dig_ofNat (by omega)];omega
theorem dec_ne(u:Nat):Lib.decDigits u≠ []:=by
  unfold Lib.decDigits
  split<;>simp
theorem itoa_ne(n:Int):Lib.itoa n≠ []:=by
  unfold Lib.itoa
  split
  · simp
  · exact dec_ne _
theorem itoa_mem{n:Int}{c:UInt8}(h:c∈Lib.itoa n):c=45∨(48≤c.toNat∧c.toNat≤57):=by
  unfold Lib.itoa at h
  split at h
  · rcases List.mem_cons.1 h with h|h
    · exact .inl h
    · exact .inr (dec_digits _ _ (Nat.lt_succ_self _) c h)
  · exact .inr (dec_digits _ _ (Nat.lt_succ_self _) c h)
theorem itoa_32(n:Int):(32:UInt8)∉Lib.itoa n:=fun h=>by
  rcases itoa_mem h with e|e
  · exact absurd e (by decide)
  · exact absurd e (by decide)
theorem itoa_10(n:Int):(10:UInt8)∉Lib.itoa n:=fun h=>by
  rcases itoa_mem h with e|e
  · exact absurd e (by decide)
  · exact absurd e (by decide)
theorem atoi_itoa{n:Int}(h:I64 n):Lib.atoiAll (Lib.itoa n)= .ok n:=by
  obtain ⟨h0,h1⟩:=h
  have mag:∀u:Nat,u<18446744073709551616→Lib.parseMag (Lib.decDigits u)= .ok u:=fun u hu=>by
    unfold Lib.parseMag
    rw [if_neg (dec_ne u)]
    exact parse_dec (u+1) u (Nat.lt_succ_self u) hu
  unfold Lib.itoa
  split
  · rename_i hn
    rw [Lib.atoiAll_minus,mag _ (by omega)]
    simp only [Lib.signed]
    rw [if_neg (by omega)]
    congr 1
    omega
  · rename_i hn
    have hm:=mag n.toNat (by omega)
    have hd:=dec_digits _ _ (Nat.lt_succ_self n.toNat)
    cases hl:Lib.decDigits n.toNat with
    |nil=>exact absurd hl (dec_ne _)
    |cons c r=>
      rw [hl] at hm hd
      have hc:=hd c (by simp)
      rw [Lib.atoiAll_plain c r (by omega) (by omega),hm]
      simp only [Lib.signless]
      rw [if_neg (by omega)]
      congr 1
      omega
theorem numR_itoa{n:Int}(h:I64 n):numR (Lib.itoa n)=(n,false):=by
  unfold numR
  rw [atoi_itoa h]
theorem takeWhile_at{c:UInt8}{p r:List UInt8}(h:c∉p):(p++c::r).takeWhile (· ≠c)=p∧(p++c::r).dropWhile (· ≠c)=c::r:=by
  induction p with
  |nil=>simp
  |cons d p ih=>
    have hd:d≠c:=fun e=>h (by rw [e];simp)
    obtain ⟨h1,h2⟩:=ih (fun hm=>h (List.mem_cons_of_mem _ hm))
    have hb:decide (d≠c)=true:=by simpa using hd
    rw [List.cons_append,List.takeWhile_cons,List.dropWhile_cons]
    simp only [hb,if_true,h1,h2,and_self]
theorem cutB_at{p r:List UInt8}(h:(32:UInt8)∉p):cutB (p++32::r)=(p,r):=by
  obtain ⟨h1,h2⟩:=takeWhile_at (r:=r) h
  simp only [cutB,h1,h2,List.drop_succ_cons,List.drop_zero]
/-! names -/
theorem nm_range{k:Int}(h:nmF k≠ []):1≤k∧k<10:=by
  unfold nmF at h
  split at h
  · exact absurd rfl h
  · omega
theorem nm_fin:∀i:Fin 10,1≤i.val→nmL.getD i.val []≠ []∧(32:UInt8)∉nmL.getD i.val []∧(10:UInt8)∉nmL.getD i.val []∧idxN (nmL.getD i.val [])=i.val:=by decide
theorem nm_ok{k:Int}(h:1≤k∧k<10):nmF k≠ []∧(32:UInt8)∉nmF k∧(10:UInt8)∉nmF k∧idxN (nmF k)=k:=by
  obtain ⟨j,rfl⟩:∃j:Nat,k=j:=⟨k.toNat,by omega⟩
  have e:nmF (j:Int)=nmL.getD j []:=by
    unfold nmF
    rw [if_neg (by omega),Int.toNat_natCast]
  rw [e]
  exact nm_fin ⟨j,by omega⟩ (by show 1≤j;omega)
/-! picks -/
def tailP:List Nat→List UInt8
  | []=> []
  |x::r=>Lib.itoa (x:Int)++pickF r
theorem pickF_cons(x:Nat)(r:List Nat):pickF (x::r)=32::(Lib.itoa (x:Int)++pickF r):=by simp [pickF]
theorem cut_pick(p:List UInt8)(h:(32:UInt8)∉p)(ps:List Nat):cutB (p++pickF ps)=(p,tailP ps):=by
  cases ps with
  |nil=>
    have:pickF []= []:=rfl
    rw [this,List.append_nil,cutB_none h];rfl
  |cons x r=>
    rw [pickF_cons,cutB_at h];rfl
theorem picksF_tail:∀(ps:List Nat) (m:Nat) (acc:List Nat),(∀x∈ps,x<65536)→ps.length<m→picksF m (tailP ps) false acc=(acc++ps,false)
  | [],m+1,acc,_,_=>by
    simp only [picksF,tailP]
    rw [if_pos (.inl trivial),List.append_nil]
  |x::r,m+1,acc,h,hm=>by
    have hx:=h x (by simp)
    have hne:tailP (x::r)≠ []:=by simp [tailP,itoa_ne]
    have hc:cutB (tailP (x::r))=(Lib.itoa (x:Int),tailP r):=cut_pick _ (itoa_32 _) r
    simp only [picksF]
    rw [if_neg (by simp [hne]),hc]
    simp only
    rw [numR_itoa (n:=(x:Int)) ⟨by omega,by omega⟩]
    simp only
    have e1:(false||decide ((x:Int)<0)||decide (65535<(x:Int)))=false:=by
      rw [decide_eq_false (by omega),decide_eq_false (by omega)];rfl
    have e2:((x:Int)%65536).toNat=x:=by omega
    rw [e1,e2,picksF_tail r m (acc++ [x]) (fun y hy=>h y (List.mem_cons_of_mem _ hy)) (by simp at hm;omega)]
    simp
theorem tail_len:∀ps:List Nat,ps.length≤(tailP ps).length
  | []=>by simp
  |x::r=>by
    have h1:=List.length_pos_iff.2 (itoa_ne (x:Int))
    have h2:∀ps:List Nat,ps.length≤(pickF ps).length:=fun ps=>by
      induction ps with
      |nil=>simp
      |cons y q ih=>rw [pickF_cons];simp only [List.length_cons,List.length_append];omega
    have:=h2 r
    simp only [tailP,List.length_append,List.length_cons]
    omega
/-- what an event is written as is read as that event -/
def EvGood(e:EvR):Prop:=I64 e.c∧I64 e.n∧∀x∈e.ps,x<65536
theorem ev_parts{e:EvR}{s:List UInt8}(h:evLineR e=some s):badEv e.k e.c e.n e.d e.ps=false∧s=nmF e.k++(if isConn e.k then 32::Lib.itoa e.c else [])++(if isNum e.k then 32::Lib.itoa e.n else [])++(if e.k=2 then 32::quoteF e.d else [])++pickF e.ps:=by
  unfold evLineR evLine at h
  split at h
  · cases h
  · rename_i hb
    simp only [Option.some.injEq] at h
    exact ⟨by simpa using hb,h.symm⟩
theorem badEv_false{k c n:Int}{d:List UInt8}{p:List Nat}(h:badEv k c n d p=false):(1≤k∧k<10)∧(isConn k=false→c=0)∧(isNum k=false→n=0)∧(k≠2→d= [])∧(k≠8→p= []):=by
  unfold badEv at h
  simp only [Bool.or_eq_false_iff,Bool.and_eq_false_iff,decide_eq_false_iff_not,Bool.not_eq_false',ne_eq,Decidable.not_not] at h
  obtain ⟨⟨⟨⟨h1,h2⟩,h3⟩,h4⟩,h5⟩:=h
  refine ⟨nm_range h1,fun e=> ?_,fun e=> ?_,fun e=> ?_,fun e=> ?_⟩
  · rcases h2 with h|h
    · rw [e] at h;cases h
    · exact h
  · rcases h3 with h|h
    · rw [e] at h;cases h
    · exact h
  · rcases h4 with h|h
    · exact absurd h e
    · exact h
  · rcases h5 with h|h
    · exact absurd h e
    · exact h
theorem wordR_word(d r:List UInt8):wordR (quoteF d++r)=(d,trimB r,false):=by
  unfold wordR
  rw [unq_word]
theorem wordR_word0(d:List UInt8):wordR (quoteF d)=(d,[],false):=by
  have:=wordR_word d []
  rw [List.append_nil] at this
  exact this
theorem read_line{e:EvR}{s:List UInt8}(hg:EvGood e)(h:evLineR e=some s):(evRead s).k=e.k∧(evRead s).c=e.c∧(evRead s).n=e.n∧(evRead s).d=e.d∧(evRead s).ps=e.ps∧(evRead s).bad=false:=by
  obtain ⟨hb,hs⟩:=ev_parts h
  obtain ⟨hk,hc,hn,hd,hp⟩:=badEv_false hb
  obtain ⟨n1,n2,n3,n4⟩:=nm_ok hk
  obtain ⟨g1,g2,g3⟩:=hg
  obtain ⟨k,c,n,d,ps,bad⟩:=e
  simp only at*
  have hlt:¬k<1:=by omega
  by_cases c2:k=2
  · subst c2
    have hn0:=hn (by decide)
    have hp0:=hp (by decide)
    subst hn0;subst hp0
    have e1:s=nmF 2++32::(Lib.itoa c++32::quoteF d):=by rw [hs];simp [isConn,isNum,pickF]
    have q1:=cutB_at (r:=Lib.itoa c++32::quoteF d) n2
    rw [←e1] at q1
    have q2:=cutB_at (r:=quoteF d) (itoa_32 c)
    simp [evRead,q1,n4,stN,q2,numR_itoa g1,stW,wordR_word0]
  · by_cases c3:k=3
    · subst c3
      have hn0:=hn (by decide)
      have hd0:=hd (by decide)
      have hp0:=hp (by decide)
      subst hn0;subst hd0;subst hp0
      have e1:s=nmF 3++32::Lib.itoa c:=by rw [hs];simp [isConn,isNum,pickF]
      have q1:=cutB_at (r:=Lib.itoa c) n2
      rw [←e1] at q1
      have q2:=cutB_none (itoa_32 c)
      simp [evRead,q1,n4,stN,q2,numR_itoa g1,stW]
    · have hc0:=hc (by unfold isConn;exact decide_eq_false (by omega))
      have hd0:=hd c2
      subst hc0;subst hd0
      by_cases c8:k=8
      · subst c8
        have e1:s=nmF 8++32::(Lib.itoa n++pickF ps):=by rw [hs];simp [isConn,isNum]
        have q1:=cutB_at (r:=Lib.itoa n++pickF ps) n2
        rw [←e1] at q1
        have q2:=cut_pick (Lib.itoa n) (itoa_32 n) ps
        have q3:=picksF_tail ps ((tailP ps).length+1) [] g3 (by have:=tail_len ps;omega)
        simp [evRead,q1,n4,stN,q2,numR_itoa g2,stW,q3]
      · have hp0:=hp c8
        subst hp0
        by_cases cn:isNum k=true
        · have e1:s=nmF k++32::Lib.itoa n:=by
            rw [hs,cn,show isConn k=false from by unfold isConn;exact decide_eq_false (by omega)]
            simp [pickF,c2]
          have q1:=cutB_at (r:=Lib.itoa n) n2
          rw [←e1] at q1
          have q2:=cutB_none (itoa_32 n)
          have hm:k=4∨k=6∨k=7:=by
            unfold isNum at cn
            have:=of_decide_eq_true cn
            omega
          rcases hm with rfl|rfl|rfl<;>simp [evRead,q1,n4,stN,q2,numR_itoa g2,stW]
        · have cn':isNum k=false:=by simpa using cn
          have hn0:=hn cn'
          subst hn0
          have e1:s=nmF k:=by
            rw [hs,cn',show isConn k=false from by unfold isConn;exact decide_eq_false (by omega)]
            simp [pickF,c2]
          have q1:=cutB_none n2
          rw [←e1] at q1
          have hm:k=1∨k=5∨k=9:=by
            unfold isNum at cn'
            have:=of_decide_eq_false cn'
            omega
          rw [e1] at q1
          rcases hm with rfl|rfl|rfl<;>simp [evRead,e1,q1,n4,stN,stW]
end
section
set_option maxRecDepth 8000
/-! ### rows: what is written is read -/
def RwGood(x:RwR):Prop:=I64 x.e∧I64 x.c∧I64 x.n
theorem badRow_false{k e c n:Int}{d:List UInt8}{en:Bool}(h:badRow k e c n d en=false):(1≤k∧k<10)∧(e≠0∨k≠1→c=0)∧(e≠0∨k≠5→n=0)∧(e≠0∨k≠2→d= []∧en=false):=by
  unfold badRow at h
  simp only [Bool.or_eq_false_iff,Bool.and_eq_false_iff,decide_eq_false_iff_not,Bool.not_eq_false',decide_eq_true_eq,ne_eq,Decidable.not_not] at h
  obtain ⟨⟨⟨h1,h2⟩,h3⟩,h4⟩:=h
  refine ⟨nm_range h1,fun e=> ?_,fun e=> ?_,fun e=> ?_⟩
  · rcases h2 with h|h
    · rcases e with e|e
      · exact absurd h.1 e
      · exact absurd h.2 e
    · exact h
  · rcases h3 with h|h
    · rcases e with e|e
      · exact absurd h.1 e
      · exact absurd h.2 e
    · exact h
  · rcases h4 with h|h
    · rcases e with e|e
      · exact absurd h.1 e
      · exact absurd h.2 e
    · exact h
theorem endB_32(en:Bool):(32:UInt8)∉endB en:=by cases en<;>decide
theorem endB_inj(en:Bool):decide (endB en=endB true)=en:=by cases en<;>decide
theorem errB_32:(32:UInt8)∉errB:=by decide
theorem okB_32:(32:UInt8)∉okB:=by decide
theorem read_row{x:RwR}{s:List UInt8}(hg:RwGood x)(h:rowFR x=some s):(rowRead s).k=x.k∧(rowRead s).e=x.e∧(rowRead s).c=x.c∧(rowRead s).n=x.n∧(rowRead s).d=x.d∧(rowRead s).en=x.en∧(rowRead s).bad=false:=by
  unfold rowFR rowF at h
  split at h
  · cases h
  · rename_i hb
    obtain ⟨hk,hc,hn,hd⟩:=badRow_false (by simpa using hb)
    obtain ⟨n1,n2,n3,n4⟩:=nm_ok hk
    obtain ⟨g1,g2,g3⟩:=hg
    obtain ⟨k,e,c,n,d,en,bad⟩:=x
    simp only at*
    have hlt:¬k<1:=by omega
    have hne:okB≠errB:=by decide
    by_cases he:e=0
    · subst he
      rw [if_pos rfl] at h
      simp only [Option.some.injEq] at h
      by_cases k1:k=1
      · subst k1
        obtain ⟨hd0,hen⟩:=hd (.inr (by decide))
        have hn0:=hn (.inr (by decide))
        subst hd0;subst hen;subst hn0
        have e1:s=nmF 1++32::(okB++32::Lib.itoa c):=by rw [←h];simp [rowTail]
        have q1:=cutB_at (r:=okB++32::Lib.itoa c) n2
        rw [←e1] at q1
        have q2:=cutB_at (r:=Lib.itoa c) okB_32
        have q3:=cutB_none (itoa_32 c)
        simp [rowRead,q1,n4,q2,rowRest,hne,q3,numR_itoa g2]
      · by_cases k5:k=5
        · subst k5
          obtain ⟨hd0,hen⟩:=hd (.inr (by decide))
          have hc0:=hc (.inr (by decide))
          subst hd0;subst hen;subst hc0
          have e1:s=nmF 5++32::(okB++32::Lib.itoa n):=by rw [←h];simp [rowTail]
          have q1:=cutB_at (r:=okB++32::Lib.itoa n) n2
          rw [←e1] at q1
          have q2:=cutB_at (r:=Lib.itoa n) okB_32
          have q3:=cutB_none (itoa_32 n)
          simp [rowRead,q1,n4,q2,rowRest,hne,q3,numR_itoa g3]
        · have hc0:=hc (.inr k1)
          have hn0:=hn (.inr k5)
          subst hc0;subst hn0
          by_cases k2:k=2
          · subst k2
            have e1:s=nmF 2++32::(okB++32::(quoteF d++32::endB en)):=by rw [←h];simp [rowTail]
            have q1:=cutB_at (r:=okB++32::(quoteF d++32::endB en)) n2
            rw [←e1] at q1
            have q2:=cutB_at (r:=quoteF d++32::endB en) okB_32
            have q3:=wordR_word d (32::endB en)
            have q4:trimB (32::endB en)=endB en:=rfl
            rw [q4] at q3
            have q5:=cutB_none (endB_32 en)
            have q6:=endB_inj en
            simp [rowRead,q1,n4,q2,rowRest,hne,q3,q5,q6]
          · obtain ⟨hd0,hen⟩:=hd (.inr k2)
            subst hd0;subst hen
            have e1:s=nmF k++32::okB:=by rw [←h];simp [rowTail,k1,k5,k2]
            have q1:=cutB_at (r:=okB) n2
            rw [←e1] at q1
            have q2:=cutB_none okB_32
            simp [rowRead,q1,n4,q2,rowRest,hne,k1,k5,k2,hlt]
    · rw [if_neg he] at h
      simp only [Option.some.injEq] at h
      have hc0:=hc (.inl he)
      have hn0:=hn (.inl he)
      obtain ⟨hd0,hen⟩:=hd (.inl he)
      subst hc0;subst hn0;subst hd0;subst hen
      have q1:=cutB_at (r:=errB++32::Lib.itoa e) n2
      rw [h] at q1
      have q2:=cutB_at (r:=Lib.itoa e) errB_32
      have q3:=cutB_none (itoa_32 e)
      simp [rowRead,q1,n4,q2,rowRest,q3,numR_itoa g1,hlt]
end
end Go.Proofs.YtnknfheabnogaaaGreatDoor.E
