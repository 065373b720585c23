/- WalPlays: rows of calls on the program's log and the document's, with crashes, fuses and quotas, are answered alike and leave the disks alike, for every input of bulk up to 1048576 (the second form). Condition: none beyond the statement's own. -/
import Derived.Test.YtalchcdenhfmiaaGreatDoorP8
import Derived.Test.YtalchcdenhfmiaaGreatDoorCards
import Derived.Test.YtalchcdenhfmiaaGreatDoorTie
import Derived.WalkKit
import Derived.ProofKit
import Derived.OpenShut
import Derived.JoinedCond
import Derived.ChangeSlices
import Derived.Carry
import Derived.Deep.DeepHandedRow
import Derived.Lib.LaidTab
import Derived.Lay
namespace Go.Proofs.YtalchcdenhfmiaaGreatDoor.WalPlays
set_option maxRecDepth 20000
open Go Go.Proofs
open Go.ChangeShapes Go.WideShapes Go.ChangeAt Go.RowKit Go.Proofs.YtalchcdenhfmiaaGreatDoor.E
set_option linter.unusedVariables false
theorem own:ownKnob Tryz.prog.godebug=none:=by kernel_rfl
theorem laidOut:laidOutB Tryz.prog=true:=by kernel_rfl
theorem g32:Tryz.prog.globalNamed "math/bits.deBruijn32tab" =some 2:=by kernel_rfl
theorem g64:Tryz.prog.globalNamed "math/bits.deBruijn64tab" =some 3:=by kernel_rfl
theorem g10:Tryz.prog.globalNamed "internal/strconv.uint64pow10" =some 0:=by kernel_rfl
theorem tabs{W:World}(h:laidMetH Tryz.prog Rows.walPlaysUptoRow.laid W):E.TabsIn W E.tabsD:=by
  have h0:laidMet Tryz.prog Rows.walPlaysUptoRow.laid W:=h
  obtain ⟨ps,h1,_⟩:=h0
  obtain ⟨t1,q1,h2⟩:=E.laid_head (k:= .u8) (zs:=E.zs32) (t:=181) g32 (by kernel_rfl) Tryz.underlying181 Tryz.underlying5 (by kernel_rfl) (by kernel_rfl) h1
  obtain ⟨t2,q2,h3⟩:=E.laid_head (k:= .u8) (zs:=E.zs64) (t:=182) g64 (by kernel_rfl) Tryz.underlying182 Tryz.underlying5 (by kernel_rfl) (by kernel_rfl) h2
  obtain ⟨t3,q3,h4⟩:=E.laid_head (k:= .u64) (zs:=E.zs10) (t:=165) g10 (by kernel_rfl) Tryz.underlying165 Tryz.underlying79 (by kernel_rfl) (by kernel_rfl) h3
  intro t ht
  simp only [E.tabsD,List.mem_cons,List.mem_nil_iff,or_false] at ht
  rcases ht with rfl|rfl|rfl
  · exact E.TabIs.heap t1 g32
  · exact E.TabIs.heap t2 g64
  · exact E.TabIs.heap t3 g10
theorem good37:goodT Tryz.prog 5 37=true:=by kernel_rfl
theorem shp37:shpT Tryz.prog 5 37=true:=by kernel_rfl
theorem c37:Tryz.prog.cellsOf 37=1:=by kernel_rfl
theorem c52:Tryz.prog.cellsOf 52=5:=by kernel_rfl
theorem c5:Tryz.prog.cellsOf 5=1:=by kernel_rfl
theorem c108:Tryz.prog.cellsOf 108=1:=by kernel_rfl
theorem u3:Tryz.prog.underlying 3=some (.int .i64):=by kernel_rfl
theorem u9:Tryz.prog.underlying 9=some .string:=by kernel_rfl
theorem u22:Tryz.prog.underlying 22=some (.slice 5):=by kernel_rfl
theorem u5:Tryz.prog.underlying 5=some (.int .u8):=by kernel_rfl
theorem u50:Tryz.prog.underlying 50=some (.slice 108):=by kernel_rfl
theorem u108:Tryz.prog.underlying 108=some (.int .u16):=by kernel_rfl
theorem u37:Tryz.prog.underlying 37=some (.slice 52):=by kernel_rfl
theorem u52:∃fs:Array Field,Tryz.prog.underlying 52=some (.struct fs)∧fs.toList.map (·.type)= [3,3,22,9,50]:=by
  have h:(Tryz.prog.underlying 52).bind (fun d=>match d with| .struct fs=>some (fs.toList.map (·.type))|_=>none)=some [3,3,22,9,50]:=by kernel_rfl
  obtain ⟨d,h1,h2⟩:=Option.bind_eq_some_iff.1 h
  cases d with
  |struct fs=>exact ⟨fs,h1,by simpa using h2⟩
  |_=>cases h2
section
variable {H:Type}
theorem one_le(d:DataW H):1≤Rows.uptoBulk d:=by
  cases d with
  |lit l=>cases l<;>simp [Rows.uptoBulk]
  |nil=>simp [Rows.uptoBulk]
  |ptr d=>simp [Rows.uptoBulk]
  |slice elems spare=>simp [Rows.uptoBulk]
  |agg parts=>simp [Rows.uptoBulk]
  |iface t d=>simp [Rows.uptoBulk]
  |map entries=>simp [Rows.uptoBulk]
  |held h=>simp [Rows.uptoBulk]
theorem part_le{d:DataW H}{l:List (DataW H)}(h:d∈l):Rows.uptoBulk d≤Rows.uptoBulkAll l:=by
  induction l with
  |nil=>cases h
  |cons x r ih=>
    simp only [Rows.uptoBulkAll]
    cases List.mem_cons.1 h with
    |inl e=>subst e;omega
    |inr e=>have:=ih e;omega
theorem length_le(l:List (DataW H)):l.length≤Rows.uptoBulkAll l:=by
  induction l with
  |nil=>simp [Rows.uptoBulkAll]
  |cons x r ih=>have:=one_le x;simp only [Rows.uptoBulkAll,List.length_cons];omega
theorem bulk_slice(l sp:List (DataW H)):l.length≤Rows.uptoBulk (.slice l sp)∧Rows.uptoBulkAll l≤Rows.uptoBulk (.slice l sp):=by
  have:=length_le l
  simp only [Rows.uptoBulk];omega
theorem bulk_agg(l:List (DataW H)):Rows.uptoBulkAll l≤Rows.uptoBulk (.agg l):=by simp only [Rows.uptoBulk];omega
theorem wf64{n:Int}(h:(Lit.int .i64 n).wf=true): -9223372036854775808≤n∧n≤9223372036854775807:=by
  simp only [Lit.wf,decide_eq_true_eq,Bool.and_eq_true] at h
  exact h
theorem wf16{n:Int}(h:(Lit.int .u16 n).wf=true):0≤n∧n≤65535:=by
  simp only [Lit.wf,decide_eq_true_eq,Bool.and_eq_true] at h
  exact h
theorem wf8{n:Int}(h:(Lit.int .u8 n).wf=true):0≤n∧n≤255:=by
  simp only [Lit.wf,decide_eq_true_eq,Bool.and_eq_true] at h
  exact h
theorem ba_of(s:ByteArray):(⟨s.data.toList.toArray⟩:ByteArray)=s:=by cases s;simp
/-- a slice of bytes, as the call finds it -/
theorem bytes_of{d:DataW H}(h:Shp Tryz.prog 3 22 d):∃(v:AV) (xs:List Nat),absC Tryz.prog 3 22 d= [v]∧BV v (xs.map Int.ofNat)∧(∀x∈xs,x<256)∧xs.length≤Rows.uptoBulk d:=by
  obtain ⟨ns,hn,_,hc⟩:=shp_nums u22 u5 c5 h
  have hl:ns.length≤Rows.uptoBulk d:=by
    rcases hc with ⟨rfl,_⟩|⟨l,sp,rfl,h1,_⟩
    · simp
    · have:=(bulk_slice l sp).1;omega
  have e:(ns.map Int.toNat).map Int.ofNat=ns:=by
    rw [List.map_map]
    conv=>rhs;rw [←List.map_id ns]
    exact List.map_congr_left fun n hm=>by
      have:=wf8 (hn n hm)
      show ((n.toNat:Nat):Int)=n
      omega
  have h256:∀x∈ns.map Int.toNat,x<256:=fun x hx=>by
    obtain ⟨n,hm,rfl⟩:=List.mem_map.1 hx
    have:=wf8 (hn n hm)
    omega
  rcases hc with ⟨h0,_,ha⟩|⟨l,sp,_,_,ha⟩
  · exact ⟨_,ns.map Int.toNat,ha,by rw [e];exact .inl ⟨h0,rfl⟩,h256,by rw [List.length_map];exact hl⟩
  · exact ⟨_,ns.map Int.toNat,ha,by rw [e];exact .inr ⟨false,rfl⟩,h256,by rw [List.length_map];exact hl⟩
theorem act_of{d:DataW H}(h:Shp Tryz.prog 4 52 d)(hb:Rows.uptoBulk d≤1048576):∃A:Ac,AcOk A∧absC Tryz.prog 4 52 d=A.cells∧A.xs.length≤Rows.uptoBulk d:=by
  obtain ⟨fs,hu,hf⟩:=u52
  obtain ⟨ds,rfl,hs⟩:=shp_struct hu h
  have hbd:=bulk_agg ds
  obtain ⟨f0,f1,f2,f3,f4,hfs⟩:∃f0 f1 f2 f3 f4,fs.toList= [f0,f1,f2,f3,f4]:=by
    match hl:fs.toList with
    | []=>rw [hl] at hf;simp at hf
    | [_]=>rw [hl] at hf;simp at hf
    | [_,_]=>rw [hl] at hf;simp at hf
    | [_,_,_]=>rw [hl] at hf;simp at hf
    | [_,_,_,_]=>rw [hl] at hf;simp at hf
    | [a,b,c,d,e]=>exact ⟨_,_,_,_,_,rfl⟩
    |_::_::_::_::_::_::_=>rw [hl] at hf;simp at hf
  rw [hfs] at hf hs
  simp only [List.map_cons,List.map_nil,List.cons.injEq,and_true] at hf
  obtain ⟨t0,t1,t2,t3,t4⟩:=hf
  match ds,hs with
  | [d0,d1,d2,d3,d4],hs=>
  obtain ⟨s0,s1,s2,s3,s4,_⟩:=hs
  rw [t0] at s0;rw [t1] at s1;rw [t2] at s2;rw [t3] at s3;rw [t4] at s4
  obtain ⟨what,rfl,w0⟩:=shp_int u3 s0
  obtain ⟨n,rfl,w1⟩:=shp_int u3 s1
  obtain ⟨bv,xs,vb,B1,B2,B3⟩:=bytes_of s2
  obtain ⟨name,rfl,_⟩:=shp_str u9 s3
  obtain ⟨ps,hps,lp,cp⟩:=shp_nums u50 u108 c108 s4
  have b1:Rows.uptoBulk (DataW.lit (H:=H) (.string name.data.toList))≤1048576:=Nat.le_trans (part_le (by simp)) (Nat.le_trans hbd hb)
  have b4:Rows.uptoBulk d4≤1048576:=Nat.le_trans (part_le (by simp)) (Nat.le_trans hbd hb)
  have b2:Rows.uptoBulk d2≤Rows.uptoBulkAll [DataW.lit (H:=H) (.int .i64 what),.lit (.int .i64 n),d2,.lit (.string name.data.toList),d4]:=part_le (by simp)
  simp only [Rows.uptoBulk] at b1
  have e1:name.data.toList.length=name.size:=by rw [Array.length_toList];rfl
  obtain ⟨pv,vp,PP⟩:∃pv,absC Tryz.prog 3 50 d4= [pv]∧BP pv ps∧ps.length≤1048576:=by
    rcases cp with ⟨rfl,_,h⟩|⟨l,sp,rfl,h1,h⟩
    · exact ⟨_,h,.inl ⟨rfl,rfl⟩,by simp⟩
    · exact ⟨_,h,.inr ⟨false,rfl⟩,by have:=(bulk_slice l sp).1;omega⟩
  have hn:=wf64 w1
  refine ⟨⟨what,n,bv,xs,name,pv,ps⟩,⟨hn.1,hn.2,B1,B2,by show name.size≤_;omega,PP.1,⟨by show ps.length≤_;omega,fun v hv=>wf16 (hps v hv)⟩⟩,?_,by show xs.length≤_;omega⟩
  have ea:absC Tryz.prog 4 52 (.agg [.lit (.int .i64 what),.lit (.int .i64 n),d2,.lit (.string name.data.toList),d4])=absF (absC Tryz.prog 3) fs.toList [.lit (.int .i64 what),.lit (.int .i64 n),d2,.lit (.string name.data.toList),d4]:=by
    simp only [absC,hu]
  rw [ea,hfs]
  simp only [absF,t0,t1,t2,t3,t4,vb,vp]
  simp only [absC,u3,u9,ba_of]
  rfl
theorem acts_of{d:DataW H}(h:Shp Tryz.prog 5 37 d)(hb:Rows.uptoBulk d≤1048576):∃(L:AV) (As:List Ac),absC Tryz.prog 5 37 d= [L]∧ActsV L As∧(∀A∈As,AcOk A)∧(As.map fun A=>A.xs.length).sum≤1048576:=by
  rcases shp_slice u37 h with rfl|⟨l,sp,rfl,hl,hs⟩
  · exact ⟨.nils,[],by simp only [absC,u37],.inl ⟨rfl,rfl⟩,by simp,by simp⟩
  · have hbl:=(bulk_slice l sp).2
    have gen:∀l:List (DataW H),(∀y∈l,Shp Tryz.prog 4 52 y∧Rows.uptoBulk y≤1048576)→∃As:List Ac,(∀A∈As,AcOk A)∧l.length=As.length∧l.flatMap (absC Tryz.prog 4 52)=As.flatMap Ac.cells∧(As.map fun A=>A.xs.length).sum≤Rows.uptoBulkAll l:=fun l=>by
      induction l with
      |nil=>exact fun _=>⟨[],by simp,rfl,rfl,by simp⟩
      |cons y r ih=>
        intro hs
        obtain ⟨As,h1,h2,h3,h4⟩:=ih fun z hz=>hs z (by simp [hz])
        obtain ⟨A,hA,hc,hx⟩:=act_of (hs y (by simp)).1 (hs y (by simp)).2
        exact ⟨A::As,by simpa using ⟨hA,h1⟩,by simp [h2],by rw [List.flatMap_cons,List.flatMap_cons,h3,hc],by simp only [Rows.uptoBulkAll,List.map_cons,List.sum_cons];omega⟩
    obtain ⟨As,h1,h2,h3,h4⟩:=gen l fun y hy=>⟨hs y hy,Nat.le_trans (part_le hy) (Nat.le_trans hbl hb)⟩
    refine ⟨.imm 5 As.length false (As.flatMap Ac.cells),As,?_,.inr ⟨false,rfl⟩,h1,by omega⟩
    rw [←h2,←h3]
    simp only [absC,u37,c52]
end
theorem okWT{W:World}{ts:List (Nat×IntKind×List Int)}(hne:∀t∈ts,t.2.2≠ [])(h:TabsIn W ts):OK (gW W) (stTab ts) W:=
  ⟨(okW W).imm,fun id o h=>by simp [stTab,St.get,Tr.get] at h,fun id o _ _ h=>by simp [stTab,St.get,Tr.get] at h,fun id o h=>by simp [stTab,St.get,Tr.get] at h,rfl,fun p hp=>by
    obtain ⟨t,ht,rfl⟩:=List.mem_map.1 hp
    obtain ⟨T,fr,hh⟩:=h t ht
    have hv:VRs (gW W) (intsAV t.2.1 t.2.2) (t.2.2.map fun z=>Value.int t.2.1 z):= .of_get (by simp [intsAV]) fun i c u hc hu=>by
      unfold intsAV at hc
      rw [List.getElem?_map] at hc hu
      obtain ⟨z,hz,rfl⟩:=Option.map_eq_some_iff.1 hc
      rw [hz] at hu
      cases hu
      exact .val _ rfl
    have hM:(gW W).M t.1=t.2.2.map fun z=>Value.int t.2.1 z:=by
      show (match W.heap[t.1]? with|some (.cells cs _ _)=>cs.toList|_=> [])=_
      rw [hh]
    refine ⟨.iptr _ _ _ hv.1 hv.2 (fun u hu=> ?_) ⟨rfl,?_⟩,?_,?_⟩
    · obtain ⟨z,_,rfl⟩:=List.mem_map.1 hu
      rfl
    · show _<+:List.drop 0 ((gW W).M t.1)
      rw [hM]
      exact List.prefix_refl _
    · show (gW W).M t.1≠ []
      rw [hM]
      exact fun e=>hne t ht (List.map_eq_nil_iff.1 e)
    · show ((gW W).M t.1).length=_
      rw [hM]
      simp [intsAV]⟩
theorem tabs_ne:∀t∈tabsD,t.2.2≠ []:=fun t ht=>by
  simp only [tabsD,List.mem_cons,List.mem_nil_iff,or_false] at ht
  rcases ht with rfl|rfl|rfl
  · show zs32≠ [];unfold zs32;simp
  · show zs64≠ [];unfold zs64;simp
  · show zs10≠ [];unfold zs10;simp
theorem contract(F:Stop.Interp)(H:Type)(enc:TypeId×Value→H)(W:World)(base:Nat)(args:Array Value)(ds gs:List (DataW H))(before:List MemPlace)
    (hval:∀(j:Nat) t v,Tryz.f4.params[j]? =some t→args[j]? =some v→Value.okWide Tryz.prog W .any base t v)
    (hW:DataW.Whole enc Tryz.prog Tryz.f4.params.toList Rows.walPlaysSpec.vars false W args.toList ds gs before) (hk:Rows.uptoSmall H (ds++gs)=true) (hL:laidMetH Tryz.prog Rows.walPlaysUptoRow.laid W):
    Calls Tryz.prog 4 args W fun e W'=>∃v,e= .returned v∧((Rows.OpenSpec.upto Rows.walPlaysSpec).at F).post enc Tryz.prog Tryz.f4 false true false false W args v W':=by
  have hW':=hW
  obtain ⟨p,q,hA0,hV,rfl,_,_⟩:=hW
  have hA:DataW.TrodAll enc Tryz.prog W 0 (fun _=>true) true Tryz.f4.params.toList args.toList ds p:=hA0
  rw [Tryz.params4] at hA hval
  obtain ⟨v0,d0,rfl,rfl,h0⟩:=trodAll_one hA
  obtain ⟨rfl,rfl⟩:=trodVars_none hV
  simp only [List.append_nil] at hW' hk
  have hlt:∀x∈p,x.block<W.heap.size:=fun x hx=>by simpa using hW'.lt x hx
  obtain ⟨a1,n1,cap1,rfl⟩:=okWide_slice u37 (hval 0 37 v0 rfl rfl)
  have hbulk:Rows.uptoBulkAll [d0]≤1048576:=of_decide_eq_true hk
  obtain ⟨f1,e1⟩:=id h0
  obtain ⟨L,As,eb,hAL,hAs,hB⟩:=acts_of (shp_of 5 37 shp37 f1 _ _ e1) (Nat.le_trans (part_le (by simp)) hbulk)
  have l1:=lift 5 37 good37 f1 _ _ (by rw [c37];rfl) e1
  rw [eb] at l1
  have hargs:VRs (gW W) [L] [.slice a1 n1 cap1]:=l1.1
  have run:=plays_all (st:=stTab tabsD) (fun i o h=>by simp [stTab,St.get,Tr.get] at h) rfl rfl hAL hAs hB
  have run':Calls Tryz.prog 4 #[.slice a1 n1 cap1] W fun e w'=>e= .returned (.bool true)∧Below W.heap.size W w':=
    (run (gW W) W _ (okWT tabs_ne (tabs hL)) hargs).mono fun e w' ⟨g',st',a,v,h1,h2,h3,h4⟩=>by
      subst h4
      rw [h3.val_inv] at h1
      exact ⟨h1,h2.os,h2.tape,h2.output,h2.size,fun b hb=>h2.frame b hb fun id o ho=>by
        have:=(St.wget_get ho).1
        simp [stTab,St.get,Tr.get] at this⟩
  refine run'.mono fun e W' ⟨he,hb⟩=> ?_
  have k0:=Below.trod laidOut (by kernel_rfl) (of_decide_eq_true (by kernel_rfl)) h0 hb fun x hx=>hlt x hx
  exact ⟨_,he,⟨_,_,_,[],_,[],hW',trodAll_mk1 (shut_bool Tryz.underlying4 _),trodAll_mk1 k0,rfl,hb.frame _,fun h=>by cases h⟩⟩
noncomputable def laidWorld(os:Os):World:=World.laidAll Tryz.prog os Rows.walPlaysUptoRow.laid
def wargs:Array Value:= #[.slice none 0 0]
theorem laid_met(os:Os):laidMet Tryz.prog Rows.walPlaysUptoRow.laid ((laidWorld os).forCall (fun _ _=>0) ⟨#[],wargs,[]⟩).memory:=
  laidMet_laidAll wargs (by kernel_rfl) (by kernel_rfl)
theorem reads(os:Os){H:Type}(enc:TypeId×Value→H):∃places,DataW.whole enc Tryz.prog ((laidWorld os).forCall (fun _ _=>0) ⟨#[],wargs,[]⟩).memory Tryz.f4.params.toList Rows.walPlaysSpec.vars false wargs.toList 8=some ([.nil],[],places):=
  ⟨[],by kernel_rfl⟩
set_option maxRecDepth 100000 in
theorem lifted(os:Os)(started:os.Started)(H:Type)(enc:TypeId×Value→H)(F:Stop.Interp):
    ReturnsInHanded {} Tryz.checked os 4 .any ((Rows.OpenSpec.upto Rows.walPlaysSpec).preRow enc Tryz.prog Tryz.f4 Rows.walPlaysUptoRow.domain false Rows.walPlaysUptoRow.laid) (((Rows.OpenSpec.upto Rows.walPlaysSpec).at F).post enc Tryz.prog Tryz.f4 false true false false):=by
  obtain ⟨places,hx⟩:=reads os enc
  refine returnsInHanded_of_row (C:=Tryz.checked) (s:=Rows.OpenSpec.upto Rows.walPlaysSpec) own started (by kernel_rfl) Tryz.func4
    (witness_row_at (enc:=enc) (C:=Tryz.checked) false (laidWorld os) wargs rfl (by kernel_rfl) (by kernel_rfl) (by kernel_rfl)
      (OpenSpec.preRow_of_cond 8 hx (by kernel_rfl) (fun k hk=>by cases hk;kernel_rfl) (by kernel_rfl) (laid_met os))) ?_
  intro W base args ds gs before hval hW _ hk _ hL _ _
  exact contract F H enc W base args ds gs before hval hW (hk _ rfl) hL
theorem said:Rows.WalPlaysUptoSaid:=
  OpenClaim.holds_of_cond 4 Tryz.f4 rfl rfl rfl rfl rfl rfl rfl ⟨rfl,rfl,rfl,rfl,rfl⟩ rfl rfl rfl rfl rfl (by kernel_rfl) Tryz.func4 (by kernel_rfl)
    (of_decide_eq_true (by kernel_rfl)) (by unfold Func.isWrapper;first|(rw [if_pos (by decide+kernel)];kernel_rfl)|(rw [if_neg (by decide+kernel)];exact ⟨rfl,rfl⟩))
    (fun os started H enc _ F=>by rw [OpenClaim.pre_eq_preRow];exact lifted os started H enc F)
theorem w37:Tryz.pinned.checked.prog.wantsStandIn 37=false:=by kernel_rfl
theorem plain(f:FuncId)(fn:Func)(hf:Tryz.pinned.checked.prog.funcNamed "escritoire/escritoirelaw15.WalPlays" =some f)(hfn:Tryz.pinned.checked.prog.funcs[f]? =some fn):
    true=Tryz.pinned.checked.prog.looks []∧∀(j:Nat) t,fn.params[j]? =some t→Tryz.pinned.checked.prog.wantsStandIn t=false:=by
  obtain rfl:f=4:=Option.some.inj ((show Tryz.prog.funcNamed "escritoire/escritoirelaw15.WalPlays" =some 4 by kernel_rfl).symm.trans hf)|>.symm
  obtain rfl:fn=Tryz.f4:=(Option.some.inj (Tryz.func4.symm.trans hfn)).symm
  refine ⟨by kernel_rfl,fun j t ht=> ?_⟩
  rw [Tryz.params4] at ht
  match j,ht with
  |0,ht=>cases ht;exact w37
  |j+1,ht=>simp at ht
theorem card:Rows.WalPlaysUptoCardSaid:=
  Claim7.holds_tied_plain_at .later [] _ _ _ _ said (fun _ h=>by cases h) (by kernel_rfl) (fun _ h=>by cases h) walPlaysUpto_row_tie rfl ⟨rfl,rfl⟩ (by kernel_rfl) rfl plain (by kernel_rfl)
end Go.Proofs.YtalchcdenhfmiaaGreatDoor.WalPlays
