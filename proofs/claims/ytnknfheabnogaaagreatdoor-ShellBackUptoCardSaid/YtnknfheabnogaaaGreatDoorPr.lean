/- /- ShellBack: events and rows that may be written go as text and come back, a text that is events, or rows, is theirs; where what is read is of bulk at most 1048576. -/ -/
import Derived.Test.YtnknfheabnogaaaGreatDoorP6
import Derived.Test.YtnknfheabnogaaaGreatDoorCards
import Derived.Test.YtnknfheabnogaaaGreatDoorTie
import Derived.WalkKit
import Derived.ProofKit
import Derived.OpenShut
import Derived.JoinedCond
import Derived.ChangeSlices
import Derived.Carry
import Derived.Deep.DeepHandedRow
import Derived.Lib.LaidTab
import Derived.Lay
import Derived.LaidLaws
namespace Go.Proofs.YtnknfheabnogaaaGreatDoor.ShellBack
set_option maxRecDepth 20000
open Go Go.Proofs
open Go.ChangeShapes Go.WideShapes Go.ChangeAt Go.RowKit Go.Proofs.YtnknfheabnogaaaGreatDoor.E
set_option linter.unusedVariables false
theorem own:ownKnob Tryz.prog.godebug=none:=by kernel_rfl
theorem laidOut:laidOutB Tryz.prog=true:=by kernel_rfl
theorem g32:Tryz.prog.globalNamed "math/bits.deBruijn32tab" =some 6:=by kernel_rfl
theorem g64:Tryz.prog.globalNamed "math/bits.deBruijn64tab" =some 7:=by kernel_rfl
theorem g10:Tryz.prog.globalNamed "internal/strconv.uint64pow10" =some 1:=by kernel_rfl
theorem gSyn:Tryz.prog.globalNamed "strconv.ErrSyntax" =some 2:=by kernel_rfl
theorem gRan:Tryz.prog.globalNamed "strconv.ErrRange" =some 3:=by kernel_rfl
theorem uErr:∃ms,Tryz.prog.underlying 85=some (.interface ms):=by
  have h:(Tryz.prog.underlying 85).map (fun d=>match d with| .interface _=>true|_=>false)=some true:=by kernel_rfl
  obtain ⟨d,h1,h2⟩:=Option.map_eq_some_iff.1 h
  cases d with
  |interface ms=>exact ⟨ms,h1⟩
  |_=>cases h2
theorem laid_skip{W:World}{name:String}{d:DataW Unit}{rest:List (String×DataW Unit)}{ps:List MemPlace}(h:DataW.LaidVars Tryz.prog W ((name,d)::rest) ps):∃q,DataW.LaidVars Tryz.prog W rest q:=by
  obtain ⟨_,_,_,_,_,q,_,_,_,_,hq,_⟩:=h
  exact ⟨q,hq⟩
theorem laid_err{W:World}{name nm:String}{d:DataW Unit}{g:Nat}{rest:List (String×DataW Unit)}{ps:List MemPlace}(hg:Tryz.prog.globalNamed name=some g)(hty:(Tryz.prog.globals[g]?).map (·.type)=some 85)
    (h:DataW.LaidVars Tryz.prog W ((name,.iface nm d)::rest) ps):(∃t v T fr,W.heap[g]? =some (.cells #[.iface t v] T fr))∧∃q,DataW.LaidVars Tryz.prog W rest q:=by
  obtain ⟨g',t',cs,fuel,p,q,hg',ht',hvar,hd,hq,_⟩:=h
  obtain rfl:=Option.some.inj (hg.symm.trans hg')
  obtain rfl:=Option.some.inj (hty.symm.trans ht')
  refine ⟨?_,q,hq⟩
  obtain ⟨ms,hu⟩:=uErr
  obtain ⟨_,u,v,hcs,_⟩:=iface_of_trod hu hd
  unfold World.var? at hvar
  rw [hg] at hvar
  simp only [Option.bind_some] at hvar
  split at hvar
  · rename_i cs' T fr hh
    simp only [Option.some.injEq] at hvar
    subst hvar
    have e:cs'= #[.iface u v]:=Array.ext' (by simpa using hcs)
    exact ⟨u,v,T,fr,by rw [hh,e]⟩
  · cases hvar
theorem tabs{W:World}(h:laidMetH Tryz.prog Rows.shellBackUptoRow.laid W):E.TabsIn W E.tabsD∧(∃t v T fr,W.heap[2]? =some (.cells #[.iface t v] T fr))∧∃t v T fr,W.heap[3]? =some (.cells #[.iface t v] T fr):=by
  have h0:laidMet Tryz.prog Rows.shellBackUptoRow.laid W:=h
  obtain ⟨ps,h1,_⟩:=h0
  obtain ⟨t1,q1,h2⟩:=E.laid_head (k:= .u8) (zs:=E.zs32) (t:=169) g32 (by kernel_rfl) Tryz.underlying169 Tryz.underlying5 (by kernel_rfl) (by kernel_rfl) h1
  obtain ⟨t2,q2,h3⟩:=E.laid_head (k:= .u8) (zs:=E.zs64) (t:=170) g64 (by kernel_rfl) Tryz.underlying170 Tryz.underlying5 (by kernel_rfl) (by kernel_rfl) h2
  obtain ⟨t3,q3,h4⟩:=E.laid_head (k:= .u64) (zs:=E.zs10) (t:=147) g10 (by kernel_rfl) Tryz.underlying147 Tryz.underlying114 (by kernel_rfl) (by kernel_rfl) h3
  obtain ⟨q4,h5⟩:=laid_skip h4
  obtain ⟨e3,q5,h6⟩:=laid_err gRan (by kernel_rfl) h5
  obtain ⟨e2,_⟩:=laid_err gSyn (by kernel_rfl) h6
  refine ⟨fun t ht=> ?_,e2,e3⟩
  simp only [E.tabsD,List.mem_cons,List.mem_nil_iff,or_false] at ht
  rcases ht with rfl|rfl|rfl
  · exact E.TabIs.heap t1 g32
  · exact E.TabIs.heap t2 g64
  · exact E.TabIs.heap t3 g10
theorem u9:Tryz.prog.underlying 9=some .string:=by kernel_rfl
section
variable {H:Type}
theorem one_le(d:DataW H):1≤Rows.uptoBulk d:=by
  cases d with
  |lit l=>cases l<;>simp [Rows.uptoBulk]
  |nil=>simp [Rows.uptoBulk]
  |ptr d=>simp [Rows.uptoBulk]
  |slice elems spare=>simp [Rows.uptoBulk]
  |agg parts=>simp [Rows.uptoBulk]
  |iface t d=>simp [Rows.uptoBulk]
  |map entries=>simp [Rows.uptoBulk]
  |held h=>simp [Rows.uptoBulk]
theorem part_le{d:DataW H}{l:List (DataW H)}(h:d∈l):Rows.uptoBulk d≤Rows.uptoBulkAll l:=by
  induction l with
  |nil=>cases h
  |cons x r ih=>
    simp only [Rows.uptoBulkAll]
    cases List.mem_cons.1 h with
    |inl e=>subst e;omega
    |inr e=>have:=ih e;omega
theorem length_le(l:List (DataW H)):l.length≤Rows.uptoBulkAll l:=by
  induction l with
  |nil=>simp [Rows.uptoBulkAll]
  |cons x r ih=>have:=one_le x;simp only [Rows.uptoBulkAll,List.length_cons];omega
theorem bulk_slice(l sp:List (DataW H)):l.length≤Rows.uptoBulk (.slice l sp)∧Rows.uptoBulkAll l≤Rows.uptoBulk (.slice l sp):=by
  have:=length_le l
  simp only [Rows.uptoBulk];omega
theorem bulk_agg(l:List (DataW H)):Rows.uptoBulkAll l≤Rows.uptoBulk (.agg l):=by simp only [Rows.uptoBulk];omega
end
theorem gv_of{W:World}{b:Nat}{avs:List AV}{us:List Value}{T:TypeId}{fr:Nat×Nat}(hh:W.heap[b]? =some (.cells us.toArray T fr))(hv:VRs (gW W) avs us)(h1:∀u∈us,u.oneCell'=true)(hne:avs≠ []):GV (gW W) (b,avs):=by
  have hM:(gW W).M b=us:=by
    show (match W.heap[b]? with|some (.cells cs _ _)=>cs.toList|_=> [])=_
    rw [hh]
  refine ⟨.iptr _ _ _ hv.1 hv.2 h1 ⟨rfl,?_⟩,fun _=>⟨?_,?_⟩,fun e=>absurd e hne⟩
  · show _<+:List.drop 0 ((gW W).M b)
    rw [hM]
    exact List.prefix_refl _
  · show (gW W).M b≠ []
    rw [hM]
    exact fun e=>hne (List.length_eq_zero_iff.1 (by rw [←hv.1,e];rfl))
  · show ((gW W).M b).length=_
    rw [hM]
    exact hv.1
/-- the store at the call: the tables, the errors' variables -/
def stE(ts:List (Nat×IntKind×List Int))(t2 t3:TypeId):St:=⟨0,.nil,[],(stTab ts).gl++ [(2,[.ifc t2 .undef]),(3,[.ifc t3 .undef])]⟩
theorem okWE{W:World}{ts:List (Nat×IntKind×List Int)}(hne:∀t∈ts,t.2.2≠ [])(h:TabsIn W ts){t2 t3:TypeId}{v2 v3:Value}{T2 T3:TypeId}{f2 f3:Nat×Nat}(h2:W.heap[2]? =some (.cells #[.iface t2 v2] T2 f2))(h3:W.heap[3]? =some (.cells #[.iface t3 v3] T3 f3)):OK (gW W) (stE ts t2 t3) W:=
  ⟨(okW W).imm,fun id o h=>by simp [stE,St.get,Tr.get] at h,fun id o _ _ h=>by simp [stE,St.get,Tr.get] at h,fun id o h=>by simp [stE,St.get,Tr.get] at h,rfl,fun p hp=>by
    have one:∀{t:TypeId} {v:Value},VRs (gW W) [.ifc t .undef] [.iface t v]:=fun {t v}=> .cons (.ifc _ _ _ (.undef _)) (.nil _)
    have hp:p∈(stTab ts).gl++ [(2,[.ifc t2 .undef]),(3,[.ifc t3 .undef])]:=hp
    rcases List.mem_append.1 hp with hp|hp
    · obtain ⟨t,ht,rfl⟩:=List.mem_map.1 hp
      obtain ⟨T,fr,hh⟩:=h t ht
      have hv:VRs (gW W) (intsAV t.2.1 t.2.2) (t.2.2.map fun z=>Value.int t.2.1 z):= .of_get (by simp [intsAV]) fun i c u hc hu=>by
        unfold intsAV at hc
        rw [List.getElem?_map] at hc hu
        obtain ⟨z,hz,rfl⟩:=Option.map_eq_some_iff.1 hc
        rw [hz] at hu
        cases hu
        exact .val _ rfl
      exact gv_of hh hv (fun u hu=>by
        obtain ⟨z,_,rfl⟩:=List.mem_map.1 hu
        rfl) (fun e=>hne t ht (List.map_eq_nil_iff.1 e))
    · simp only [List.mem_cons,List.mem_nil_iff,or_false] at hp
      rcases hp with rfl|rfl
      · exact gv_of (us:= [.iface t2 v2]) h2 one (fun u hu=>by simp only [List.mem_singleton] at hu;subst hu;rfl) (by simp)
      · exact gv_of (us:= [.iface t3 v3]) h3 one (fun u hu=>by simp only [List.mem_singleton] at hu;subst hu;rfl) (by simp)⟩
theorem tabs_ne:∀t∈tabsD,t.2.2≠ []:=fun t ht=>by
  simp only [tabsD,List.mem_cons,List.mem_nil_iff,or_false] at ht
  rcases ht with rfl|rfl|rfl
  · show zs32≠ [];unfold zs32;simp
  · show zs64≠ [];unfold zs64;simp
  · show zs10≠ [];unfold zs10;simp
theorem stE_tabs(t2 t3:TypeId):Tabs (stE tabsD t2 t3):=fun p hp=>List.mem_append_left _ hp
theorem stE_err(t2 t3:TypeId):ErrV (stE tabsD t2 t3):=⟨⟨t2,List.mem_append_right _ (by simp)⟩,t3,List.mem_append_right _ (by simp)⟩
theorem stE_wf(t2 t3:TypeId):(stE tabsD t2 t3).wf:=fun i o h=>by simp [stE,St.get,Tr.get] at h

theorem good22:goodT Tryz.prog 5 22=true:=by kernel_rfl
theorem shp22:shpT Tryz.prog 5 22=true:=by kernel_rfl
theorem good37:goodT Tryz.prog 5 37=true:=by kernel_rfl
theorem shp37:shpT Tryz.prog 5 37=true:=by kernel_rfl
theorem c22:Tryz.prog.cellsOf 22=1:=by kernel_rfl
theorem c37:Tryz.prog.cellsOf 37=1:=by kernel_rfl
theorem c54:Tryz.prog.cellsOf 54=5:=by kernel_rfl
theorem c70:Tryz.prog.cellsOf 70=6:=by kernel_rfl
theorem c5:Tryz.prog.cellsOf 5=1:=by kernel_rfl
theorem c66:Tryz.prog.cellsOf 66=1:=by kernel_rfl
theorem u3:Tryz.prog.underlying 3=some (.int .i64):=by kernel_rfl
theorem u23:Tryz.prog.underlying 23=some (.int .i64):=by kernel_rfl
theorem u4:Tryz.prog.underlying 4=some .bool:=by kernel_rfl
theorem u51:Tryz.prog.underlying 51=some (.slice 5):=by kernel_rfl
theorem u5:Tryz.prog.underlying 5=some (.int .u8):=by kernel_rfl
theorem u52:Tryz.prog.underlying 52=some (.slice 66):=by kernel_rfl
theorem u66:Tryz.prog.underlying 66=some (.int .u16):=by kernel_rfl
theorem u22:Tryz.prog.underlying 22=some (.slice 54):=by kernel_rfl
theorem u37:Tryz.prog.underlying 37=some (.slice 70):=by kernel_rfl
theorem u54:∃fs:Array Field,Tryz.prog.underlying 54=some (.struct fs)∧fs.toList.map (·.type)= [3,3,3,51,52]:=by
  have h:(Tryz.prog.underlying 54).bind (fun d=>match d with| .struct fs=>some (fs.toList.map (·.type))|_=>none)=some [3,3,3,51,52]:=by kernel_rfl
  obtain ⟨d,h1,h2⟩:=Option.bind_eq_some_iff.1 h
  cases d with
  |struct fs=>exact ⟨fs,h1,by simpa using h2⟩
  |_=>cases h2
theorem u70:∃fs:Array Field,Tryz.prog.underlying 70=some (.struct fs)∧fs.toList.map (·.type)= [3,23,3,3,51,4]:=by
  have h:(Tryz.prog.underlying 70).bind (fun d=>match d with| .struct fs=>some (fs.toList.map (·.type))|_=>none)=some [3,23,3,3,51,4]:=by kernel_rfl
  obtain ⟨d,h1,h2⟩:=Option.bind_eq_some_iff.1 h
  cases d with
  |struct fs=>exact ⟨fs,h1,by simpa using h2⟩
  |_=>cases h2
section
variable {H:Type}
theorem wf8{n:Int}(h:(Lit.int .u8 n).wf=true):0≤n∧n≤255:=by
  simp only [Lit.wf,decide_eq_true_eq,Bool.and_eq_true] at h
  exact h
theorem wf16{n:Int}(h:(Lit.int .u16 n).wf=true):0≤n∧n≤65535:=by
  simp only [Lit.wf,decide_eq_true_eq,Bool.and_eq_true] at h
  exact h
theorem wf64{n:Int}(h:(Lit.int .i64 n).wf=true):I64 n:=by
  simp only [Lit.wf,decide_eq_true_eq,Bool.and_eq_true] at h
  exact h
theorem bytes_of{d:DataW H}(h:Shp Tryz.prog 3 51 d):∃(v:AV) (bs:List UInt8),absC Tryz.prog 3 51 d= [v]∧(∀st,BS st v bs)∧bs.length≤Rows.uptoBulk d:=by
  obtain ⟨ns,hn,_,hc⟩:=shp_nums u51 u5 c5 h
  have hl:ns.length≤Rows.uptoBulk d:=by
    rcases hc with ⟨rfl,_⟩|⟨l,sp,rfl,h1,_⟩
    · simp
    · have:=(bulk_slice l sp).1;omega
  have e:bytesAV (ns.map fun n=>UInt8.ofNat n.toNat)=ns.map fun n=> .val (.int .u8 n):=by
    unfold bytesAV
    rw [List.map_map]
    exact List.map_congr_left fun n hm=>by
      have:=wf8 (hn n hm)
      show AV.val (.int .u8 ((UInt8.ofNat n.toNat).toNat:Int))=_
      rw [UInt8.toNat_ofNat',Nat.mod_eq_of_lt (by omega),Int.toNat_of_nonneg (by omega)]
  rcases hc with ⟨h0,_,ha⟩|⟨l,sp,_,_,ha⟩
  · exact ⟨_,ns.map fun n=>UInt8.ofNat n.toNat,ha,fun st=> .inl ⟨rfl,by rw [h0];rfl⟩,by rw [List.length_map];exact hl⟩
  · exact ⟨_,ns.map fun n=>UInt8.ofNat n.toNat,ha,fun st=> .inr (.inl ⟨false,by rw [e,List.length_map]⟩),by rw [List.length_map];exact hl⟩
theorem picks_of{d:DataW H}(h:Shp Tryz.prog 3 52 d):∃(v:AV) (ps:List Nat),absC Tryz.prog 3 52 d= [v]∧(∀st,NS st v ps)∧ps.length≤Rows.uptoBulk d∧∀x∈ps,x<65536:=by
  obtain ⟨ns,hn,_,hc⟩:=shp_nums u52 u66 c66 h
  have hl:ns.length≤Rows.uptoBulk d:=by
    rcases hc with ⟨rfl,_⟩|⟨l,sp,rfl,h1,_⟩
    · simp
    · have:=(bulk_slice l sp).1;omega
  have hlt:∀x∈ns.map Int.toNat,x<65536:=fun x hx=>by
    obtain ⟨n,hm,rfl⟩:=List.mem_map.1 hx
    have:=wf16 (hn n hm)
    omega
  have e:((ns.map Int.toNat).map fun x:Nat=>u16 x)=ns.map fun n=> .val (.int .u16 n):=by
    rw [List.map_map]
    exact List.map_congr_left fun n hm=>by
      have:=wf16 (hn n hm)
      show AV.val (.int .u16 ((n.toNat:Nat):Int))=_
      rw [Int.toNat_of_nonneg (by omega)]
  rcases hc with ⟨h0,_,ha⟩|⟨l,sp,_,_,ha⟩
  · exact ⟨_,ns.map Int.toNat,ha,fun st=> .inl ⟨rfl,by rw [h0];rfl⟩,by rw [List.length_map];exact hl,hlt⟩
  · exact ⟨_,ns.map Int.toNat,ha,fun st=> .inr (.inl ⟨false,by rw [e,List.length_map]⟩),by rw [List.length_map];exact hl,hlt⟩
theorem sum3{a b c d e:DataW H}:Rows.uptoBulk d+Rows.uptoBulk e≤Rows.uptoBulkAll [a,b,c,d,e]:=by
  simp only [Rows.uptoBulkAll];omega
theorem event_of{d:DataW H}(h:Shp Tryz.prog 4 54 d):∃(cs:List AV) (e:EvR),absC Tryz.prog 4 54 d=cs∧(∀st,EvV st cs e)∧EvGood e∧e.bad=false∧evSz e≤Rows.uptoBulk d+1:=by
  obtain ⟨fs,hu,hf⟩:=u54
  obtain ⟨ds,rfl,hs⟩:=shp_struct hu h
  have hbd:=bulk_agg ds
  obtain ⟨f0,f1,f2,f3,f4,hfs⟩:∃f0 f1 f2 f3 f4,fs.toList= [f0,f1,f2,f3,f4]:=by
    match hl:fs.toList with
    | []=>rw [hl] at hf;simp at hf
    | [_]=>rw [hl] at hf;simp at hf
    | [_,_]=>rw [hl] at hf;simp at hf
    | [_,_,_]=>rw [hl] at hf;simp at hf
    | [_,_,_,_]=>rw [hl] at hf;simp at hf
    | [a,b,c,d,e]=>exact ⟨_,_,_,_,_,rfl⟩
    |_::_::_::_::_::_::_=>rw [hl] at hf;simp at hf
  rw [hfs] at hf hs
  simp only [List.map_cons,List.map_nil,List.cons.injEq,and_true] at hf
  obtain ⟨t0,t1,t2,t3,t4⟩:=hf
  match ds,hs with
  | [d0,d1,d2,d3,d4],hs=>
  obtain ⟨s0,s1,s2,s3,s4,_⟩:=hs
  rw [t0] at s0;rw [t1] at s1;rw [t2] at s2;rw [t3] at s3;rw [t4] at s4
  obtain ⟨k,rfl,w0⟩:=shp_int u3 s0
  obtain ⟨c,rfl,w1⟩:=shp_int u3 s1
  obtain ⟨n,rfl,w2⟩:=shp_int u3 s2
  obtain ⟨bv,bs,vb,BB,bl⟩:=bytes_of s3
  obtain ⟨pv,ps,vp,PP,pl,plt⟩:=picks_of s4
  have h3:=sum3 (a:=DataW.lit (H:=H) (.int .i64 k)) (b:= .lit (.int .i64 c)) (c:= .lit (.int .i64 n)) (d:=d3) (e:=d4)
  have ea:absC Tryz.prog 4 54 (.agg [.lit (.int .i64 k),.lit (.int .i64 c),.lit (.int .i64 n),d3,d4])= [i64 k,i64 c,i64 n,bv,pv]:=by
    have e1:absC Tryz.prog 4 54 (.agg [.lit (.int .i64 k),.lit (.int .i64 c),.lit (.int .i64 n),d3,d4])=absF (absC Tryz.prog 3) fs.toList [.lit (.int .i64 k),.lit (.int .i64 c),.lit (.int .i64 n),d3,d4]:=by
      simp only [absC,hu]
    rw [e1,hfs]
    simp only [absF,t0,t1,t2,t3,t4,vb,vp]
    simp only [absC,u3]
    rfl
  exact ⟨_,⟨k,c,n,bs,ps,false⟩,ea,fun st=>⟨bv,pv,rfl,BB st,PP st⟩,⟨wf64 w1,wf64 w2,plt⟩,rfl,by show bs.length+ps.length+1≤_;omega⟩
theorem bulk5{a b c d e f:DataW H}:Rows.uptoBulk e≤Rows.uptoBulkAll [a,b,c,d,e,f]:=by
  simp only [Rows.uptoBulkAll];omega
theorem row_of{d:DataW H}(h:Shp Tryz.prog 4 70 d):∃(cs:List AV) (e:RwR),absC Tryz.prog 4 70 d=cs∧(∀st,RwV st cs e)∧RwGood e∧e.bad=false∧rwSz e≤Rows.uptoBulk d+1:=by
  obtain ⟨fs,hu,hf⟩:=u70
  obtain ⟨ds,rfl,hs⟩:=shp_struct hu h
  have hbd:=bulk_agg ds
  obtain ⟨f0,f1,f2,f3,f4,f5,hfs⟩:∃f0 f1 f2 f3 f4 f5,fs.toList= [f0,f1,f2,f3,f4,f5]:=by
    match hl:fs.toList with
    | []=>rw [hl] at hf;simp at hf
    | [_]=>rw [hl] at hf;simp at hf
    | [_,_]=>rw [hl] at hf;simp at hf
    | [_,_,_]=>rw [hl] at hf;simp at hf
    | [_,_,_,_]=>rw [hl] at hf;simp at hf
    | [_,_,_,_,_]=>rw [hl] at hf;simp at hf
    | [a,b,c,d,e,f]=>exact ⟨_,_,_,_,_,_,rfl⟩
    |_::_::_::_::_::_::_::_=>rw [hl] at hf;simp at hf
  rw [hfs] at hf hs
  simp only [List.map_cons,List.map_nil,List.cons.injEq,and_true] at hf
  obtain ⟨t0,t1,t2,t3,t4,t5⟩:=hf
  match ds,hs with
  | [d0,d1,d2,d3,d4,d5],hs=>
  obtain ⟨s0,s1,s2,s3,s4,s5,_⟩:=hs
  rw [t0] at s0;rw [t1] at s1;rw [t2] at s2;rw [t3] at s3;rw [t4] at s4;rw [t5] at s5
  obtain ⟨k,rfl,w0⟩:=shp_int u3 s0
  obtain ⟨e,rfl,w1⟩:=shp_int u23 s1
  obtain ⟨c,rfl,w2⟩:=shp_int u3 s2
  obtain ⟨n,rfl,w3⟩:=shp_int u3 s3
  obtain ⟨bv,bs,vb,BB,bl⟩:=bytes_of s4
  obtain ⟨en,rfl⟩:=shp_bool u4 s5
  have h3:=bulk5 (a:=DataW.lit (H:=H) (.int .i64 k)) (b:= .lit (.int .i64 e)) (c:= .lit (.int .i64 c)) (d:= .lit (.int .i64 n)) (e:=d4) (f:= .lit (.bool en))
  have ea:absC Tryz.prog 4 70 (.agg [.lit (.int .i64 k),.lit (.int .i64 e),.lit (.int .i64 c),.lit (.int .i64 n),d4,.lit (.bool en)])= [i64 k,i64 e,i64 c,i64 n,bv,bo en]:=by
    have e1:absC Tryz.prog 4 70 (.agg [.lit (.int .i64 k),.lit (.int .i64 e),.lit (.int .i64 c),.lit (.int .i64 n),d4,.lit (.bool en)])=absF (absC Tryz.prog 3) fs.toList [.lit (.int .i64 k),.lit (.int .i64 e),.lit (.int .i64 c),.lit (.int .i64 n),d4,.lit (.bool en)]:=by
      simp only [absC,hu]
    rw [e1,hfs]
    simp only [absF,t0,t1,t2,t3,t4,t5,vb]
    simp only [absC,u3,u23,u4]
    rfl
  exact ⟨_,⟨k,e,c,n,bs,en,false⟩,ea,fun st=>⟨bv,rfl,BB st⟩,⟨wf64 w1,wf64 w2,wf64 w3⟩,rfl,by show bs.length+1≤_;omega⟩
/-- a list of structs, as the call finds it -/
theorem list_of{α:Type}{t el sz:Nat}(V:St→List AV→α→Prop)(G:α→Prop)(S:α→Nat)(hu:Tryz.prog.underlying t=some (.slice el))(hc:Tryz.prog.cellsOf el=sz)(hlen:∀st cs e,V st cs e→cs.length=sz)
    (hone:∀y:DataW H,Shp Tryz.prog 4 el y→∃(cs:List AV) (e:α),absC Tryz.prog 4 el y=cs∧(∀st,V st cs e)∧G e∧S e≤Rows.uptoBulk y+1) {d:DataW H} (h:Shp Tryz.prog 5 t d):
    ∃(L:AV) (css:List (List AV)) (es:List α),absC Tryz.prog 5 t d= [L]∧(∀st,IL st el sz L css)∧(∀st,AllV V st css es)∧(∀e∈es,G e)∧(es.map S).sum≤2*Rows.uptoBulk d:=by
  rcases shp_slice hu h with rfl|⟨l,sp,rfl,hl,hs⟩
  · exact ⟨.nils,[],[],by simp only [absC,hu],fun st=>⟨fun c hc=>(by cases hc),.inl ⟨rfl,rfl⟩⟩,fun st=>⟨rfl,fun i c e h _=>(by simp at h)⟩,fun e he=>(by cases he),by simp⟩
  · have gen:∀l:List (DataW H),(∀y∈l,Shp Tryz.prog 4 el y)→∃(css:List (List AV)) (es:List α),(∀c∈css,c.length=sz)∧css.length=l.length∧(∀st,AllV V st css es)∧(∀e∈es,G e)∧(es.map S).sum≤2*Rows.uptoBulkAll l∧l.flatMap (absC Tryz.prog 4 el)=css.flatten:=fun l=>by
      induction l with
      |nil=>exact fun _=>⟨[],[],(fun c hc=>by cases hc),rfl,fun st=>⟨rfl,fun i c e h _=>by simp at h⟩,(fun e he=>by cases he),by simp,rfl⟩
      |cons y r ih=>
        intro hs
        obtain ⟨css,es,h1,h2,h3,h4,h5,h6⟩:=ih fun z hz=>hs z (by simp [hz])
        obtain ⟨cs,e,k1,k2,k3,k4⟩:=hone y (hs y (by simp))
        have hy:=one_le y
        refine ⟨cs::css,e::es,fun c hc=> ?_,by simp [h2],fun st=>⟨by simp [(h3 st).1],fun i c e' hc he=> ?_⟩,fun e' he=> ?_,?_,by rw [List.flatMap_cons,List.flatten_cons,h6,k1]⟩
        · rcases List.mem_cons.1 hc with rfl|hc
          · exact hlen _ _ _ (k2 ⟨0,.nil,[],[]⟩)
          · exact h1 c hc
        · cases i with
          |zero=>
            simp only [List.getElem?_cons_zero,Option.some.injEq] at hc he
            subst hc;subst he
            exact k2 st
          |succ i=>
            simp only [List.getElem?_cons_succ] at hc he
            exact (h3 st).2 i c e' hc he
        · rcases List.mem_cons.1 he with rfl|he
          · exact k3
          · exact h4 e' he
        · simp only [List.map_cons,List.sum_cons,Rows.uptoBulkAll];omega
    obtain ⟨css,es,h1,h2,h3,h4,h5,h6⟩:=gen l hs
    refine ⟨.imm sz css.length false css.flatten,css,es,?_,fun st=>⟨h1,.inr (.inl ⟨false,rfl⟩)⟩,h3,h4,?_⟩
    · rw [←h6,h2]
      simp only [absC,hu,hc]
    · have:=(bulk_slice l sp).2;omega
end
theorem contract(F:Stop.Interp)(H:Type)(enc:TypeId×Value→H)(W:World)(base:Nat)(args:Array Value)(ds gs:List (DataW H))(before:List MemPlace)
    (hval:∀(j:Nat) t v,Tryz.f5.params[j]? =some t→args[j]? =some v→Value.okWide Tryz.prog W .any base t v)
    (hW:DataW.Whole enc Tryz.prog Tryz.f5.params.toList Rows.shellBackSpec.vars false W args.toList ds gs before) (hk:Rows.uptoSmall H (ds++gs)=true) (hL:laidMetH Tryz.prog Rows.shellBackUptoRow.laid W):
    Calls Tryz.prog 5 args W fun e W'=>∃v,e= .returned v∧((Rows.OpenSpec.upto Rows.shellBackSpec).at F).post enc Tryz.prog Tryz.f5 false true false false W args v W':=by
  have hW':=hW
  obtain ⟨p,q,hA0,hV,rfl,_,_⟩:=hW
  have hA:DataW.TrodAll enc Tryz.prog W 0 (fun _=>true) true Tryz.f5.params.toList args.toList ds p:=hA0
  rw [Tryz.params5] at hA hval
  obtain ⟨v0,v1,v2,d0,d1,d2,p0,p1,p2,rfl,rfl,rfl,h0,h1,h2⟩:=trodAll_three hA
  obtain ⟨rfl,rfl⟩:=trodVars_none hV
  simp only [List.append_nil] at hW' hk
  have hlt:∀x∈p0++p1++p2,x.block<W.heap.size:=fun x hx=>by simpa using hW'.lt x hx
  obtain ⟨a1,n1,cap1,rfl⟩:=okWide_slice u22 (hval 0 22 v0 rfl rfl)
  obtain ⟨a2,n2,cap2,rfl⟩:=okWide_slice u37 (hval 1 37 v1 rfl rfl)
  have hbulk:Rows.uptoBulkAll [d0,d1,d2]≤1048576:=of_decide_eq_true hk
  have bk0:Rows.uptoBulk d0≤1048576:=Nat.le_trans (part_le (by simp)) hbulk
  have bk1:Rows.uptoBulk d1≤1048576:=Nat.le_trans (part_le (by simp)) hbulk
  obtain ⟨f0,e0⟩:=id h0
  obtain ⟨f1,e1⟩:=id h1
  obtain ⟨f2,e2⟩:=id h2
  obtain ⟨L0,cs0,es,b0,B0,V0,G0,S0⟩:=list_of EvV (fun e=>EvGood e∧e.bad=false) evSz u22 c54 (fun st cs e h=>h.len) (fun y hy=>by
    obtain ⟨cs,e,k1,k2,k3,k4,k5⟩:=event_of hy
    exact ⟨cs,e,k1,k2,⟨k3,k4⟩,k5⟩) (shp_of 5 22 shp22 f0 _ _ e0)
  have S0:(es.map evSz).sum≤2*Rows.uptoBulk d0:=S0
  obtain ⟨L1,cs1,rs,b1,B1,V1,G1,S1⟩:=list_of RwV (fun e=>RwGood e∧e.bad=false) rwSz u37 c70 (fun st cs e h=>h.len) (fun y hy=>by
    obtain ⟨cs,e,k1,k2,k3,k4,k5⟩:=row_of hy
    exact ⟨cs,e,k1,k2,⟨k3,k4⟩,k5⟩) (shp_of 5 37 shp37 f1 _ _ e1)
  have S1:(rs.map rwSz).sum≤2*Rows.uptoBulk d1:=S1
  have l0:=lift 5 22 good22 f0 _ _ (by rw [c22];rfl) e0
  have l1:=lift 5 37 good37 f1 _ _ (by rw [c37];rfl) e1
  rw [b0] at l0
  rw [b1] at l1
  obtain ⟨s,rfl⟩:=okWide_string u9 (hval 2 9 v2 rfl rfl)
  obtain ⟨s',hc2,hx2,hs2⟩:=DataW.trod_string u9 e2
  have hss2:s'=s:=by
    have hc3: [Value.string s]= [Value.string s']:=hc2
    simpa using hc3.symm
  subst hss2
  simp only [Prod.mk.injEq] at hx2
  obtain ⟨rfl,rfl⟩:=hx2
  have hsl2:s'.data.toList.length≤1048576:=by
    have:Rows.uptoBulk (DataW.lit (H:=H) (.string s'.data.toList))≤1048576:=Nat.le_trans (part_le (by simp)) hbulk
    simp only [Rows.uptoBulk] at this
    omega
  have hargs:VRs (gW W) [L0,L1,sb s'.data.toList] [.slice a1 n1 cap1,.slice a2 n2 cap2,.string s']:= .cons l0.1.head (.cons l1.1.head (.cons (.val _ rfl) (.nil _)))
  obtain ⟨tab,⟨t2,w2,T2,fr2,err2⟩,t3,w3,T3,fr3,err3⟩:=tabs hL
  obtain ⟨stZ,run,_⟩:=back_ok (s:=s'.data.toList) (stE_wf t2 t3) rfl (stE_tabs t2 t3) (stE_err t2 t3) (B0 _) (V0 _) (fun e he=>(G0 e he).1) (fun e he=>(G0 e he).2) (by omega) (B1 _) (V1 _) (fun e he=>(G1 e he).1) (fun e he=>(G1 e he).2) (by omega) (Nat.le_trans hsl2 (by decide))
  have run':Calls Tryz.prog 5 #[.slice a1 n1 cap1,.slice a2 n2 cap2,.string s'] W fun e w'=>e= .returned (.bool true)∧Below W.heap.size W w':=
    (run (gW W) W _ (okWE tabs_ne tab err2 err3) hargs).mono fun e w' ⟨g',st',a,v,h1,h2,h3,h4⟩=>by
      obtain ⟨h4,_⟩:=h4
      subst h4
      rw [h3.val_inv] at h1
      exact ⟨h1,h2.os,h2.tape,h2.output,h2.size,fun b hb=>h2.frame b hb fun id o ho=>by
        have:=(St.wget_get ho).1
        simp [stE,St.get,Tr.get] at this⟩
  refine run'.mono fun e W' ⟨he,hb⟩=> ?_
  have k0:=Below.trod laidOut (by kernel_rfl) (of_decide_eq_true (by kernel_rfl)) h0 hb fun x hx=>hlt x (List.mem_append_left _ (List.mem_append_left _ hx))
  have k1:=Below.trod laidOut (by kernel_rfl) (of_decide_eq_true (by kernel_rfl)) h1 hb fun x hx=>hlt x (List.mem_append_left _ (List.mem_append_right _ hx))
  have k2:=Below.trod laidOut (by kernel_rfl) (of_decide_eq_true (by kernel_rfl)) h2 hb fun x hx=>hlt x (List.mem_append_right _ hx)
  exact ⟨_,he,⟨_,_,_,[],_,[],hW',trodAll_mk1 (shut_bool Tryz.underlying4 _),trodAll_mk3 k0 k1 k2,rfl,hb.frame _,fun h=>by cases h⟩⟩

noncomputable def laidWorld(os:Os):World:=World.laidAll Tryz.prog os Rows.shellBackUptoRow.laid
def wargs:Array Value:= #[.slice none 0 0,.slice none 0 0,.string ⟨#[]⟩]
theorem laid_met(os:Os):laidMet Tryz.prog Rows.shellBackUptoRow.laid ((laidWorld os).forCall (fun _ _=>0) ⟨#[],wargs,[]⟩).memory:=
  laidMet_laidAll wargs (by kernel_rfl) (by kernel_rfl)
theorem reads(os:Os){H:Type}(enc:TypeId×Value→H):∃places,DataW.whole enc Tryz.prog ((laidWorld os).forCall (fun _ _=>0) ⟨#[],wargs,[]⟩).memory Tryz.f5.params.toList Rows.shellBackSpec.vars false wargs.toList 8=some ([.nil,.nil,.lit (.string [])],[],places):=
  ⟨[],by kernel_rfl⟩

set_option maxRecDepth 100000 in
theorem lifted(os:Os)(started:os.Started)(H:Type)(enc:TypeId×Value→H)(F:Stop.Interp):
    ReturnsInHanded {} Tryz.checked os 5 .any ((Rows.OpenSpec.upto Rows.shellBackSpec).preRow enc Tryz.prog Tryz.f5 Rows.shellBackUptoRow.domain false Rows.shellBackUptoRow.laid) (((Rows.OpenSpec.upto Rows.shellBackSpec).at F).post enc Tryz.prog Tryz.f5 false true false false):=by
  obtain ⟨places,hx⟩:=reads os enc
  refine returnsInHanded_of_row (C:=Tryz.checked) (s:=Rows.OpenSpec.upto Rows.shellBackSpec) own started (by kernel_rfl) Tryz.func5
    (witness_row_at (enc:=enc) (C:=Tryz.checked) false (laidWorld os) wargs rfl (by kernel_rfl) (by kernel_rfl) (by kernel_rfl)
      (OpenSpec.preRow_of_cond 8 hx (by kernel_rfl) (fun k hk=>by cases hk;kernel_rfl) (by kernel_rfl) (laid_met os))) ?_
  intro W base args ds gs before hval hW _ hk _ hL _ _
  exact contract F H enc W base args ds gs before hval hW (hk _ rfl) hL

theorem said:Rows.ShellBackUptoSaid:=
  OpenClaim.holds_of_cond 5 Tryz.f5 rfl rfl rfl rfl rfl rfl rfl ⟨rfl,rfl,rfl,rfl,rfl⟩ rfl rfl rfl rfl rfl (by kernel_rfl) Tryz.func5 (by kernel_rfl)
    (of_decide_eq_true (by kernel_rfl)) (by unfold Func.isWrapper;first|(rw [if_pos (by decide+kernel)];kernel_rfl)|(rw [if_neg (by decide+kernel)];exact ⟨rfl,rfl⟩))
    (fun os started H enc _ F=>by rw [OpenClaim.pre_eq_preRow];exact lifted os started H enc F)

theorem w22:Tryz.pinned.checked.prog.wantsStandIn 22=false:=by kernel_rfl
theorem w37:Tryz.pinned.checked.prog.wantsStandIn 37=false:=by kernel_rfl
theorem w9:Tryz.pinned.checked.prog.wantsStandIn 9=false:=by kernel_rfl
theorem plain(f:FuncId)(fn:Func)(hf:Tryz.pinned.checked.prog.funcNamed "escritoire/escritoirelaw31.ShellBack" =some f)(hfn:Tryz.pinned.checked.prog.funcs[f]? =some fn):
    true=Tryz.pinned.checked.prog.looks []∧∀(j:Nat) t,fn.params[j]? =some t→Tryz.pinned.checked.prog.wantsStandIn t=false:=by
  obtain rfl:f=5:=Option.some.inj ((show Tryz.prog.funcNamed "escritoire/escritoirelaw31.ShellBack" =some 5 by kernel_rfl).symm.trans hf)|>.symm
  obtain rfl:fn=Tryz.f5:=(Option.some.inj (Tryz.func5.symm.trans hfn)).symm
  refine ⟨by kernel_rfl,fun j t ht=> ?_⟩
  rw [Tryz.params5] at ht
  match j,ht with
  |0,ht=>cases ht;exact w22
  |1,ht=>cases ht;exact w37
  |2,ht=>cases ht;exact w9
  |j+3,ht=>simp at ht
theorem card:Rows.ShellBackUptoCardSaid:=
  Claim7.holds_tied_plain_at .later [] _ _ _ _ said (fun _ h=>by cases h) (by kernel_rfl) (fun _ h=>by cases h) shellBackUpto_row_tie rfl ⟨rfl,rfl⟩ (by kernel_rfl) rfl plain (by kernel_rfl)
end Go.Proofs.YtnknfheabnogaaaGreatDoor.ShellBack
