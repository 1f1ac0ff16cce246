/- Part 12d of the proof. -/
import Derived.Test.YtdhekhlmdefcnaaGreatDoorPart12b
import Derived.Test.YtdhekhlmdefcnaaGreatDoorPart12c
set_option maxHeartbeats 16000000
set_option maxRecDepth 1000000
namespace Go.Proofs.YtdhekhlmdefcnaaGreatDoor
open Go.ChangeAt Go.ChangeShapes Go.Deep Go.Proofs.Tryz Go.RowKit Go.WideShapes
theorem own:ownKnob prog.godebug=none:=kR
theorem laidOut:laidOutB prog=true:=kR
section
variable {H:Type}{enc:aw×ae->H}{w:aa}
end
theorem Up:prog.globalNamed "math/bits.deBruijn64tab" =some 8:=kR
theorem Xl:(prog.globals[8]?).map (·.type)=some 269:=kR
theorem aa0:prog.globalNamed "internal/strconv.uint64pow10" =some 6:=kR
theorem aa1:(prog.globals[6]?).map (·.type)=some 240:=kR
theorem Xm:prog.globalNamed "strconv.ErrSyntax" =some 4:=kR
theorem Xn:(prog.globals[4]?).map (·.type)=some 25:=kR
theorem Xo:prog.globalNamed "strconv.ErrRange" =some 5:=kR
theorem Xp:(prog.globals[5]?).map (·.type)=some 25:=kR
theorem Kp:(Rows.laid_math_bits_deBruijn64tab:DataW Unit)=Lib.tabData .u8 (yw.map λ(x:Nat)=>(x:Int)):=kR
theorem Uq:(Rows.laid_internal_strconv_uint64pow10:DataW Unit)=Lib.tabData .u64 Lib.pow10Tab:=kR
theorem etG:prog.globalNamed "errors.errorType" =some 0:=kR
theorem etR:(prog.cutTypes.find? (·.1== "internal/reflectlite.rtype")).map (·.2)=some 135:=kR
theorem Zy:((List.range prog.types.size).filter λt=>prog.rowNamed t [101,114,114,111,114])=[25]:=kR
theorem xA{W:aa}(h':handlesMet prog [("errors.errorType",Rows.laid_errors_errorType)] W):jb W:=by obtain⟨name,u,ty,e1,e2,e3,e4,e5⟩:=h' ("errors.errorType",Rows.laid_errors_errorType) (bW.2 rfl);have en:name=[101,114,114,111,114]:=(bJ e1).symm;subst en;obtain rfl:=bJ (etR.symm.trans e2);have hm:ty∈(List.range prog.types.size).filter λt=>prog.rowNamed t [101,114,114,111,114]:=List.mem_filter.2 ⟨bX.2 e3,e4⟩;rw[Zy]at hm;obtain rfl:=bW.1 hm;have hh:typeHandle prog 25=pT 9 25:=kR;rw[hh]at e5;have:=World.var?_cell etG e5 0;simp at this;exact this
theorem EJ{W:aa}{n nm:String}{d:DataW Unit}{r:List (String×DataW Unit)}{g:Nat}(hg:prog.globalNamed n=some g)(ht:(prog.globals[g]?).map (·.type)=some 25)
 (h:laidMet prog ((n,.iface nm d)::r) W):∃ev,W.cell? ⟨g,0,none⟩=some ev/\(ev=.nilIface\/∃te pe,ev=.iface te pe):=by
 obtain⟨ps,⟨g0,t0,cs0,f0,p0,q0,hg0,ht0,hv0,hd0,_,e0⟩,_,hrows⟩:=h;obtain rfl:=bJ (hg.symm.trans hg0);obtain rfl:=bJ (ht.symm.trans ht0);obtain⟨l0⟩:=cs0;obtain⟨f1,u,v,hl,_,_⟩:=iface_of_trod underlying25 hd0;have hl':l0=[.iface u v]:=hl;subst hl';exact⟨.iface u v,zcM,.inr ⟨u,v,rfl⟩⟩
abbrev mb:List (String×DataW Unit):=[("math/bits.deBruijn32tab",Rows.laid_math_bits_deBruijn32tab),("math/bits.deBruijn64tab",Rows.laid_math_bits_deBruijn64tab),("internal/strconv.uint64pow10",Rows.laid_internal_strconv_uint64pow10),("unicode/utf8.acceptRanges",Rows.laid_unicode_utf8_acceptRanges),("errors.errorType",Rows.laid_errors_errorType),("strconv.ErrRange",Rows.laid_strconv_ErrRange),("strconv.ErrSyntax",Rows.laid_strconv_ErrSyntax),("unicode/utf8.first",Rows.laid_unicode_utf8_first)]
abbrev gP:List (String×DataW Unit):=[("math/bits.deBruijn32tab",Rows.laid_math_bits_deBruijn32tab),("math/bits.deBruijn64tab",Rows.laid_math_bits_deBruijn64tab),("internal/strconv.uint64pow10",Rows.laid_internal_strconv_uint64pow10),("unicode/utf8.acceptRanges",Rows.laid_unicode_utf8_acceptRanges),("strconv.ErrRange",Rows.laid_strconv_ErrRange),("strconv.ErrSyntax",Rows.laid_strconv_ErrSyntax),("unicode/utf8.first",Rows.laid_unicode_utf8_first)]
theorem oV:(mb.filter λx=>x.2.handleName?.isNone)=gP:=kR
theorem vB:(mb.filter λx=>x.2.handleName?.isSome)=[("errors.errorType",Rows.laid_errors_errorType)]:=kR
theorem GM{W:aa}(h:laidMetH prog mb W):Std W:=by
 unfold laidMetH at h;rw[vB,oV]at h;have h':laidMet prog gP W/\handlesMet prog [("errors.errorType",Rows.laid_errors_errorType)] W:=h;obtain⟨h1,h2⟩:=h';clear h;have t1:=laidMet.tail h1;have t2:=laidMet.tail t1;have t3:=laidMet.tail (laidMet.tail t2);have t4:=laidMet.tail t3;rw[Kp]at t1;rw[Uq]at t2;have k1:=Lib.tabIs_of_head Up Xl underlying269 underlying5 kR kR t1;have k2:=Lib.tabIs_of_head aa0 aa1 underlying240 underlying40 kR kR t2;have ht:TabIs W:=λj v hv=>by have hj:=(aX.1 hv).1;have:=k1.cell Up j (by simpa using hj);rw[this];congr 1;simp[hv]
 have hs:=World.block_lt_of_cell? W ⟨8,0,none⟩ (ht 0 0 rfl);exact⟨k2,xA h2,EJ Xm Xn t4,EJ Xo Xp t3,ht,hs⟩
noncomputable def Cz(os:Os):aa:=(World.doorLaid prog 400 os).layVars prog gP
theorem Qe(os:Os):(Cz os).os=os:=(World.layVars_os _ _ _).trans rfl
theorem Qf(os:Os)(args:bw):laidMetH prog mb ((Cz os).forCall (λ_ _=>0) ⟨#[],args,[]⟩).memory:=by
 refine laidMetH_of_parts3 (fuel:=8) ?_ kR kR;rw[oV];have e1:(gP.filter λx=>(gP.map (·.1)).contains x.1)=gP:=List.filter_eq_self.2 λx hx=>List.contains_iff_mem.2 (List.mem_map.2 ⟨x,hx,rfl⟩);have e2:(gP.filter λx=>!(gP.map (·.1)).contains x.1)=[]:=List.filter_eq_nil_iff.2 λx hx=>by rw[List.contains_iff_mem.2 (List.mem_map.2 ⟨x,hx,rfl⟩)];simp
 have h:laidMet prog gP (Cz os):=laidMet_layVars (w0:=World.doorLaid prog 400 os) (gP.map (·.1)) [] (by rw[e1];rfl) (by rw[e1];kernel_rfl) (by rw[e1];kernel_rfl) (by rw[e2];exact LaidIn.none);exact h.of_heap (by simp[World.memory,World.forCall,Input.heap])
theorem Kq(os:Os)(args:bw):((Cz os).forCall (λ_ _=>0) ⟨#[],args,[]⟩).Shaped prog:=World.shaped_of_ZipB kR kR
def sI(W:aa)(g:Nat):Prop:=∃tp a s c e,W.cell? ⟨g,0,none⟩=some (.iface tp (.pointer (some a)))/\W.cell? a=some (.string s)/\W.heap[a.block]?=some (.cells c e (0,0))
theorem Zz(u:aw)(h:prog.typeName? 3 u=some "*errors.errorString"):u=261:=
 typeName_ptr_named (P:=prog) (nm:= "errors.errorString") kR kR dC u h
theorem WA:∃f:Field,prog.underlying 263=some (.struct #[f])/\f.type=9/\f.offset=0:=⟨_,underlying263,rfl,rfl⟩
theorem NS{W:aa}{n:String}{text:List UInt8}{r:List (String×DataW Unit)}{g:Nat}(hg:prog.globalNamed n=some g)(ht:(prog.globals[g]?).map (·.type)=some 25)
 (h:laidMet prog ((n,.iface "*errors.errorString" (.ptr (.agg [.lit (.string text)])))::r) W):sI W g:=by
 obtain⟨ps,⟨g0,t0,cs0,f0,p0,q0,hg0,ht0,hv0,hd0,_,rfl⟩,_,hrows⟩:=h;obtain rfl:=bJ (hg.symm.trans hg0);obtain rfl:=bJ (ht.symm.trans ht0);obtain⟨l0⟩:=cs0;obtain⟨_,u,v,hl,_,_⟩:=iface_of_trod underlying25 hd0;have hl':l0=[.iface u v]:=hl;subst hl';have hc:W.cell? ⟨g,0,none⟩=some (.iface u v):=zcM;have hin:MemPlace.cell g 0∈MemPlace.row ⟨g,0,none⟩ (#[Value.iface u v]:bw).size:=by simp[MemPlace.row]
 obtain⟨f,f1,f2,f3⟩:=WA;obtain⟨a,s,h1,h2,_,_,rfl⟩:=errorString_of_trod underlying25 Zz underlying261 f1 f2 f3 underlying9 kR kR hd0 λu' v' e=>by cases e;exact(hrows g 0 (by simp only[List.mem_append];exact .inl (.inl hin))).2 u v hc
 cases h1;obtain⟨⟨c,e,h3⟩,_⟩:=hrows a.block a.off (by simp[MemPlace.row]);exact⟨_,a,s,c,e,hc,h2,h3⟩
theorem Ds{W:aa}(h:laidMetH prog mb W):sI W 5/\sI W 4:=by unfold laidMetH at h;rw[vB,oV]at h;have h':laidMet prog gP W/\handlesMet prog [("errors.errorType",Rows.laid_errors_errorType)] W:=h;have t3:=laidMet.tail (laidMet.tail (laidMet.tail (laidMet.tail h'.1)));exact⟨NS Xo Xp t3,NS Xm Xn (laidMet.tail t3)⟩
theorem GN{W:aa}(h:laidMetH prog mb W):Lib.TabIs prog W "math/bits.deBruijn64tab" .u8 (yw.map λ(x:Nat)=>(x:Int)):=by unfold laidMetH at h;rw[vB,oV]at h;have h':laidMet prog gP W/\handlesMet prog [("errors.errorType",Rows.laid_errors_errorType)] W:=h;have t1:=laidMet.tail h'.1;rw[Kp]at t1;exact Lib.tabIs_of_head Up Xl underlying269 underlying5 kR kR t1
end Go.Proofs.YtdhekhlmdefcnaaGreatDoor
namespace Go.Mx
open Go Go.Conc Go.Conc.Lib Go.Pr Go.Proofs Go.Proofs.Tryz Go.Proofs.YtdhekhlmdefcnaaGreatDoor Go.RowKit
def EK(W:aa)(x:Nat):Nat:=match W.heap[x]? with
 |some (.cells c _ _)=>c.size
 |_=>0
def Dt(W:aa)(b1 b2:Nat)(hB:10<=W.heap.size):Rn where
 B:=W.heap.size
 K g:=(alw false).K g=true\/((g=b1\/g=b2)/\g<W.heap.size)
 dn x:=if(x=b1\/x=b2)/\x<W.heap.size then EK W x else 0
 dk:=λ{x} h=>by
  split at h
  ·exact .inr ‹_›
  ·cases h
 r _ _:=False
 kb:=λ{x} h=>by
  rcases h with h|h
  ·simp only[alw,cw,Nat.beq_eq]at h
   omega
  ·exact h.2
 ok f:=(alw false).ok f=true
 nm n:=(alw false).nm n=true
 cd f c:=∃fn body,(alw false).ok f=true/\prog.funcs[f]?=some fn/\fn.body=some body/\c∈rounds body
 sp f:=(alw false).sp f=true
 T g:=(alw false).T g=true
 tb:=λ{x} h=>by
  simp only[alw,cw,Nat.beq_eq]at h
  omega
 lo h:=h.elim
 fn h:=h.elim
 inj h:=h.elim
theorem aa2(W:aa)(b1 b2:Nat)(hB:10<=W.heap.size):Env prog (Dt W b1 b2 hB) FC:=by
 refine U1 (A:=alw false) ⟨λ_=>Iff.rfl,λ_=>Iff.rfl,λ_ h=>.inl h,λ_=>Iff.rfl,λ_=>Iff.rfl,λ_ _=>Iff.rfl⟩ Z4 (λf h=>?_) (λf hs fn c h1 h2=>?_) (Z5 _) WO Z7 ⟨.inl ?_,λg hg=>.inl ?_⟩ (xfT λf h=>?_);rw[U2];simp only[alw,aV]at h;exact Nd h.1
 ·have key:Oj f=true:=by obtain⟨s,hs⟩:=hs;have hs':FC f s=true:=hs;unfold FC at hs';split at hs'<;>first|exact Nc.1|exact Nc.2.1|exact Nc.2.2.1|exact Nc.2.2.2|cases hs'
  unfold Oj at key;rw[h1]at key;simp only[jc,h2]at key;exact List.isEmpty_iff.1 key
 ·rw[FE];rfl
 ·rw[Z8]at hg;cases hg;rfl
 ·have h':(alw false).ok f=true:=h;simp only[alw,aV]at h';exact h'.1
noncomputable def bz(g:Nat):Option (bw×aw):=((begin prog (λ_ _=>0) default).world.heap[g]?).bind Obj.row?
noncomputable def Ur(g t:Nat):Bool:=match bz g with
 |some (z,u)=>u==t&&z.size==1
 |none=>false
theorem Us:Ur 0 101=true/\Ur 4 25=true/\Ur 5 25=true:=⟨kR,kR,kR⟩
theorem bz3:bz 3=some (#[.int .i64 0],3):=kR
theorem bzT:((List.range 9).all λg=>(bz g).isSome)=true:=kR
noncomputable def EL:bw:=(Array.range prog.types.size).map λt=>.int .u64 (Int.ofNat t)
theorem bz9:(begin prog (λ_ _=>0) default).world.heap[9]?=some (.cells EL 0):=kR
theorem bzN:Nat.ble 10 (begin prog (λ_ _=>0) default).world.heap.size=true:=kR
noncomputable def sJ(g:Nat):Bool:=match bz g with
 |some (_,t)=>prog.buildable t&&match prog.cellTypes prog.depth t with
  |some ts=>ts.all λu=>match prog.underlying u with
   |some (.int _)=>true
   |_=>false
  |none=>false
 |none=>false
theorem ua:sJ 1=true/\sJ 2=true/\sJ 3=true/\sJ 6=true/\sJ 7=true/\sJ 8=true:=⟨kR,kR,kR,kR,kR,kR⟩
structure Laid(W:aa):Prop where
 zX:Std W
 db:Lib.TabIs prog W "math/bits.deBruijn64tab" .u8 (yw.map λ(x:Nat)=>(x:Int))
 r0:∃v,W.heap[0]?=some (.cells #[v] 101 (0,0))
 r4:∃v,W.heap[4]?=some (.cells #[v] 25 (0,0))
 r5:∃v,W.heap[5]?=some (.cells #[v] 25 (0,0))
 r3:∃n,W.heap[3]?=some (.cells #[.int .i64 n] 3 (0,0))
 r9:W.heap[9]?=some (.cells EL 0 (0,0))
 rT:∀g,g<9->∃c e,W.heap[g]?=some (.cells c e (0,0))
 e4:sI W 4
 e5:sI W 5
 ns:∀a s,W.cell? a=some (.string s)->10<=a.block
theorem Ut{W:aa}(h:W.ShapedOpen prog)(hl:laidMetH prog mb W):Laid W:=by
 have s1:=GM hl;obtain⟨e1,e2⟩:=Ds hl;have s2:Lib.TabIs prog W "math/bits.deBruijn64tab" .u8 (yw.map λ(x:Nat)=>(x:Int)):=GN hl;have hr:∀g,g<9->∀z t,bz g=some (z,t)->∃cs,W.heap[g]?=some (.cells cs t)/\cs.size=z.size/\(prog.buildable t=true->Row.ok prog W .any 0 t cs):=λg hg z t hz=>h.1 g z t (by rw[FE];exact hg) hz;have h9:W.heap[9]?=some (.cells EL 0 (0,0)):=by
  obtain⟨o,o0,k1,k2,k3⟩:=h.2 9 (by rw[FE];decide) (by have:=bzN;rw[Nat.ble_eq]at this;omega);rw[bz9]at k2;cases k2;rw[FE]at k3;have:o=.cells EL 0:=by simpa[World.looseAt]using k3
  rw[k1,this]
 have one:∀g t,g<9->Ur g t=true->∃v,W.heap[g]?=some (.cells #[v] t (0,0)):=λg t hg hb=>by
  unfold Ur at hb;cases hz:bz g with
  |none=>rw[hz]at hb;cases hb
  |some p=>
   obtain⟨z,u⟩:=p;rw[hz]at hb;simp only[aV,beq_iff_eq]at hb;obtain⟨rfl,hz1⟩:=hb;obtain⟨cs,k1,k2,_⟩:=hr g hg z u hz;rw[hz1]at k2;obtain⟨l⟩:=cs
   match l,k2 with
   |[v],_=>exact⟨v,k1⟩
 have yE:∀g,g<9->sJ g=true->∀a s,W.cell? a=some (.string s)->a.block≠g:=by
  rintro g hg hb a s hs rfl;unfold sJ at hb;cases hz:bz a.block with
  |none=>rw[hz]at hb;cases hb
  |some p=>obtain⟨z,t⟩:=p;rw[hz]at hb;simp only[aV]at hb;obtain⟨cs,k1,_,k3⟩:=hr _ hg z t hz;obtain⟨ts,hts,_,hall⟩:=k3 hb.1;have hb2:=hb.2;rw[hts]at hb2;(have hc:cs[a.off]?=some (.string s):=by unfold World.cell? at hs;rw[k1]at hs;dsimp only at hs;split at hs;cases hs;exact hs);obtain⟨u,hu,hok⟩:=hall _ _ hc;have hu2:=bj.1 hb2 u (aR hu);unfold Cell.ok at hok;split at hu2;rename_i h2;rw[h2]at hok;simp at hok;cases hu2
 obtain⟨v0,h0⟩:=one 0 101 dC Us.1;obtain⟨v4,h4⟩:=one 4 25 dC Us.2.1;obtain⟨v5,h5⟩:=one 5 25 dC Us.2.2;refine⟨s1,s2,⟨v0,h0⟩,⟨v4,h4⟩,⟨v5,h5⟩,?_,h9,λg hg=>?_,by first|exact e1|exact e2,by first|exact e2|exact e1,λa s hs=>?_⟩
 ·obtain⟨cs,k1,k2,k3⟩:=hr 3 dC _ _ bz3;obtain⟨v,rfl⟩:∃v,cs= #[v]:=by
   obtain⟨l⟩:=cs
   match l,k2 with
   |[v],_=>exact⟨v,rfl⟩
  obtain⟨ts,hts,_,hall⟩:=k3 kR;have hc:prog.cellTypes prog.depth 3=some [3]:=kR;rw[hc]at hts;cases hts;obtain⟨u,hu',hok⟩:=hall 0 v sM;have:u=3:=by simpa using hu'.symm
  subst this;unfold Cell.ok at hok;rw[underlying3]at hok;cases v<;>first|(simp at hok;done)|skip
  all_goals simp at hok
  obtain⟨rfl,_⟩:=hok;exact⟨_,k1⟩
 ·have hb:=bj.1 bzT g (bX.2 hg);obtain⟨⟨z,t⟩,hz⟩:=oW.1 hb;obtain⟨cs,k1,_⟩:=hr g hg z t hz;exact⟨cs,t,k1⟩
 ·have key:∀g v e,W.heap[g]?=some (.cells #[v] e (0,0))->(∃x:aw×ae,W.cell? ⟨g,0,none⟩=some (.iface x.1 x.2))->a.block≠g:=by
   rintro g v e h1 ⟨x,h2⟩ rfl;unfold World.cell? at hs h2;rw[h1]at hs h2;dsimp only at hs h2;split at hs;cases hs
   ·simp only[ba]at hs h2;cases ho:a.off with
    |zero=>rw[ho]at hs;simp at hs h2;rw[hs]at h2;cases h2
    |succ n=>rw[ho]at hs;simp at hs
  have n0:=key 0 v0 _ h0 ⟨(_,_),s1.et⟩;have n4:=key 4 v4 _ h4 (by
   obtain⟨tp,a,s,c,e,h,_⟩:=(by first|exact e1|exact e2:sI W 4);exact⟨(_,_),h⟩)
  have n5:=key 5 v5 _ h5 (by
   obtain⟨tp,a,s,c,e,h,_⟩:=(by first|exact e2|exact e1:sI W 5);exact⟨(_,_),h⟩)
  have n9:a.block≠9:=λh=>by unfold World.cell? at hs;rw[h,h9]at hs;dsimp only at hs;split at hs;cases hs;simp[EL]at hs
  have n1:=yE 1 dC ua.1 a s hs;have n2:=yE 2 dC ua.2.1 a s hs;have n3:=yE 3 dC ua.2.2.1 a s hs;have n6:=yE 6 dC ua.2.2.2.1 a s hs;have n7:=yE 7 dC ua.2.2.2.2.1 a s hs;have n8:=yE 8 dC ua.2.2.2.2.2 a s hs;omega
def fzO:Obj->Obj
 |.cells c e _=>.cells c e (0,c.size+1)
 |o=>o
def emO:Obj->Obj
 |.cells _ e _=>.cells #[] e (0,0)
 |o=>o
def deO:Obj->Obj
 |.cells c e _=>.pending c e
 |o=>o
def MZ(b1 b2 i:Nat)(o:Obj):Obj:=
 if i=0\/i=3\/i=4\/i=5\/i=9 then fzO o else if i=1\/i=2\/i=7 then emO o else if i=b1\/i=b2 then deO o else o
def lw(W:aa)(b1 b2:Nat):aa:={W with heap:=W.heap.mapIdx (MZ b1 b2)}
section
variable {W:aa}{b1 b2:Nat}
theorem GP(i:Nat):(lw W b1 b2).heap[i]?=W.heap[i]?.map (MZ b1 b2 i):=by simp[lw]
theorem xB{i:Nat}(h:i=6\/i=8)(h1:10<=b1)(h2:10<=b2):(lw W b1 b2).heap[i]?=W.heap[i]?:=by
 rw[GP];have:MZ b1 b2 i=id:=by funext o;unfold MZ;rw[if_neg oM,if_neg oM,if_neg oM];rfl
 rw[this];simp
theorem Uu{i:Nat}(h:i=0\/i=3\/i=4\/i=5\/i=9){c:bw}{e:aw}(hw:W.heap[i]?=some (.cells c e (0,0))):(lw W b1 b2).heap[i]?=some (.cells c e (0,c.size+1)):=by rw[GP,hw];simp[MZ,h,fzO]
theorem ZA{i:Nat}(h:i=1\/i=2\/i=7){c:bw}{e:aw}(hw:W.heap[i]?=some (.cells c e (0,0))):(lw W b1 b2).heap[i]?=some (.cells #[] e (0,0)):=by rw[GP,hw];simp only[cH,MZ];rw[if_neg oM,if_pos h];rfl
theorem ZB{i:Nat}(h:i=b1\/i=b2)(hi:10<=i){c:bw}{e:aw}(hw:W.heap[i]?=some (.cells c e (0,0))):(lw W b1 b2).heap[i]?=some (.pending c e):=by rw[GP,hw];simp only[cH,MZ];rw[if_neg oM,if_neg oM,if_pos h];rfl
theorem Kr:(lw W b1 b2).heap.size=W.heap.size:=by simp[lw]
theorem CB{i:Nat}(h:i=0\/i=3\/i=4\/i=5\/i=9){c:bw}{e:aw}(hw:W.heap[i]?=some (.cells c e (0,0)))(j:Nat):(lw W b1 b2).cell? ⟨i,j,none⟩=W.cell? ⟨i,j,none⟩:=by unfold World.cell?;rw[Uu h hw,hw]
theorem Uv:prog.globalNamed "internal/strconv.uint64pow10" =some 6:=kR
theorem aa3:prog.globalNamed "math/bits.deBruijn64tab" =some 8:=kR
theorem WB(h:Laid W)(h1:10<=b1)(h2:10<=b2)(T:Nat->Question->Nat):Std (on (lw W b1 b2) T):=by
 obtain⟨v,hv⟩:=h.r0;obtain⟨v4,hv4⟩:=h.r4;obtain⟨v5,hv5⟩:=h.r5;have hc:∀a,(on (lw W b1 b2) T).cell? a=(lw W b1 b2).cell? a:=λ_=>rfl;have k0:∀j,(lw W b1 b2).cell? ⟨0,j,none⟩=W.cell? ⟨0,j,none⟩:=CB sM hv;have k4:∀j,(lw W b1 b2).cell? ⟨4,j,none⟩=W.cell? ⟨4,j,none⟩:=CB sM hv4;have k5:∀j,(lw W b1 b2).cell? ⟨5,j,none⟩=W.cell? ⟨5,j,none⟩:=CB sM hv5;refine⟨?_,?_,?_,?_,λj x hx=>?_,?_⟩;have q:=h.zX.pow;unfold Lib.TabIs World.var? at q⊢;rw[Uv]at q⊢;simp only[jc]at q⊢;show(match(lw W b1 b2).heap[6]? with|some (.cells cs _ _)=>some cs|_=>none)=_;rw[xB (.inl rfl) h1 h2];exact q;have q:=h.zX.et;unfold jb at q⊢;rw[hc,k0];exact q
 ·obtain⟨ev,q1,q2⟩:=h.zX.Wa;exact⟨ev,by
   (rw[hc];first|rw[k4]|rw[k5]);exact q1,q2⟩
 ·obtain⟨ev,q1,q2⟩:=h.zX.ran;exact⟨ev,by
   (rw[hc];first|rw[k4]|rw[k5]);exact q1,q2⟩
 ·have q:=h.zX.tab j x hx;unfold World.cell? at q⊢;show(match(lw W b1 b2).heap[8]? with|some (.cells c _ _)=>_|_=>none)=_;rw[xB (.inr rfl) h1 h2];exact q
 ·show 9<=(lw W b1 b2).heap.size;rw[Kr];exact h.zX.size
theorem nh(h:Laid W):10<=W.heap.size:=by have:=(az.1 h.r9).1;omega
def Ks:Option TypeDesc->Bool
 |some (.interface _)|some (.tuple _)|some (.int .i64)=>true
 |_=>false
theorem xC{P:aF}{e:aw}(h:Ks (P.underlying e)=true):bare P e:=by unfold Ks at h;split at h;exact zcB;exact zcB;exact zcB;cases h
theorem xD:bare prog 101/\bare prog 3/\bare prog 25/\bare prog 0:=⟨xC kR,xC kR,xC kR,xC kR⟩
theorem Kt{k:IntKind}{l:List Int}(i:Nat)(v:ae)(h:((l.map λz=>Value.int k z).toArray)[i]?=some v):Pl v:=by simp only[ba,gR,bQ]at h;obtain⟨z,_,rfl⟩:=h;exact λρ=>.int _ _
theorem zF{name:String}{g:Nat}{cs:bw}(hg:prog.globalNamed name=some g)(h:W.var? prog name=some cs):∃e fr,W.heap[g]?=some (.cells cs e fr):=by unfold World.var? at h;rw[hg]at h;simp only[jc]at h;split at h;rename_i c e fr hh;cases h;exact⟨e,fr,hh⟩;cases h
theorem Ku{g:Nat}{v:ae}(hv:W.heap[g]?=some (.cells #[v] 25 (0,0)))(he:sI W g):∃tp a c e,v=.iface tp (.pointer (some a))/\a.block<W.heap.size/\W.heap[a.block]?=some (.cells c e (0,0))/\0<c.size/\∃s,W.cell? a=some (.string s):=by obtain⟨tp,a,s,c,e,h1,h2,h3⟩:=he;unfold World.cell? at h1;rw[hv]at h1;refine⟨tp,a,c,e,by simpa using h1,(az.1 h3).1,h3,?_,s,h2⟩;unfold World.cell? at h2;rw[h3]at h2;dsimp only at h2;split at h2;cases h2;have:=(az.1 h2).1;omega
theorem wr0(h:Laid W):∃b1 b2,10<=b1/\10<=b2/\∀T,WR prog (Dt W b1 b2 (nh h)) (on (lw W b1 b2) T) W:=by
 obtain⟨v0,hv0⟩:=h.r0;obtain⟨v4,hv4⟩:=h.r4;obtain⟨v5,hv5⟩:=h.r5;obtain⟨tp4,a4,c4,e4,rfl,l4,q4,z4,s4,g4⟩:=Ku hv4 h.e4;obtain⟨tp5,a5,c5,e5,rfl,l5,q5,z5,s5,g5⟩:=Ku hv5 h.e5;have n4:=h.ns _ _ g4;have n5:=h.ns _ _ g5;refine⟨a4.block,a5.block,n4,n5,λT=>?_⟩;have hrow:∀x,(x=a4.block\/x=a5.block)->∃c e,W.heap[x]?=some (.cells c e (0,0))/\0<c.size/\10<=x/\x<W.heap.size:=λx hx=>by rcases hx with rfl|rfl;exact⟨c4,e4,q4,z4,n4,l4⟩;exact⟨c5,e5,q5,z5,n5,l5⟩
 refine⟨λh=>h.elim,λx hx hd=>?_,λx hx=>?_,λx hx=>?_,rfl,?_,aj _⟩
 ·have hx':x=0\/x=3\/x=4\/x=5\/x=9:=by rcases hx with hx|⟨hx,hlt⟩;simpa only[alw,cw,Nat.beq_eq]using hx;obtain⟨c,e,h1,h2,_,h3⟩:=hrow x hx;refine absurd ?_ hd;show 0<(if(x=a4.block\/x=a5.block)/\x<W.heap.size then EK W x else 0);rw[if_pos ⟨hx,h3⟩];unfold EK;rw[h1];exact h2
  have key:∀c e,W.heap[x]?=some (.cells c e (0,0))->bare prog e->AR (Dt W a4.block a5.block (nh h)) c c->WE prog (Dt W a4.block a5.block (nh h)) (on (lw W a4.block a5.block) T) W x:=λc e h1 h2 h3=>
   ⟨c,e,c.size+1,Uu hx' h1,h1,Nat.lt_succ_self _,h2,h3⟩
  rcases hx' with rfl|rfl|rfl|rfl|rfl;have h1:=h.zX.et;unfold jb World.cell? at h1;rw[hv0]at h1;(have h1':v0=.iface 135 (.agg #[pT 9 25]):=by simpa using h1);subst h1';exact key _ _ hv0 xD.1 (.cons (.iface _ (.agg (.cons (.ptr ⟨.inl ⟨.inl rfl,rfl⟩,rfl,rfl⟩) .nil))) .nil);obtain⟨n,hn⟩:=h.r3;exact key _ _ hn xD.2.1 (.cons (.int _ _) .nil);exact key _ _ hv4 xD.2.2.1 (.cons (.iface _ (.ptr ⟨.inl ⟨.inr ⟨.inl rfl,l4⟩,rfl⟩,rfl,rfl⟩)) .nil);exact key _ _ hv5 xD.2.2.1 (.cons (.iface _ (.ptr ⟨.inl ⟨.inr ⟨.inr rfl,l5⟩,rfl⟩,rfl,rfl⟩)) .nil);refine key _ _ h.r9 xD.2.2.2 ?_;unfold AR EL;rw[cS];refine wq λv hv=>?_;obtain⟨t,_,rfl⟩:=List.mem_map.1 hv;exact .int _ _
 ·have hx':(x=a4.block\/x=a5.block)/\x<W.heap.size:=by have hx2:0<(if(x=a4.block\/x=a5.block)/\x<W.heap.size then EK W x else 0):=hx;split at hx2;assumption;cases hx2
  obtain⟨c,e,h1,h2,h3,_⟩:=hrow x hx'.1;have hd:(Dt W a4.block a5.block (nh h)).dn x=c.size:=by show(if(x=a4.block\/x=a5.block)/\x<W.heap.size then EK W x else 0)=_;rw[if_pos hx'];unfold EK;rw[h1]
  exact⟨c,e,c,e,ZB hx'.1 h3 h1,h1,hd.symm,hd.symm⟩
 ·have hx':x=1\/x=2\/x=6\/x=7\/x=8:=by have:(alw false).T x=true:=hx;simpa only[alw,cw,Nat.beq_eq]using this
  by_cases h6:x=6;subst h6;obtain⟨e,fr,hr⟩:=zF Uv h.zX.pow;exact⟨_,e,fr,_,e,fr,(xB (W:=W) (.inl rfl) n4 n5).trans hr,hr,λi v hv=>⟨hv,Kt i v hv⟩⟩;by_cases h8:x=8;subst h8;obtain⟨e,fr,hr⟩:=zF aa3 h.db;exact⟨_,e,fr,_,e,fr,(xB (W:=W) (.inr rfl) n4 n5).trans hr,hr,λi v hv=>⟨hv,Kt i v hv⟩⟩;obtain⟨c,e,hr⟩:=h.rT x oM;exact⟨_,e,_,_,e,_,ZA oM hr,hr,λi v hv=>by simp at hv⟩
 ·show W.heap.size<=(lw W a4.block a5.block).heap.size;rw[Kr];exact aj _
theorem aa4(h:Laid W)(hw:∀T,WR prog (Dt W b1 b2 (nh h)) (on (lw W b1 b2) T) W):Low (λ_=>False) (Dt W b1 b2 (nh h)) (on (lw W b1 b2) W.tape) W:=
 ⟨hw _,λb hb=>⟨by
  rcases hb with hb|hb;exact(Dt W b1 b2 (nh h)).kb hb
  ·exact(Dt W b1 b2 (nh h)).tb hb,λx=>x⟩,λb hb=>hb.elim,λ_ _ h=>h,λf hf=>by
   have:(alw false).sp f=true:=hf;simp[alw]at this,⟨_,aa2 _ _ _ _⟩⟩
theorem aa5(h:Laid W)(h1:10<=b1)(h2:10<=b2):zE (Dt W b1 b2 (nh h)) (on (lw W b1 b2) W.tape):=by
 have hs:∀T,Std (on (on (lw W b1 b2) W.tape) T):=λT=>WB h h1 h2 T;refine⟨λf h1 h2 h3=>?_,λT=>?_,λa n h1 h2 T=>?_,λt ht T=>?_⟩
 ·have:f=5\/f=7\/f=8\/f=9:=by omega
  show(alw false).ok f=true;rcases this with rfl|rfl|rfl|rfl<;>decide
 ·exact(P8 _ (hs T)).mono λe w' h=>⟨_,h.1,rfl⟩
 ·exact(P9 a n h1 h2 _).mono λe w' h=>⟨_,h.1,rfl⟩
 ·exact(GK t ht _ (hs T)).mono λe w' h=>⟨_,h.1,rfl⟩
theorem GQ(h:Laid W){n tc:Nat}{ta:Option Addr}{txt:Nat->ay}(hA:Arg (λ_=>False) W n ta txt)(a1 a2:Int){Post:ae->aa->Prop}(hpost:∀w',Kept W w'->Post (.bool true) w'):
 ∃N last o w' t',runNT prog (N+1) (solo (Conc.G (Frame.enter prog 3 #[.slice ta n tc,.int .i64 a1,.int .i64 a2] .normal) []) W) #[]=(.ended o w',t')/\runN prog N (solo (Conc.G (Frame.enter prog 3 #[.slice ta n tc,.int .i64 a1,.int .i64 a2] .normal) []) W)=.next last/\
  step prog last=.ended o w'/\Conc.Good prog Post last o w' t':=by
 obtain⟨b1,b2,h1,h2,hw⟩:=wr0 h;exact Qd (tc:=tc) (aa5 h h1 h2) (aa4 h hw) hA a1 a2 hpost
end
end Go.Mx
namespace Go.Proofs.YtdhekhlmdefcnaaGreatDoor
open Go.ChangeAt Go.ChangeShapes Go.Conc Go.Deep Go.Proofs.Tryz Go.RowKit Go.WideShapes
theorem zG{w w1:aa}(h:Mx.Kept w w1):Below w.heap.size w w1:=⟨h.os,h.tape,h.output,h.size,h.old⟩
theorem WC{H:Type}{enc:aw×ae->H}{w:aa}{a:Option Addr}{n c:Nat}{d:DataW H}{p:List MemPlace}(h:DataW.Trod enc prog w 0 (λ_=>true) true 22 (.slice a n c) d p):∃txt,Mx.Arg (λ_=>False) w n a txt:=by
 obtain⟨fuel,hf⟩:=h;rcases open_strings underlying22 underlying9 kR hf with⟨hcs,_⟩|⟨x,l,c',ss,hcs,_,hl,hm,hz,_,hcell,_⟩;simp[Value.cells]at hcs;obtain⟨rfl,rfl,rfl⟩:=hcs;exact⟨λ_=>ByteArray.empty,⟨λi hi=>absurd hi oM⟩⟩
 ·simp[Value.cells]at hcs;obtain⟨rfl,rfl,rfl⟩:=hcs;have hz':ss.length=c:=by simpa using hz
  refine⟨λi=>ss.getD i ByteArray.empty,⟨λi hi=>⟨x,rfl,?_,λh=>h,hcell i oM⟩⟩⟩;have:=World.block_lt_of_cell? w _ (hcell i oM);rw[Pr.add_block]at this;exact this
theorem uk(os:Os)(started:os.Started)(H:Type)(enc:aw×ae->H):
 ReturnsInLeavingWide {} Tryz.checked os 3 .any (λw args=>(Rows.manyWorkersSpec.pre enc prog Tryz.f3 [] false w args/\laidMetH prog Rows.manyWorkersRow.laid w)/\sizedMet enc prog Tryz.f3 (OpenSpec.ofChange Rows.manyWorkersSpec) false w args)
  (Rows.manyWorkersSpec.post enc prog Tryz.f3 false true false false):=by
 refine returnsInLeavingWide_of_good (C:=Tryz.checked) own started
  (ChangeSpec.witness_shaped (enc:=enc) (C:=Tryz.checked) (os:=os) (X:=λw _=>laidMetH prog Rows.manyWorkersRow.laid w) false (Cz os) #[.slice none 0 0,.int .i64 0,.int .i64 0] 8 (Qe os) (Kq os _) kR kR kR (Qf os _)) ?_
 intro w tape i _ hsh _ hok hpre _;obtain⟨_,_,_,fn',hfn',_,_,_,_,hval0⟩:=hok;obtain rfl:fn'=Tryz.f3:=bJ (hfn'.symm.trans func3);obtain⟨⟨⟨ds,gs,before,hw,hc⟩,hx⟩,hz⟩:=hpre;have hW:=DataW.Whole.of_heap (w':=w.forCall tape i) rF hw;have hL:laidMetH prog Rows.manyWorkersRow.laid (w.forCall tape i):=hx.of_heap rF;generalize w.forCall tape i=W at hsh hval0 hW hL⊢;generalize hargs:i.args=args at hval0 hW⊢;have hval:∀(j:Nat) t v,Tryz.f3.params[j]?=some t->args[j]?=some v->Value.okWide prog W .any w.heap.size t v:=hval0;have hW':=hW;obtain⟨p,q,hA0,hV,rfl,hfz,hnd⟩:=hW;have hA:DataW.TrodAll enc prog W 0 (λ_=>true) true Tryz.f3.params.toList args.toList ds p:=hA0;rw[params3]at hA hval;obtain⟨v0,v1,v2,d0,d1,d2,p0,p1,p2,rfl,rfl,rfl,h0,h1,h2⟩:=trodAll_three hA;obtain⟨rfl,rfl⟩:=trodVars_none hV;obtain⟨A0,n0,c0,rfl⟩:=okWide_slice underlying22 (hval 0 22 v0 rfl rfl);obtain⟨a1,rfl,rfl,rfl,w1⟩:=open_int underlying3 (hval 1 3 v1 rfl rfl) h1;obtain⟨a2,rfl,rfl,rfl,w2⟩:=open_int underlying3 (hval 2 3 v2 rfl rfl) h2;have k0:=h0;have lt0:∀x∈p0,x.block<W.heap.size:=by obtain⟨m,hm⟩:=k0;exact DataW.trod_lt m _ _ _ hm
 obtain⟨txt,hT⟩:=WC h0;obtain⟨N,last,o,w',t',k1,k2,k3,k4⟩:=Mx.GQ (tc:=c0) (Mx.Ut hsh hL) hT a1 a2 (Post:=λv w'=>Rows.manyWorkersSpec.post enc prog Tryz.f3 false true false false W #[.slice A0 n0 c0,.int .i64 a1,.int .i64 a2] v w') λw' hk=>
  ⟨_,_,_,[],_,[],hW',trodAll_mk1 (shut_bool underlying4 _),trodAll_mk3 (Below.trod laidOut kR (of_decide_eq_true kR) k0 (zG hk) lt0) (shut_int underlying3 w1) (shut_int underlying3 w2),rfl,(zG hk).frame _,λh=>by cases h⟩
 exact⟨N,last,o,w',t',k1,k2,k3,k4.mono λv hp=>ChangeSpec.post_blind hp⟩
theorem uH:Rows.ManyWorkersSaid:=
 OpenClaim.holds_of_wide_leaving 3 Tryz.f3 rfl rfl rfl rfl rfl rfl rfl ⟨rfl,rfl,rfl,rfl,rfl⟩ rfl rfl rfl rfl rfl kR func3 kR
  (of_decide_eq_true kR) (by unfold Func.isWrapper;first|(rw[if_pos (by decide+kernel)];kernel_rfl)|(rw[if_neg (by decide+kernel)];exact⟨rfl,rfl⟩))
  (λos started H enc _=>uk os started H enc)
end Go.Proofs.YtdhekhlmdefcnaaGreatDoor
