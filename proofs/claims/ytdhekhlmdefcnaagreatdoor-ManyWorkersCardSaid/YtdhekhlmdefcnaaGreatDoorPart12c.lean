/- Part 12c of the proof. -/
import Derived.Test.YtdhekhlmdefcnaaGreatDoorPart12
set_option maxHeartbeats 16000000
set_option maxRecDepth 1000000
namespace Go.Mx
open Go Go.Conc Go.Conc.Lib Go.ConcN.Gen Go.ConcR.Gen Go.Pr Go.Proofs Go.Proofs.Tryz Go.RowKit
open Go.ConcN (WgLive sumTo sumTo_upd upd upd_ne upd_same)
open Go.ConcR (DC0 KK WgAt mk rd smA stA wr)
open Go.Proofs.YtdhekhlmdefcnaaGreatDoor (pk vA pW)
structure zE(ρ:Rn)(wL:aa):Prop where
 ok:∀f,5<=f->f<=9->f≠6->ρ.ok f
 Zq:∀T,Calls prog 5 #[] (on wL T) λe _=>∃u,e=.returned u/\u=.bool true
 pick:∀(a n:Int),0<n->n<=4611686018427387904->∀T,Calls prog 7 #[.int .i64 a,.int .i64 n] (on wL T) λe _=>∃u,e=.returned u/\u=.int .i64 (pk a n)
 Vh:∀t:ay,t.size<=1000->∀T,Calls prog 8 #[.string t] (on wL T) λe _=>∃u,e=.returned u/\u=.string (pW t)
theorem Ul(b:Bool)(σ:Rn)(u:ae)(h:VR σ (.bool b) u):u=.bool b:=by cases h;rfl
theorem NP(k:IntKind)(n:Int)(σ:Rn)(u:ae)(h:VR σ (.int k n) u):u=.int k n:=by cases h;rfl
theorem MX(s:ay)(σ:Rn)(u:ae)(h:VR σ (.string s) u):u=.string s:=by cases h;rfl
structure FF(S:cD)(ρ:Rn)(wL W:aa)(w:aa):Prop where
 low:Low S ρ wL w
 kept:Kept W w
section
variable {S:cD}{L:CS->Prop}{cs:List Frame}{ρ:Rn}{wL W w w1:aa}
theorem FF.next(h:FF S ρ wL W w)(k:Kept w w1):FF S ρ wL W w1:=⟨h.low.kept k,h.kept.trans k⟩
theorem aO(h:FF S ρ wL W w)(r:AtR w w1):FF S ρ wL W w1:=h.next (Kept.at r)
theorem GL(hL:∀s d,L s->L {s with w:=s.w.at d})(h:FF S ρ wL W w){b:Frame}{a:Act}{ops:Array Oper}{i:Nat}{rest:List Nat}{k:List Item}{o:Oper}{f:FuncId}{fn:Func}{args:Array Operand}{ats:Array aw}{c:Code}{t:Tmp}{xs:bw}{v:ae}
 (ho:ops[i]?=some o)(hw:Region.wanted o (yielded ops a.tmps)=true)(hk:b.kind≠.early)(hop:o.op=.call {callee:=.value (.func f),args,argTypes:=ats})(hf:prog.funcs[f]?=some fn)(hname:(fn.name== "runtime.NumGoroutine")=false)(hb:fn.body=some c)(hx:args.map a.eval=xs)
 (hr:fn.results= #[.tmp t])(hok:ρ.ok f)(hxx:AR ρ xs xs)(hv:∀(σ:Rn)(u:ae),VR σ v u->u=v)(hc:∀T,Calls prog f xs (on wL T) λe _=>∃u,e=.returned u/\u=v)
 (hend:∀w1,Kept w w1->FF S ρ wL W w1->fG S L (Conc.G (b.at (a.put o.dst v) (.inRegion ops rest::k)) cs) w1):fG S L (Conc.G (b.at a (.inRegion ops (i::rest)::k)) cs) w:=by
 refine fG.step1 rfl λw1 h1=>?_;have hF:=aO h h1;rw[mS ho hw hk hop hf hname hb hx];refine⟨zcL,aj _,?_⟩;show fG S L (gr (Frame.enter prog f xs .normal) (b.at a (.inRegion ops (i::rest)::k)::cs)) w1;refine Yd hL hF.low hf hr hok hxx hv hc λw2 h2=>?_;show fG S L (Conc.G ((b.at a (.inRegion ops (i::rest)::k)).finish v) cs) w2;rw[Frame.finish_at,ho];exact hend w2 ((Kept.at h1).trans h2) (hF.next h2)
end
theorem od(T:bw)(h:T.size=92):∃f:Nat->ae,T= #[f 0,f 1,f 2,f 3,f 4,f 5,f 6,f 7,f 8,f 9,f 10,f 11,f 12,f 13,f 14,f 15,f 16,f 17,f 18,f 19,f 20,f 21,f 22,f 23,f 24,f 25,f 26,f 27,f 28,f 29,f 30,f 31,f 32,f 33,f 34,f 35,f 36,f 37,f 38,f 39,f 40,f 41,f 42,f 43,f 44,f 45,f 46,f 47,f 48,f 49,f 50,f 51,f 52,f 53,f 54,f 55,f 56,f 57,f 58,f 59,f 60,f 61,f 62,f 63,f 64,f 65,f 66,f 67,f 68,f 69,f 70,f 71,f 72,f 73,f 74,f 75,f 76,f 77,f 78,f 79,f 80,f 81,f 82,f 83,f 84,f 85,f 86,f 87,f 88,f 89,f 90,f 91]:=by
 obtain⟨l⟩:=T;refine⟨λi=>l.getD i undef,?_⟩
 match l,h with
 |v0::v1::v2::v3::v4::v5::v6::v7::v8::v9::v10::v11::v12::v13::v14::v15::v16::v17::v18::v19::v20::v21::v22::v23::v24::v25::v26::v27::v28::v29::v30::v31::v32::v33::v34::v35::v36::v37::v38::v39::v40::v41::v42::v43::v44::v45::v46::v47::v48::v49::v50::v51::v52::v53::v54::v55::v56::v57::v58::v59::v60::v61::v62::v63::v64::v65::v66::v67::v68::v69::v70::v71::v72::v73::v74::v75::v76::v77::v78::v79::v80::v81::v82::v83::v84::v85::v86::v87::v88::v89::v90::v91::[],_=>rfl
theorem nm5:(Tryz.f5.name== "runtime.NumGoroutine")=false:=kR
theorem nm6:(Tryz.f6.name== "runtime.NumGoroutine")=false:=kR
theorem nm7:(Tryz.f7.name== "runtime.NumGoroutine")=false:=kR
structure Arg(S:cD)(w:aa)(n:Nat)(ta:Option Addr)(txt:Nat->ay):Prop where
 el:∀i,i<n->∃a,ta=some a/\a.block<w.heap.size/\¬S a.block/\w.cell? (a.add i)=some (.string (txt i))
def lop(c:Code):Code:=match c with|.seq _ (.block _ (.loop c))=>c|_=>.skip
noncomputable def px:Code:=Tryz.f3.body.getD .skip
noncomputable def p2:Code:=fR (fR px)
noncomputable def p3:Code:=fR p2
noncomputable def p5:Code:=fR (fR p3)
noncomputable def p6:Code:=fR p5
noncomputable def p7:Code:=fR p6
noncomputable def p8:Code:=fR p7
noncomputable def Wx:Code:=lop (jQ p2)
noncomputable def Wy:Code:=lop (jQ p7)
noncomputable def oA:Array Oper:=rA (jQ (fR p3))
noncomputable def oB:Array Oper:=rA (jQ p5)
theorem NQ(s:ay)(w:aa)(es:Array Event):(Builtin.len_ #[9] 3 #[.string s]).events prog w es=es:=by simp[Builtin.len_]
section
variable {S:cD}{L:CS->Prop}{ρ:Rn}{wL W:aa}
theorem wAl(hL:∀s d,L s->L {s with w:=s.w.at d}){n tc:Nat}{ta:Option Addr}{txt:Nat->ay}{a1 a2:Int}(hn:n<=4)(hA:Arg S W n ta txt)
 (hret:∀(T:bw)(todo:List Item)(w:aa),T.size=92->T[6]?=some (.bool true)->FF S ρ wL W w->fG S L (Conc.G {(base 3).at ⟨T,[]⟩ todo with mode:=.returning} []) w)
 (hend:(∀i,i<n->(txt i).size<=1000)->∀(T:bw)(w:aa),T.size=92->T[0]?=some (.slice ta n tc)->T[1]?=some (.int .i64 a1)->T[2]?=some (.int .i64 a2)->FF S ρ wL W w->fG S L (Conc.G ((base 3).at ⟨T,[]⟩ [.code p3]) []) w):
 ∀(r i:Nat)(T:bw)(w:aa),i+r=n->(∀j,j<i->(txt j).size<=1000)->T.size=92->T[0]?=some (.slice ta n tc)->T[1]?=some (.int .i64 a1)->T[2]?=some (.int .i64 a2)->T[7]?=some (.int .i64 i)->FF S ρ wL W w->
  fG S L (Conc.G ((base 3).at ⟨T,[]⟩ [.code Wx,.inLoop Wx,.inBlock 0,.code p3]) []) w:=by
 intro r
 induction r with
 |zero=>
  intro i T w hi hj hs t0 t1 t2 t7 hF;obtain rfl:i=n:=oM;obtain⟨f,rfl⟩:=od T hs;clear hs;simp only[ba,aY,bf,bq]at t0 t1 t2 t7;have hnl:¬((i:Int)<(i:Int)):=oM;refine fG.walk (n:=60) hL ?_;simp only[Wx,p2,px,Tryz.f3,jQ,fR,lop,br];generalize htt:p3=tt;u_c stepG_seq aO hF;u_c stepG_seq aO hF;u_reg aO hF;simp only[t0,t7];iterate 4 u_op aO hF
  u_c stepG_region_end aO hF;u_cond false aO hF;u_exit aO hF;refine Goes.stop (λw1 h1 _=>?_);subst htt;exact hend hj _ w1 sM (by simp) (by simp) (by simp) (aO hF h1)
 |succ r ih=>
  intro i T w hi hj hs t0 t1 t2 t7 hF;obtain⟨f,rfl⟩:=od T hs;clear hs;simp only[ba,aY,bf,bq]at t0 t1 t2 t7;have hlt:(i:Int)<(n:Int):=oM;have hi0:(0:Int)<=(i:Int):=oM;have hwr:IntKind.i64.wrap ((i:Int)+1)=((i+1:Nat):Int):=by rw[IntKind.wrap_i64];omega
  obtain⟨a,rfl,ha1,ha2,ET⟩:=hA.el i oM;have hsz0:(0:Int)<=((txt i).size:Int):=oM;refine fG.walk (n:=60) hL ?_;simp only[Wx,p2,px,Tryz.f3,jQ,fR,lop,br];generalize htt:p3=tt;u_c stepG_seq aO hF;u_c stepG_seq aO hF;u_reg aO hF;simp only[t0,t7];iterate 4 u_op aO hF
  u_c stepG_region_end aO hF;u_cond true aO hF;u_c stepG_skip aO hF;u_c stepG_seq aO hF;u_c stepG_block aO hF;u_c stepG_seq aO hF;u_reg aO hF;iterate 3 u_op aO hF
  refine Goes.stop (λw1 h1 _=>?_);replace hF:=aO hF h1;clear h1;refine fG.step1 rfl (λw2 h2=>?_);replace hF:=aO hF h2;clear h2;refine goes_oper_k rfl rfl (by k_ne) (λKx hKx=>?_);have hld:w2.cell? (a.add i)=some (.string (txt i)):=hF.kept.cell ET;have hlt2:((a.add i)).block<w2.heap.size:=by rw[Pr.add_block];exact aT ha1 hF.kept.size
  go_simp;refine hKx _ _ ⟨λe he=>?_,aj _,?_⟩;exact zcC;clear hKx Kx hld hlt2;refine fG.walk (n:=60) hL ?_;try walk_nrm
  rcases cp 1000 (txt i).size with q|q
  ·(have q1:(1000:Int)<((txt i).size:Int):=by omega);have hle:=NQ (txt i);u_op aO hF;clear hle;exact zcP
  ·(have q1:¬(1000:Int)<((txt i).size:Int):=by omega);have hle:=NQ (txt i);u_op aO hF;clear hle;u_op aO hF;u_c stepG_region_end aO hF;u_cond false aO hF;u_c stepG_skip aO hF;u_c stepG_inBlock aO hF;u_reg aO hF;(iterate 3 u_op aO hF);u_c stepG_region_end aO hF;u_c stepG_inLoop aO hF;refine Goes.stop (λw1 h1 _=>?_);subst htt;exact ih (i+1) _ w1 oM (λj hj'=>by
    rcases Nat.lt_or_eq_of_le (Nat.le_of_lt_succ hj')with h|rfl;exact hj j h
    ·exact q) sM sM (by simp) (by simp) sM (aO hF h1)
theorem wA(hL:∀s d,L s->L {s with w:=s.w.at d}){n tc:Nat}{ta:Option Addr}{txt:Nat->ay}{a1 a2:Int}(hA:Arg S W n ta txt)(hF:FF S ρ wL W W)
 (hret:∀(T:bw)(todo:List Item)(w:aa),T.size=92->T[6]?=some (.bool true)->FF S ρ wL W w->fG S L (Conc.G {(base 3).at ⟨T,[]⟩ todo with mode:=.returning} []) w)
 (hend:n<=4->(∀i,i<n->(txt i).size<=1000)->∀(T:bw)(w:aa),T.size=92->T[0]?=some (.slice ta n tc)->T[1]?=some (.int .i64 a1)->T[2]?=some (.int .i64 a2)->FF S ρ wL W w->fG S L (Conc.G ((base 3).at ⟨T,[]⟩ [.code p3]) []) w):
 fG S L (Conc.G (Frame.enter prog 3 #[.slice ta n tc,.int .i64 a1,.int .i64 a2] .normal) []) W:=by
 rw[enter_at (c:=px) _ func3 rfl];have hlp:=λhn=>wAl (ρ:=ρ) (wL:=wL) (W:=W) (a1:=a1) (a2:=a2) (tc:=tc) hL hn hA hret (hend hn) n 0;refine fG.walk (n:=60) hL ?_;simp only[px,Tryz.f3,br];generalize htt:(Code.seq (Code.seq (Code.region 3 _ false) _) _)=tt;walk_nrm;u_c stepG_seq aO hF;u_reg aO hF;u_op aO hF;u_c stepG_region_end aO hF;u_c stepG_seq aO hF;u_c stepG_seq aO hF;u_reg aO hF;iterate 2 u_op aO hF
 rcases cp 4 n with q|q
 ·have q1:(4:Int)<(n:Int):=by omega
  exact zcP
 ·have q1:¬(4:Int)<(n:Int):=by omega
  u_op aO hF;u_c stepG_region_end aO hF;u_cond false aO hF;u_c stepG_skip aO hF;subst htt;u_c stepG_seq aO hF;u_c stepG_seq aO hF;u_reg aO hF;u_op aO hF;u_c stepG_region_end aO hF;u_c stepG_block aO hF;u_c stepG_loop aO hF;refine Goes.stop (λw1 h1 _=>?_);exact hlp q _ w1 oM (λj hj=>absurd hj oM) sM sM sM sM sM (aO hF h1)
theorem Um{a:Int}{R:Nat}(h:1+pk a 16=(R:Int)):IntKind.i64.wrap (R:Int)=(R:Int):=by have:=vA a 16 dC;rw[IntKind.wrap_i64];omega
theorem wB(hL:∀s d,L s->L {s with w:=s.w.at d})(hcon:zE ρ wL){n tc R:Nat}{ta:Option Addr}{a1 a2:Int}(hR:1+pk a1 16=(R:Int))
 (hend:∀(T:bw)(w:aa),T.size=92->T[0]?=some (.slice ta n tc)->T[2]?=some (.int .i64 a2)->T[32]?=some (.slice ta n tc)->T[35]?=some (.int .i64 R)->FF S ρ wL W w->fG S L (Conc.G ((base 3).at ⟨T,[]⟩ [.inRegion oA [4,5,6,7,8,9],.code p5]) []) w)
 (T:bw)(w:aa)(hs:T.size=92)(t0:T[0]?=some (.slice ta n tc))(t1:T[1]?=some (.int .i64 a1))(t2:T[2]?=some (.int .i64 a2))(hF:FF S ρ wL W w):fG S L (Conc.G ((base 3).at ⟨T,[]⟩ [.code p3]) []) w:=by
 obtain⟨f,rfl⟩:=od T hs;clear hs;simp only[ba,aY,bf,bq]at t0 t1 t2;have hwr:=Um hR;refine fG.walk (n:=60) hL ?_;simp only[p3,p2,px,Tryz.f3,fR,br];generalize htt:(Code.seq (Code.region 11 _ false) _)=tt;simp only[t0,t1,t2];u_c stepG_seq aO hF;u_c stepG_seq aO hF;u_reg aO hF;refine Goes.stop (λw1 h1 _=>?_);replace hF:=aO hF h1;clear h1;refine GL hL hF (xs:=#[]) (v:=(.bool true)) rfl rfl (by k_ne) rfl func5 nm5 rfl zcG rfl (hcon.ok 5 dC dC dC) .nil (Ul _) (hcon.Zq) (λw2 hk hF2=>?_);replace hF:=hF2;clear hF2 hk;refine fG.walk (n:=60) hL ?_;try walk_nrm
 u_op aO hF;u_c stepG_region_end aO hF;u_cond false aO hF;u_c stepG_skip aO hF;u_c stepG_seq aO hF;u_reg aO hF;iterate 2 u_op aO hF
 refine Goes.stop (λw1 h1 _=>?_);replace hF:=aO hF h1;clear h1;refine GL hL hF (xs:=#[.int .i64 a1,.int .i64 16]) (v:=(.int .i64 (pk a1 16))) rfl rfl (by k_ne) rfl func7 nm7 rfl zcG rfl (hcon.ok 7 dC dC dC) (.cons (.int _ _) (.cons (.int _ _) .nil)) (NP _ _) (hcon.pick a1 16 dC dC) (λw2 hk hF2=>?_);replace hF:=hF2;clear hF2 hk;refine fG.walk (n:=60) hL ?_;try walk_nrm
 u_op aO hF;refine Goes.stop (λw1 h1 _=>?_);subst htt;exact hend _ w1 sM sM sM sM sM (aO hF h1)
theorem wC(hL:∀s d,L s->L {s with w:=s.w.at d})(hcon:zE ρ wL){n tc R bo:Nat}{ta:Option Addr}{a2:Int}(hR:1+pk a2 16=(R:Int))
 (hend:∀(T:bw)(w:aa),T.size=92->T[0]?=some (.slice ta n tc)->T[8]?=some (.slice (some ⟨bo,0,none⟩) n n)->T[9]?=some .nilIface->T[40]?=some (.slice ta n tc)->T[43]?=some (.int .i64 R)->FF S ρ wL W w->fG S L (Conc.G ((base 3).at ⟨T,[]⟩ [.inRegion oB [4,5,6,7,8,9],.code p6]) []) w)
 (T:bw)(w:aa)(hs:T.size=92)(t0:T[0]?=some (.slice ta n tc))(t2:T[2]?=some (.int .i64 a2))(t36:T[36]?=some (.tuple #[.slice (some ⟨bo,0,none⟩) n n,.nilIface]))(hF:FF S ρ wL W w):fG S L (Conc.G ((base 3).at ⟨T,[]⟩ [.inRegion oA [5,6,7,8,9],.code p5]) []) w:=by
 obtain⟨f,rfl⟩:=od T hs;clear hs;simp only[ba,aY,bf,bq]at t0 t2 t36;have hwr:=Um hR;refine fG.walk (n:=60) hL ?_;simp only[oA,p5,p3,p2,px,Tryz.f3,jQ,fR,rA,br];generalize htt:(Code.seq (Code.seq (Code.region 12 _ false) _) _)=tt;simp only[t0,t2,t36];iterate 5 u_op aO hF
 u_c stepG_region_end aO hF;u_c stepG_seq aO hF;u_reg aO hF;iterate 2 u_op aO hF
 refine Goes.stop (λw1 h1 _=>?_);replace hF:=aO hF h1;clear h1;refine GL hL hF (xs:=#[.int .i64 a2,.int .i64 16]) (v:=(.int .i64 (pk a2 16))) rfl rfl (by k_ne) rfl func7 nm7 rfl zcG rfl (hcon.ok 7 dC dC dC) (.cons (.int _ _) (.cons (.int _ _) .nil)) (NP _ _) (hcon.pick a2 16 dC dC) (λw2 hk hF2=>?_);replace hF:=hF2;clear hF2 hk;refine fG.walk (n:=60) hL ?_;try walk_nrm
 u_op aO hF;refine Goes.stop (λw1 h1 _=>?_);subst htt;exact hend _ w1 sM sM sM sM sM sM (aO hF h1)
theorem Wz(w:aa)(es:Array Event):(binOp .neq 25 .nilIface .nilIface).events prog w es=es:=kR
theorem wDl(hL:∀s d,L s->L {s with w:=s.w.at d})(hcon:zE ρ wL){n tc b1 b2:Nat}(hn:n<=4){ta:Option Addr}{txt:Nat->ay}(hA:Arg S W n ta txt)(hl:∀i,i<n->(txt i).size<=1000){r1 r2:bw}(hr1:W.heap[b1]?=some (.cells r1 9 (0,0)))(Zr:∀i,i<n->r1[i]?=some (.string (pW (txt i))))(Zs:¬S b1)
 (hr2:W.heap[b2]?=some (.cells r2 9 (0,0)))(Zt:∀i,i<n->r2[i]?=some (.string (pW (txt i))))(Zu:¬S b2)
 (hret:∀(T:bw)(todo:List Item)(w:aa),T.size=92->T[6]?=some (.bool true)->FF S ρ wL W w->fG S L (Conc.G {(base 3).at ⟨T,[]⟩ todo with mode:=.returning} []) w)
 :∀(r i:Nat)(T:bw)(w:aa),i+r=n->T.size=92->T[0]?=some (.slice ta n tc)->T[8]?=some (.slice (some ⟨b1,0,none⟩) n n)->T[10]?=some (.slice (some ⟨b2,0,none⟩) n n)->T[12]?=some (.int .i64 i)->FF S ρ wL W w->
  fG S L (Conc.G ((base 3).at ⟨T,[]⟩ [.code Wy,.inLoop Wy,.inBlock 2,.code p8]) []) w:=by
 intro r
 induction r with
 |zero=>
  intro i T w hi hs t0 t8 t10 t12 hF;obtain rfl:i=n:=oM;obtain⟨f,rfl⟩:=od T hs;clear hs;simp only[ba,aY,bf,bq]at t0 t8 t10 t12;have hnl:¬((i:Int)<(i:Int)):=oM;refine fG.walk (n:=60) hL ?_;simp only[Wy,p8,p7,p6,p5,p3,p2,px,Tryz.f3,jQ,fR,lop,br];simp only[t0,t8,t10,t12];u_c stepG_seq aO hF;u_c stepG_seq aO hF;u_reg aO hF;iterate 4 u_op aO hF
  u_c stepG_region_end aO hF;u_cond false aO hF;u_exit aO hF;exact zcz
 |succ r ih=>
  intro i T w hi hs t0 t8 t10 t12 hF;obtain⟨f,rfl⟩:=od T hs;clear hs;simp only[ba,aY,bf,bq]at t0 t8 t10 t12;have hlt:(i:Int)<(n:Int):=oM;have hi0:(0:Int)<=(i:Int):=oM;have hwr:IntKind.i64.wrap ((i:Int)+1)=((i+1:Nat):Int):=by rw[IntKind.wrap_i64];omega
  obtain⟨a,rfl,ha1,ha2,ET⟩:=hA.el i oM;refine fG.walk (n:=60) hL ?_;simp only[Wy,p7,p6,p5,p3,p2,px,Tryz.f3,jQ,fR,lop,br];generalize htt:p8=tt;simp only[t0,t8,t10,t12];u_c stepG_seq aO hF;u_c stepG_seq aO hF;u_reg aO hF;iterate 4 u_op aO hF
  u_c stepG_region_end aO hF;u_cond true aO hF;u_c stepG_skip aO hF;u_c stepG_seq aO hF;u_c stepG_block aO hF;u_c stepG_seq aO hF;u_reg aO hF;iterate 3 u_op aO hF
  refine Goes.stop (λw1 h1 _=>?_);replace hF:=aO hF h1;clear h1;refine fG.step1 rfl (λw2 h2=>?_);replace hF:=aO hF h2;clear h2;refine goes_oper_k rfl rfl (by k_ne) (λKx hKx=>?_);have hld:w2.cell? (a.add i)=some (.string (txt i)):=hF.kept.cell ET;have hlt2:((a.add i)).block<w2.heap.size:=by rw[Pr.add_block];exact aT ha1 hF.kept.size
  go_simp;refine hKx _ _ ⟨λe he=>?_,aj _,?_⟩;exact zcC;clear hKx Kx hld hlt2;refine fG.walk (n:=60) hL ?_;try walk_nrm
  refine Goes.stop (λw1 h1 _=>?_);replace hF:=aO hF h1;clear h1;refine GL hL hF (xs:=#[.string (txt i)]) (v:=(.string (pW (txt i)))) rfl rfl (by k_ne) rfl func8 nm8 rfl zcG rfl (hcon.ok 8 dC dC dC) (.cons (.string _) .nil) (MX _) (hcon.Vh (txt i) (hl i oM)) (λw2 hk hF2=>?_);replace hF:=hF2;clear hF2 hk;refine fG.walk (n:=60) hL ?_;try walk_nrm
  u_op aO hF;u_c stepG_region_end aO hF;u_c stepG_seq aO hF;u_reg aO hF;iterate 3 u_op aO hF
  refine Goes.stop (λw1 h1 _=>?_);replace hF:=aO hF h1;clear h1;refine fG.step1 rfl (λw2 h2=>?_);replace hF:=aO hF h2;clear h2;refine goes_oper_k rfl rfl (by k_ne) (λKx hKx=>?_);have hld:w2.cell? (⟨b1,i,none⟩:Addr)=some (.string (pW (txt i))):=by have hrw:=hF.kept.heap hr1;unfold World.cell?;rw[hrw];simpa using Zr i oM
  have hlt2:((⟨b1,i,none⟩:Addr)).block<w2.heap.size:=(az.1 (hF.kept.heap hr1)).1;go_simp;refine hKx _ _ ⟨λe he=>?_,aj _,?_⟩
  ·have hm:=mem_listed he;clear hKx ih;simp[go_sem,hld]at hm;exact⟨_,false,hm,hlt2,Zs⟩
  clear hKx Kx hld hlt2;refine fG.walk (n:=60) hL ?_;try walk_nrm
  iterate 6 u_op aO hF
  refine Goes.stop (λw1 h1 _=>?_);replace hF:=aO hF h1;clear h1;refine fG.step1 rfl (λw2 h2=>?_);replace hF:=aO hF h2;clear h2;refine goes_oper_k rfl rfl (by k_ne) (λKx hKx=>?_);have hld:w2.cell? (⟨b2,i,none⟩:Addr)=some (.string (pW (txt i))):=by have hrw:=hF.kept.heap hr2;unfold World.cell?;rw[hrw];simpa using Zt i oM
  have hlt2:((⟨b2,i,none⟩:Addr)).block<w2.heap.size:=(az.1 (hF.kept.heap hr2)).1;go_simp;refine hKx _ _ ⟨λe he=>?_,aj _,?_⟩
  ·have hm:=mem_listed he;clear hKx ih;simp[go_sem,hld]at hm;exact⟨_,false,hm,hlt2,Zu⟩
  clear hKx Kx hld hlt2;refine fG.walk (n:=60) hL ?_;try walk_nrm
  iterate 3 u_op aO hF
  u_c stepG_region_end aO hF;u_cond false aO hF;u_c stepG_skip aO hF;u_c stepG_inBlock aO hF;u_reg aO hF;iterate 3 u_op aO hF
  u_c stepG_region_end aO hF;u_c stepG_inLoop aO hF;refine Goes.stop (λw1 h1 _=>?_);subst htt;exact ih (i+1) _ w1 oM sM sM sM sM sM (aO hF h1)
theorem wD(hL:∀s d,L s->L {s with w:=s.w.at d})(hcon:zE ρ wL){n tc b1 b2:Nat}(hn:n<=4){ta:Option Addr}{txt:Nat->ay}(hA:Arg S W n ta txt)(hl:∀i,i<n->(txt i).size<=1000){r1 r2:bw}(hr1:W.heap[b1]?=some (.cells r1 9 (0,0)))(Zr:∀i,i<n->r1[i]?=some (.string (pW (txt i))))(Zs:¬S b1)
 (hr2:W.heap[b2]?=some (.cells r2 9 (0,0)))(Zt:∀i,i<n->r2[i]?=some (.string (pW (txt i))))(Zu:¬S b2)
 (hret:∀(T:bw)(todo:List Item)(w:aa),T.size=92->T[6]?=some (.bool true)->FF S ρ wL W w->fG S L (Conc.G {(base 3).at ⟨T,[]⟩ todo with mode:=.returning} []) w)
 (T:bw)(w:aa)(hs:T.size=92)(t0:T[0]?=some (.slice ta n tc))(t8:T[8]?=some (.slice (some ⟨b1,0,none⟩) n n))(t9:T[9]?=some .nilIface)(t44:T[44]?=some (.tuple #[.slice (some ⟨b2,0,none⟩) n n,.nilIface]))(hF:FF S ρ wL W w):fG S L (Conc.G ((base 3).at ⟨T,[]⟩ [.inRegion oB [5,6,7,8,9],.code p6]) []) w:=by
 have hlp:=wDl (ρ:=ρ) (wL:=wL) (tc:=tc) hL hcon hn hA hl hr1 Zr Zs hr2 Zt Zu hret n 0;obtain⟨f,rfl⟩:=od T hs;clear hs;simp only[ba,aY,bf,bq]at t0 t8 t9 t44;refine fG.walk (n:=60) hL ?_;simp only[oB,p6,p5,p3,p2,px,Tryz.f3,jQ,fR,rA,br];generalize htt:(Code.seq (Code.seq (Code.region 14 _ false) _) _)=tt;simp only[t0,t8,t9,t44];iterate 5 u_op aO hF
 u_c stepG_region_end aO hF;u_c stepG_seq aO hF;u_c stepG_seq aO hF;u_reg aO hF;have hne:=Wz;iterate 20 u_op aO hF
 clear hne;u_c stepG_region_end aO hF;u_cond false aO hF;u_c stepG_skip aO hF;subst htt;u_c stepG_seq aO hF;u_c stepG_seq aO hF;u_reg aO hF;u_op aO hF;u_c stepG_region_end aO hF;u_c stepG_block aO hF;u_c stepG_loop aO hF;refine Goes.stop (λw1 h1 _=>?_);exact hlp _ w1 oM sM sM sM sM sM (aO hF h1)
end
end Go.Mx
namespace Go.Mx
open Go Go.Conc Go.Conc.Lib Go.ConcN.Gen Go.ConcR.Gen Go.Pr Go.Proofs Go.RowKit
open Go.ConcN (WgLive sumTo sumTo_upd upd upd_ne upd_same)
open Go.ConcR (DC0 KK WgAt mk rd smA stA wr)
theorem Ko{P:aF}{b:Frame}{a:Act}{w:aa}{fn:Func}{todo:List Item}{v:ae}(hn:b.kind=.normal)(hd:a.defers=[])(hf:P.funcs[b.fn]?=some fn)(hi:P.inits.idxOf? b.fn=none)
 (hr:(results fn a.tmps).run P w=.ok v w)(he:(results fn a.tmps).events P w #[]= #[]):
 stepG P true (Conc.G {b.at a todo with mode:=.returning} []) w=.ended (.done v) w:=by
 simp[Conc.G,stepG,unwind,doReturn,Frame.at,hn,hd,hf,hr,he,hi,seen,GStep.after]
section
variable {P:aF}{S:cD}
theorem Qa{Post:ae->aa->Prop}{v:ae}{a:aG}(hr:a.status=.running):∀(q:Nat){T:cD}{n:Nat}{gs:Array aG}{w:aa}{t:Trace}{Q:Nat->Nat}{sl:Option (Nat×Nat)},sumTo n Q<q->Calm P S T n gs w t Q->gs[0]?=some a->
 (∀w1,AtR w w1->stepG P true a w1=.ended (.done v) w1/\Post v w1)->
 ∃N last o w' t',runNT P (N+1) (crowd gs w sl) t=(.ended o w',t')/\runN P N (crowd gs w sl)=.next last/\step P last=.ended o w'/\Conc.Good P Post last o w' t':=by
 intro q
 induction q with
 |zero=>exact λhq=>absurd hq oM
 |succ q ih=>
  intro T n gs w t Q sl hq h ha hst;have haw:∀g∈gs,awake g:=by
   intro g hg;obtain⟨i,hi⟩:=Array.mem_iff_getElem?.1 hg;cases i with
   |zero=>rw[ha]at hi;cases hi;exact kT hr
   |succ i=>have hlt:=(az.1 hi).1;obtain⟨g',h1,h2⟩:=h.lv (i+1) oM zcJ;rw[hi]at h1;cases h1;exact QuitsD.awake h2
  obtain⟨i,g,d,sl',hg,hrun,hstep⟩:=crowd_pick (P:=P) (w:=w) (sl:=sl) haw ⟨0,a,ha,hr⟩;cases i with
  |zero=>rw[ha]at hg;cases hg;obtain⟨he,hp⟩:=hst (w.at d) ⟨d,rfl⟩;have hrunT:=ConcN.runT_crowd_ended (P:=P) (sl:=sl') (i:=0) ha (show stepG P (0==0) a (w.at d)=_ from he);(have hev:MemOp.ofEvents 0 a.frame.fn a.frame.place #[]= #[]:=by rw[ofEvents_eq];simp);rw[hev]at hrunT;have hs:stepT P (crowd gs w sl)=(.ended (.done v) (w.at d),#[]):=hstep.trans hrunT;refine⟨0,_,_,_,t,by simp[runNT,hs],rfl,by simp[step,hs],v,rfl,hp,h.tr.nr,h.ho.handedOver h.tr.gs,⟨λx hx=>?_,rfl⟩,λj x hx hj=>?_⟩;obtain⟨j,hj⟩:=List.mem_iff_getElem?.1 hx;rw[List.getElem?_drop]at hj;(have hj':gs[1+j]?=some x:=by simpa[crowd]using hj);have hlt:=(az.1 hj').1;obtain⟨g',h1,h2⟩:=h.lv (1+j) oM zcJ;rw[hj']at h1;cases h1;exact⟨_,h2.leaves⟩;have hj':gs[j]?=some x:=hx;have hlt:=(az.1 hj').1;obtain⟨g',h1,h2⟩:=h.lv j oM zcJ;rw[hj']at h1;cases h1;exact⟨_,h2.hears _⟩
  |succ i=>have hlt:=(az.1 hg).1;rw[h.sz]at hlt;obtain⟨g2,h1,h2⟩:=h.lv (i+1) oM hlt;rw[hg]at h1;cases h1;obtain⟨q',g',es,hq1,hq2,hm,_,QT⟩:=qb (w:=w.at d) (sl:=sl') oM hg h2 hrun;have hmu:mute (MemOp.ofEvents (i+1) g.frame.fn g.frame.place es):=nK λe he=>mm (hm e he);(have hc:Calm P S T n ((gs.map (woken P g g' (w.at d))).setIfInBounds (i+1) g') (w.at d) (t++MemOp.ofEvents (i+1) g.frame.fn g.frame.place es) (upd Q (i+1) q'):=by refine⟨h.n1,h.tr.mute (aj _) hmu λop hop=>by rw[ofEvents_g op hop];exact hlt,h.kn.mute hmu,h.ho.app λop hop _ _=>hmu op hop,λa=>(h.QS a).app (abt λe he a e2=>yT (hm e he) a e2),by rw[dy,if_neg oM];exact h.d0,by simp[h.sz],h.tb,h.sb,λk k1 k2=>?_⟩;by_cases hki:k=i+1;subst hki;exact⟨g',ed _ _ _ _ (by rw[h.sz];exact hlt),by rw[dy,if_pos rfl,upd_same];exact hq2⟩;obtain⟨g3,h3,h4⟩:=h.lv k k1 k2;exact⟨g3,by rw[cW _ _ _ _ _ (λe=>hki e.symm),h3];simp[woken_quitsD h4],by rw[dy,if_neg hki,upd_ne _ _ hki];exact h4⟩);have hsum:sumTo n (upd Q (i+1) q')+Q (i+1)=sumTo n Q+q':=sumTo_upd Q q' id hlt;obtain⟨N,last,o,w',t',k1,k2,k3,k4⟩:=ih (sl:=sl') oM hc (by rw[cW _ _ _ _ _ oM,ha];simp[woken_running hr]) (λw1 hw=>hst w1 (AtR.trans ⟨d,rfl⟩ hw));have hs:=hstep.trans QT;exact⟨N+1,last,o,w',t',by rw[runNT_succ_next hs];exact k1,by rw[runN_succ_next hs];exact k2,k3,k4⟩
theorem tZ{i:Nat}{a:Touch}(h:touchAt #[] i=some a):False:=by obtain⟨x,hx,_⟩:=touch_of h;simp at hx
theorem Qb{a:aG}{w:aa}:CM P (λ_=>False) (Fu (λ_=>False) w) a w (solo a w) #[]:=by refine⟨1,#[a],none,λ_=>0,rfl,rfl,aj _,⟨?_,?_,?_,?_,?_⟩,?_,?_,?_,?_,rfl,λb hb=>hb.1,λb hb=>hb.elim,λk h1 h2=>oM⟩;intro i op x h;simp at h;rintro said ⟨i,j,hij,⟨a,b,ha,hb,hc⟩,_⟩;exact(tZ ha).elim;intro i op h;simp at h;intro i a h;exact(tZ h).elim;intro i a h;exact(tZ h).elim;intro i a h;exact(tZ h).elim;intro i g h;simp[Trace.g?]at h;intro a i h;simp[Trace.act?]at h;rfl
theorem Qc{Post:ae->aa->Prop}{m m1:Machine}{t t1:Trace}(h:rC P m t m1 t1)(k:∃N last o w' t',runNT P (N+1) m1 t1=(.ended o w',t')/\runN P N m1=.next last/\step P last=.ended o w'/\Conc.Good P Post last o w' t'):
 ∃N last o w' t',runNT P (N+1) m t=(.ended o w',t')/\runN P N m=.next last/\step P last=.ended o w'/\Conc.Good P Post last o w' t':=by
 obtain⟨M,h⟩:=h;obtain⟨N,last,o,w',t',k1,k2,k3,k4⟩:=k;refine⟨M+N,last,o,w',t',?_,?_,k3,k4⟩;rw[Nat.add_assoc,runNT_add,h];exact k1;rw[<-runNT_fst _ _ _ t,runNT_add,h];show(runNT P N m1 t1).1=_;rw[runNT_fst];exact k2
end
open Go.Proofs.Tryz
open Go.Proofs.YtdhekhlmdefcnaaGreatDoor (pk vA pW)
theorem opA:∃o ats,oA[4]?=some o/\o.op=.call {callee:=.value (.func 6),args:=#[.tmp 32,.tmp 35],argTypes:=ats}/\o.dst=some 36/\∀y,Region.wanted o y=true:=⟨_,_,rfl,rfl,rfl,λ_=>rfl⟩
theorem Oh:∃o ats,oB[4]?=some o/\o.op=.call {callee:=.value (.func 6),args:=#[.tmp 40,.tmp 43],argTypes:=ats}/\o.dst=some 44/\∀y,Region.wanted o y=true:=⟨_,_,rfl,rfl,rfl,λ_=>rfl⟩
theorem Un:prog.inits.idxOf? 3=none:=kR
def AtRet(W:aa)(s:CS):Prop:=(∃T todo,s.g=Conc.G {(base 3).at ⟨T,[]⟩ todo with mode:=.returning} []/\T.size=92/\T[6]?=some (.bool true))/\Kept W s.w
theorem AtRet.at{W:aa}:∀s d,AtRet W s->AtRet W {s with w:=s.w.at d}:=λ_ d h=>⟨h.1,h.2.trans (Kept.at ⟨d,rfl⟩)⟩
theorem Xk{ops:Array Oper}{j d:Nat}{o:Oper}{r:List Nat}{k:List Item}(ho:ops[j]?=some o)(hd:o.dst=some d)(T:bw)(v:ae):((base 3).at ⟨T,[]⟩ (.inRegion ops (j::r)::k)).finish v=(base 3).at ⟨T.setIfInBounds d v,[]⟩ (.inRegion ops r::k):=by rw[Frame.finish_at,ho];simp[Act.put,hd]
def sH(S:cD)(W:aa)(n tc R:Nat)(ta:Option Addr)(ops:Array Oper)(c:Code)(ρ:Rn)(wL:aa)(q:bw->Prop)(s:CS):Prop:=
 (∃T,s.g=Conc.G (Frame.enter prog 6 #[.slice ta n tc,.int .i64 R] .normal) [(base 3).at ⟨T,[]⟩ (.inRegion ops [4,5,6,7,8,9]::[.code c])]/\T.size=92/\q T)/\FF S ρ wL W s.w/\s.T=Fu S s.w
theorem sH.at{S:cD}{W:aa}{n tc R:Nat}{ta:Option Addr}{ops:Array Oper}{c:Code}{ρ:Rn}{wL:aa}{q:bw->Prop}:∀s d,sH S W n tc R ta ops c ρ wL q s->sH S W n tc R ta ops c ρ wL q {s with w:=s.w.at d}:=λ_ d h=>⟨h.1,aO h.2.1 ⟨d,rfl⟩,h.2.2⟩
section
variable {S S':cD}{ρ:Rn}{wL w w':aa}
theorem Low.after(h:Low S ρ wL w)(hS:∀b,S' b↔S b\/b=w.heap.size+5\/b=w.heap.size+3)(old:∀b,b<w.heap.size->¬S b->w'.heap[b]?=w.heap[b]?)(ho:w'.os=w.os)(hs:w.heap.size+6<=w'.heap.size):Low S' ρ wL w':=by refine⟨ru h.wr (λb hb=>?_) ho oM,λb hb=>⟨by have:=(h.low b hb).1;omega,λhx=>?_⟩,λb hx=>?_,h.r,h.sp,h.env⟩;rcases hb with hb|hb|⟨x,hb⟩;exact old b (h.low b (.inl hb)).1 (h.low b (.inl hb)).2;exact old b (h.low b (.inr hb)).1 (h.low b (.inr hb)).2;exact absurd hb (h.r _ _);have hl:=h.low b hb;rcases(hS b).1 hx with hx|hx|hx;exact hl.2 hx;omega;omega;rcases(hS b).1 hx with hx|hx|hx;have:=h.sN b hx;omega;omega;omega
theorem Arg.kept{n:Nat}{ta:Option Addr}{txt:Nat->ay}(h:Arg S w n ta txt)(k:Kept w w'):Arg S w' n ta txt:=
 ⟨λi hi=>by
  obtain⟨a,h1,h2,h3,h4⟩:=h.el i hi;exact⟨a,h1,aT h2 k.size,h3,k.cell h4⟩⟩
theorem Arg.after{n:Nat}{ta:Option Addr}{txt:Nat->ay}(h:Arg S w n ta txt)(hS:∀b,S' b↔S b\/b=w.heap.size+5\/b=w.heap.size+3)(old:∀b,b<w.heap.size->¬S b->w'.heap[b]?=w.heap[b]?)(hs:w.heap.size+6<=w'.heap.size):Arg S' w' n ta txt:=
 ⟨λi hi=>by
  obtain⟨a,h1,h2,h3,h4⟩:=h.el i hi;refine⟨a,h1,oM,λhx=>?_,?_⟩;rcases(hS _).1 hx with hx|hx|hx;exact h3 hx;omega;omega
  ·rw[<-h4];unfold World.cell?;rw[Pr.add_block,old _ h2 h3]⟩
theorem NR{n:Nat}{ta:Option Addr}{txt:Nat->ay}(hl:Low S ρ wL w)(hA:Arg S w n ta txt)(hcon:zE ρ wL)(hn:n<=4)(ht:∀i,i<n->(txt i).size<=1000):Pre S w.heap.size n ta txt (λi=>pW (txt i)) ρ wL w:=
 ⟨rfl,hl.sN,oM,hA.el,hl.wr,hl.r,hl.low,hcon.ok 8 dC dC dC,hl.sp,hl.env,λi hi=>hcon.Vh (txt i) (ht i hi)⟩
end
theorem Uo{ρ:Rn}{wL W:aa}(hcon:zE ρ wL)(hlow:Low (λ_=>False) ρ wL W){n tc:Nat}{ta:Option Addr}{txt:Nat->ay}(hA:Arg (λ_=>False) W n ta txt)(a1 a2:Int):
 ∃m t s S T,rC prog (solo (Conc.G (Frame.enter prog 3 #[.slice ta n tc,.int .i64 a1,.int .i64 a2] .normal) []) W) #[] m t/\CM prog S T s.g s.w m t/\s.g.status=.running/\AtRet W s:=by
 obtain⟨p1,p2⟩:=vA a1 16 dC;obtain⟨p3,p4⟩:=vA a2 16 dC;obtain⟨R1,xM⟩:∃m:Nat,1+pk a1 16=(m:Int):=⟨(1+pk a1 16).toNat,oM⟩;obtain⟨R2,hR2⟩:∃m:Nat,1+pk a2 16=(m:Int):=⟨(1+pk a2 16).toNat,oM⟩;let Q1:bw->Prop:=λT=>T[0]?=some (.slice ta n tc)/\T[2]?=some (.int .i64 a2);let L1:CS->Prop:=λs=>AtRet W s\/(n<=4/\(∀i,i<n->(txt i).size<=1000)/\sH (λ_=>False) W n tc R1 ta oA p5 ρ wL Q1 s);have hL1:∀s d,L1 s->L1 {s with w:=s.w.at d}:=λs d h=>h.imp (AtRet.at s d) λh=>⟨h.1,h.2.1,sH.at s d h.2.2⟩;obtain⟨m,t,g,w1,T1,k1,k2,k3,k4⟩:=Qb.run hL1 (wA (tc:=tc) (a1:=a1) (a2:=a2) hL1 hA ⟨hlow,Kept.refl W⟩ (λT todo w hs t6 hF=>eO.stop rfl (.inl ⟨⟨T,todo,rfl,hs,t6⟩,hF.kept⟩)) λhn hl T w hs t0 t1 t2 hF=>by
  refine wB hL1 hcon xM (λT w hs t0 t2 t32 t35 hF=>?_) T w hs t0 t1 t2 hF;obtain⟨o,ats,h1,h2,h3,h4⟩:=opA;refine fG.step1 rfl λw2 hw=>?_;have hF2:=aO hF hw;rw[mS (f:=6) (xs:=#[.slice ta n tc,.int .i64 R1]) h1 (h4 _) (by k_ne) h2 func6 nm6 rfl (by simp[Act.eval,t32,t35])];exact⟨zcL,aj _,eO.stop rfl (.inr ⟨hn,hl,⟨T,rfl,hs,t0,t2⟩,hF2,rfl⟩)⟩)
 rcases k4 with k4|⟨hn,hl,⟨TT,hgg,hs,t0,t2⟩,hF,Zv⟩;exact⟨m,t,⟨g,w1,T1⟩,_,T1,k1,k2,k3,k4⟩
 replace hgg:g=_:=hgg;replace Zv:T1=Fu (λ_=>False) w1:=Zv;replace hF:FF (λ_=>False) ρ wL W w1:=hF;subst hgg Zv;have hA1:=hA.kept hF.kept;obtain⟨m',t',w',S',q1,q2,q3,q4,q5,q6,q7,q8,row,q9,q10,q11⟩:=Ng (tc:=tc) (NR hF.low hA1 hcon hn hl) oM oM (λb hb=>hb) k2;have hlow':=hF.low.after q3 q4 q5 q8;have hA':=hA1.after q3 q4 q8;obtain⟨o,ats,h1,h2,h3,h4⟩:=opA;rw[Xk h1 h3]at q2;let Q2:bw->Prop:=λT=>T[0]?=some (.slice ta n tc)/\T[8]?=some (.slice (some ⟨w1.heap.size+1,0,none⟩) n n)/\T[9]?=some .nilIface;obtain⟨m2,t2',g2,w2,T2,j1,j2,j3,⟨TV,hg2,hs2,u0,u8,u9⟩,hF2,vd⟩:=q2.run (L:=sH S' w' n tc R2 ta oB p6 ρ wL Q2) sH.at (wC (W:=w') (n:=n) (ta:=ta) (ρ:=ρ) (wL:=wL) (tc:=tc) (R:=R2) (bo:=w1.heap.size+1) sH.at hcon hR2 (λT w hs t0 t8 t9 t40 t43 hF=>by
  obtain⟨o,ats,h1,h2,h3,h4⟩:=Oh;refine fG.step1 rfl λw2 hw=>?_;have hF2:=aO hF hw;rw[mS (f:=6) (xs:=#[.slice ta n tc,.int .i64 R2]) h1 (h4 _) (by k_ne) h2 func6 nm6 rfl (by simp[Act.eval,t40,t43])];exact⟨zcL,aj _,eO.stop rfl ⟨⟨T,rfl,hs,t0,t8,t9⟩,hF2,rfl⟩⟩) _ w' (by simp[hs]) (by simp[t0]) (by simp[t2]) (by simp[hs]) ⟨hlow',Kept.refl _⟩)
 replace hg2:g2=_:=hg2;replace vd:T2=Fu S' w2:=vd;replace hF2:FF S' ρ wL w' w2:=hF2;subst hg2 vd;have hA2:=hA'.kept hF2.kept;obtain⟨m3,t3,w3,S3,r1,r2,r3,r4,r5,r6,r7,r8,El,r9,r10,r11⟩:=Ng (tc:=tc) (NR hF2.low hA2 hcon hn hl) oM oM (λb hb=>hb) j2;have Zw:=hF2.low.after r3 r4 r5 r8;have hA3:=hA2.after r3 r4 r8;obtain⟨o,ats,h1,h2,h3,h4⟩:=Oh;rw[Xk h1 h3]at r2;have hsz2:=hF2.kept.size;have nS1:¬S' (w1.heap.size+1):=λh=>by rcases(q3 _).1 h with h|h|h;exact h;omega;omega
 have nS2:¬S3 (w1.heap.size+1):=λh=>by rcases(r3 _).1 h with h|h|h;exact nS1 h;omega;omega
 have nS3:¬S3 (w2.heap.size+1):=λh=>by rcases(r3 _).1 h with h|h|h;have:=hF2.low.sN _ h;omega;omega;omega
 have Zx:w3.heap[w1.heap.size+1]?=some (.cells row 9 (0,0)):=(r4 _ oM nS1).trans (hF2.kept.heap q9);obtain⟨m4,t4,g4,w4,T4,l1,l2,l3,l4⟩:=r2.run (L:=AtRet w3) AtRet.at (wD (W:=w3) (ρ:=ρ) (wL:=wL) (tc:=tc) AtRet.at hcon hn hA3 hl Zx q11 nS2 r9 r11 nS3 (λT todo w hs t6 hF=>eO.stop rfl ⟨⟨T,todo,rfl,hs,t6⟩,hF.kept⟩) _ w3 (by simp[hs2]) (by simp[u0]) (by simp[u8]) (by simp[u9]) (by simp[hs2]) ⟨Zw,Kept.refl _⟩);have hk:Kept W w3:=by
  have hks:=hF.kept.size;refine⟨λb hb=>?_,r5.trans (hF2.kept.os.trans (q5.trans hF.kept.os)),r6.trans (hF2.kept.tape.trans (q6.trans hF.kept.tape)),r7.trans (hF2.kept.output.trans (q7.trans hF.kept.output)),oM⟩;have n1:¬S' b:=λh=>by rcases(q3 _).1 h with h|h|h;exact h;omega;omega
  exact(r4 b oM n1).trans ((hF2.kept.old b oM).trans ((q4 b oM λh=>h).trans (hF.kept.old b hb)))
 exact⟨m4,t4,⟨g4,w4,T4⟩,_,T4,(((k1.trans q1).trans j1).trans r1).trans l1,l2,l3,l4.1,hk.trans l4.2⟩
theorem Qd{ρ:Rn}{wL W:aa}(hcon:zE ρ wL)(hlow:Low (λ_=>False) ρ wL W){n tc:Nat}{ta:Option Addr}{txt:Nat->ay}(hA:Arg (λ_=>False) W n ta txt)(a1 a2:Int){Post:ae->aa->Prop}(hpost:∀w',Kept W w'->Post (.bool true) w'):
 ∃N last o w' t',runNT prog (N+1) (solo (Conc.G (Frame.enter prog 3 #[.slice ta n tc,.int .i64 a1,.int .i64 a2] .normal) []) W) #[]=(.ended o w',t')/\runN prog N (solo (Conc.G (Frame.enter prog 3 #[.slice ta n tc,.int .i64 a1,.int .i64 a2] .normal) []) W)=.next last/\
  step prog last=.ended o w'/\Conc.Good prog Post last o w' t':=by
 obtain⟨m,t,⟨g,w,T0⟩,S,T,h1,⟨n,gs,sl,Q,rfl,h3,h4⟩,h5,⟨TV,todo,h6,h7,h8⟩,h9⟩:=Uo (tc:=tc) hcon hlow hA a1 a2;have h6':g=_:=h6;subst h6';refine Qc h1 (Qa (v:=.bool true) h5 _ (Nat.lt_succ_self _) h4 h3 λw1 hw=>⟨?_,hpost _ (h9.trans (Kept.at hw))⟩);refine Ko (fn:=Tryz.f3) rfl rfl func3 Un ?_ (events_results_tmp rfl _ _);rw[results_tmp (t:=6) rfl];simp[h8]
end Go.Mx
