/- Part 5 of the proof. -/
import Derived.Test.YtdhekhlmdefcnaaGreatDoorPart4
import Derived.Laws.MakeOwn
import Derived.Conc.AppendWalk
import Derived.DuoClaim
import Derived.WalkKit
import Derived.Deep.Draws
import Derived.Deep.AppendLies
import Derived.Laws.Rows
import Derived.Laws.ResultCell
import Derived.Laws.Tables
import Derived.Maps.AppendAt
import Derived.Laws.AppendOwnNone
import Derived.Lib.Hide
import Derived.Test.YtdhekhlmdefcnaaGreatDoorRows
import Derived.RegionTactic
import Derived.BigRegion
import Derived.LoopTactic
import Derived.StillTailTactics
import Derived.Deep.QuietTactic
import Derived.BigQuiet
import Derived.Outline
import Derived.Deep.DeepFit
import Derived.Deep.DeepCutAuto
import Derived.Deep.RegionLaw
import Derived.DeepKeys
import Derived.Laws.StructEq
import Derived.WalkSpells
import Derived.Laws.Pointers
import Derived.ChangeAlike
set_option maxHeartbeats 16000000
set_option maxRecDepth 1000000
namespace Go
section
variable {p:Prop}
theorem zez(h:p:=by intro v3 w3 hown3 hgrow3 _;have hb3:Below w.heap.size w w3:=(hb2.alloc hb2.size _).grown hgrow3 (by have:=hb2.size;simp<;>omega) (λq hq=>(gq.out.lt q hq).1);have hk3:=(hb3.cell (p:=⟨b,0,none⟩) hb).trans hk;have lL:=hI hown3;clear hown3 hgrow3 hk2 hl2 gq hb2;go_wp2;go_ret;obtain⟨A,c,rfl,-⟩:=dQ lL.out;exact⟨⟨A,c,rfl,lL.out⟩,hb3⟩):p:=h
theorem zeA(h:p:=by simp<;>omega):p:=h
theorem zeB(h:p:=by simp[World.size_alloc]):p:=h
theorem zeC(h:p:=by go_ret;exact⟨_,rfl,⟨_,oM,rfl,Has.new' _ _ _ _ sM⟩,((Below.refl _ _).alloc (aj _) _).alloc sM _⟩):p:=h
theorem zeD(h:p:=by have hm:=mem_listed he;clear hKx;simp[go_sem,hld]at hm;exact⟨_,false,hm,.inr ⟨aj N,by show N<N+1;omega,by show N≠N+3;omega⟩⟩):p:=h
theorem zeE(h:p:=by have hm:=mem_listed he;clear hKx;simp[go_sem]at hm):p:=h
theorem zeF(h:p:=by obtain⟨b,o,hA,hb,hc⟩:=h (by rintro h0;rw[h0]at hk;simp at hk);exact⟨b,o,hA,hb,hc _ _ hk⟩):p:=h
theorem zeG(h:p:=by simp;omega):p:=h
theorem zeH(h:p:=by rw[hf.1];decide):p:=h
theorem zeI(h:p:=by go_num):p:=h
theorem zeJ(h:p:=by rw[cY _ HF.out.1];exact dh):p:=h
theorem zeK(h:p:=by exact IntWalk.i64_in _ oM):p:=h
theorem zeL(h:p:=by rintro rfl;rcases hp with hp|hp;exact hn hp;omega):p:=h
theorem zeM(h:p:=by rw[h.sz];omega):p:=h
theorem zeN(h:p:=by cases x<;>simp[rE]at hx;cases y<;>simp[rE]at hy;simpa[abw]using h1):p:=h
theorem zeO(h:p:=by have:a>>>k %2=0\/a>>>k %2=1:=oM;rcases this with h|h<;>simp[h]):p:=h
theorem zeP(h:p:=by go_ret;exact⟨_,rfl,rfl,(Below.refl _ _).alloc (aj _) _⟩):p:=h
theorem zeQ(h:p:=by rw[HT.out];unfold eQ.T;rw[hb];rfl):p:=h
theorem zeR(h:p:=by have hm:=mem_listed he;clear hKx;simp[go_sem,hmv]at hm):p:=h
theorem zeS(h:p:=by intro u hu;simp at hu;rcases hu with rfl|rfl<;>rfl):p:=h
theorem zeT(h:p:=by have:=x.2.1;omega):p:=h
theorem zeU(h:p:=by have:=(H1.out.lt q hq).1;omega):p:=h
theorem zeV(h:p:=by assumption):p:=h
theorem zeW(h:p:=by go_ret;exact⟨by rw[HM.out];rfl,HG.out▸hbr⟩):p:=h
theorem zeX(h:p:=by simp only[IntKind.bits];omega):p:=h
end
end Go
namespace Go.Mx
open Go Go.Conc Go.Conc.Lib Go.ConcN.Gen Go.ConcR.Gen Go.Pr Go.Proofs Go.Proofs.Tryz Go.RowKit
open Go.ConcN (WgLive)
open Go.ConcR (DC0 KK WgAt mk rd smA stA wr)
def AtR(w w1:aa):Prop:=∃d,w1=w.at d
theorem AtR.refl(w:aa):AtR w w:=⟨w.drawn,rfl⟩
theorem AtR.trans{a b c:aa}(h:AtR a b)(k:AtR b c):AtR a c:=by obtain⟨d,rfl⟩:=h;obtain⟨e,rfl⟩:=k;exact⟨e,rfl⟩
theorem Same.cell{w0 w:aa}(h:Same w0 w)(a:Addr):w.cell? a=w0.cell? a:=by unfold World.cell?;rw[h.heap]
theorem Same.frozen{w0 w:aa}(h:Same w0 w)(a:Addr):w.frozen? a=w0.frozen? a:=by unfold World.frozen?;rw[h.heap]
theorem Same.alloc{w0 w:aa}(h:Same w0 w)(o:Obj):Same (w0.alloc o) (w.alloc o):=⟨by show w.heap.push o=w0.heap.push o;rw[h.heap],h.os,h.tape,h.output⟩
theorem Same.set{w0 w:aa}(h:Same w0 w)(a:Addr)(v:ae):Same (w0.setCell a v) (w.setCell a v):=by have h1:=aside_setCell w0 a v;have h2:=aside_setCell w a v;refine⟨?_,h2.os.trans (h.os.trans h1.os.symm),h2.tape.trans (h.tape.trans h1.tape.symm),h2.output.trans (h.output.trans h1.output.symm)⟩;unfold World.setCell;simp only[h.heap]
section
variable {P:aF}{S:cD}{L:CS->Prop}{T:cD}
theorem eO.running{s:CS}(h:eO P S L s):s.g.status=.running:=by
 obtain⟨r,h⟩:=h;cases r with
 |leaf=>exact h.1
 |node f=>exact h.1
theorem eO.walk{n:Nat}{g:aG}{w:aa}(hT:∀b,T b->b<w.heap.size/\¬S b)(_:∀s d,L s->L {s with w:=s.w.at d})(h:Conc.Goes P true AtR DC0 (λg w=>eO P S L ⟨g,w,T⟩) n g w):eO P S L ⟨g,w,T⟩:=by
 induction n generalizing g w with
 |zero=>exact h w (AtR.refl w)
 |succ n ih=>
  rcases h with h|⟨hs,h⟩;exact h w (AtR.refl w)
  ·refine eO.act hs λd=>?_;have k:=h (w.at d) ⟨d,rfl⟩;generalize e:stepG P true g (w.at d)=r at k;cases r with
   |go g' w' es=>obtain⟨⟨e1,e2⟩,k2⟩:=k;subst e1 e2;exact⟨g',w.at d,#[],T,rfl,by intro e he;simp at he,λ_ h=>h,hT,aj _,ih (w:=w.at d) hT k2⟩
   |_=>exact k.elim
theorem eO.step1{T':cD}{g:aG}{w:aa}(hs:g.status=.running)(hT:∀b,T b->T' b)(h:∀w1,AtR w w1->(stepG P true g w1).goes λg' w' es=>(∀e∈es,∃(a:Addr)(wr:Bool),e=⟨.cell a,wr,false⟩/\T' a.block)/\(∀b,T' b->b<w'.heap.size/\¬S b)/\w1.heap.size<=w'.heap.size/\eO P S L ⟨g',w',T'⟩):eO P S L ⟨g,w,T⟩:=by
 refine eO.act hs λd=>?_;have k:=h (w.at d) ⟨d,rfl⟩;generalize e:stepG P true g (w.at d)=r at k;cases r with
 |go g' w' es=>
  obtain⟨k1,k2,k3,k4⟩:=k;refine⟨g',w',es,T',rfl,λx hx=>?_,hT,k2,k3,k4⟩;obtain⟨a,wr,rfl,ha⟩:=k1 x hx;refine⟨λm hm=>(by cases hm),λx hx _=>?_⟩;have hx':x=⟨.cell a,wr,.plain⟩:=by cases wr<;>simp[MemAct.ofEvent,MemAct.touch?]at hx<;>exact hx.symm
  subst hx';exact⟨rfl,a.block,rfl,.inl ha⟩
 |_=>exact k.elim
end
structure AC(W w:aa)(N:Nat)(bs:List Obj):Prop where
 sz:W.heap.size=N
 heap:w.heap=W.heap++bs.toArray
 os:w.os=W.os
 tape:w.tape=W.tape
 output:w.output=W.output
section
variable {W w w1:aa}{N:Nat}{bs:List Obj}
theorem AC.start(W:aa):AC W W W.heap.size []:=⟨rfl,sM,rfl,rfl,rfl⟩
theorem AC.rely(h:AC W w N bs)(r:AtR w w1):AC W w1 N bs:=by obtain⟨d,rfl⟩:=r;exact⟨h.sz,h.heap,h.os,h.tape,h.output⟩
theorem AC.size(h:AC W w N bs):w.heap.size=N+bs.length:=by rw[h.heap];simp[h.sz]
theorem AC.alloc(h:AC W w N bs)(o:Obj):AC W (w.alloc o) N (bs++[o]):=by refine⟨h.sz,?_,h.os,h.tape,h.output⟩;show w.heap.push o=_;rw[h.heap];simp
theorem AC.get(h:AC W w N bs){k:Nat}{o:Obj}(hk:bs[k]?=some o):w.heap[N+k]?=some o:=by rw[h.heap,Array.getElem?_append_right zeM,h.sz];simpa using hk
theorem AC.old(h:AC W w N bs){b:Nat}(hb:b<N):w.heap[b]?=W.heap[b]?:=by rw[h.heap,Array.getElem?_append_left (by rw[h.sz];exact hb)]
theorem AC.cell(h:AC W w N bs){k:Nat}{c:bw}{e:aw}{fr:Nat×Nat}(hk:bs[k]?=some (.cells c e fr))(i:Nat):w.cell? ⟨N+k,i,none⟩=c[i]?:=by unfold World.cell?;rw[h.get hk];rfl
theorem AC.set(h:AC W w N bs){k:Nat}{c:bw}{e:aw}(hk:bs[k]?=some (.cells c e (0,0)))(i:Nat)(v:ae):AC W (w.setCell ⟨N+k,i,none⟩ v) N (bs.set k (.cells (c.setIfInBounds i v) e (0,0))):=by have hA:=aside_setCell w ⟨N+k,i,none⟩ v;refine⟨h.sz,?_,hA.os.trans h.os,hA.tape.trans h.tape,hA.output.trans h.output⟩;have hl:k<bs.length:=(aX.1 hk).1;apply Array.ext';apply List.ext_getElem?;intro j;rw[Array.getElem?_toList,Array.getElem?_toList];by_cases e1:j=N+k;subst e1;rw[setCell_eq_setRow w (N+k) i c _ (0,0) _ (h.get hk),setRow_heap w (N+k) _ _ _ _ (h.get hk),Array.getElem?_append_right zeM,h.sz];simp[hl];rw[hA.block j e1,h.heap];by_cases e2:j<N;rw[Array.getElem?_append_left (by rw[h.sz];exact e2),Array.getElem?_append_left (by rw[h.sz];exact e2)];rw[Array.getElem?_append_right zeM,Array.getElem?_append_right zeM,h.sz];simp only[ba];rw[List.getElem?_set_ne oM]
theorem AC.frozen(h:AC W w N bs){k:Nat}{c:bw}{e:aw}(hk:bs[k]?=some (.cells c e (0,0)))(i:Nat):w.frozen? ⟨N+k,i,none⟩=false:=by unfold World.frozen?;rw[h.get hk];simp
def TT(T:cD)(N k:Nat):Nat->Prop:=λb=>T b\/(N<=b/\b<N+k/\b≠N+3)
theorem TT.up(T:cD)(N:Nat){k k':Nat}(h:k<=k'){b:Nat}(hb:TT T N k b):TT T N k' b:=hb.imp id λ⟨h1,h2,h3⟩=>⟨h1,oM,h3⟩
theorem TT.ok{T S:cD}{k:Nat}(hT:∀b,T b->b<N/\¬S b)(hS:∀b,S b->b<N)(h:AC W w N bs)(hk:k<=bs.length):∀b,TT T N k b->b<w.heap.size/\¬S b:=λb hb=>by rw[h.size];rcases hb with hb|⟨h1,h2,h3⟩;exact⟨by have:=(hT b hb).1;omega,(hT b hb).2⟩;exact⟨oM,λe=>by have:=hS b e;omega⟩
end
theorem i9:(prog.info? 9).map (λi=>(i.zero,i.bytes,i.size))=some (some (.string ⟨#[]⟩),16,1):=kR
theorem Oo(w:aa)(n:Nat)(hn:n<=55):(Instr.makeSlice 22 (.int .i64 n) (.int .i64 n)).run prog w=.ok (.slice (some ⟨w.heap.size,0,none⟩) n n) (w.alloc (.cells (Array.replicate n (.string ⟨#[]⟩)) 9)):=by
 obtain⟨i,hi,e⟩:=bQ.1 i9;simp only[Prod.mk.injEq]at e;obtain⟨hz,hb,hs⟩:=e;have h:=run_makeSlice (P:=prog) w 22 9 i (.string ⟨#[]⟩) underlying22 hi hz .i64 .i64 n n oM (Int.le_refl _) (by rw[hs];omega) (by rw[hb];omega) oM;have e:madeCells (Value.string ⟨#[]⟩).cells n=Array.replicate n (.string ⟨#[]⟩):=by apply Array.ext;simp[size_madeCells];intro j h1 h2;simp[madeCells,Value.cells,Nat.mod_one]
 rw[h];simp only[cg,hs,Nat.mul_one,e]
theorem Rj(w:aa)(n:Nat)(hn:n<=55)(es:Array Event):(Instr.makeSlice 22 (.int .i64 n) (.int .i64 n)).events prog w es=es:=by obtain⟨i,hi,e⟩:=bQ.1 i9;simp only[Prod.mk.injEq]at e;obtain⟨hz,hb,hs⟩:=e;exact Go.Conc.events_make (P:=prog) w 22 9 i (.string ⟨#[]⟩) underlying22 hi hz .i64 .i64 n n oM (Int.le_refl _) (by rw[hb];omega) oM (by rw[hb];omega) es
theorem i3:(prog.info? 3).map (λi=>i.bytes)=some 8:=kR
theorem Oq(w:aa):(Instr.makeChan 35 (.int .i64 0)).run prog w=.ok (.chan (some w.heap.size)) (w.alloc (.chan 0 #[] false 0 0 false)):=by obtain⟨i,hi,e⟩:=bQ.1 i3;exact run_makeChan underlying35 hi .i64 0 oM (by rw[e];omega)
theorem Rl(w:aa)(es:Array Event):(Instr.makeChan 35 (.int .i64 0)).events prog w es=es:=by obtain⟨i,hi,e⟩:=bQ.1 i3;exact events_makeChan underlying35 hi .i64 0 oM (by rw[e];omega) es
def bs6(N n:Nat)(ta:Option Addr)(tc:Nat):List Obj:=[.cells #[.slice ta n tc] 22,.cells (Array.replicate n (.string ⟨#[]⟩)) 9,.cells #[.slice (some ⟨N+1,0,none⟩) n n] 22,.chan 0 #[] false 0 0 false,.cells #[.chan (some (N+3))] 35,.cells #[.int .u64 0,.int .u32 0] 45]
section
variable {S:cD}{L:CS->Prop}{T:cD}{cs:List Frame}
theorem aap(hL:∀s d,L s->L {s with w:=s.w.at d}){n R N:Nat}(hn:n<=50)(xM:1<=R)(hR:R<=16)(ta:Option Addr)(tc:Nat)(W:aa)(hN:W.heap.size=N)(hT:∀b,T b->b<N/\¬S b)(hSb:∀b,S b->b<N)
 (hend:∀(T1:bw)(w1:aa),T1.size=43->T1[1]?=some (.int .i64 R)->T1[2]?=some (pT N 0)->T1[6]?=some (pT (N+2) 0)->T1[7]?=some (pT (N+4) 0)->T1[8]?=some (pT (N+5) 0)->AC W w1 N (bs6 N n ta tc)->eO prog S L ⟨Conc.G ((base 6).at ⟨T1,[]⟩ [.code r6]) cs,w1,TT T N 5⟩):
 eO prog S L ⟨Conc.G (Frame.enter prog 6 #[.slice ta n tc,.int .i64 R] .normal) cs,W,T⟩:=by
 rw[enter_at (c:=rz) _ func6 rfl];have hF:AC W W N []:=hN▸AC.start W;have q1:¬(50:Int)<(n:Int):=oM;have q2:¬(R:Int)<1:=oM;have q3:¬(16:Int)<(R:Int):=oM;have q4:(0:Int)<=(n:Int):=oM;refine eO.walk (n:=30) (λb hb=>by rw[hN];exact hT b hb) hL ?_;simp only[rz,Tryz.f6,br];generalize hrr:(Code.seq (Code.seq (Code.region 6 _ false) _) _)=rr;walk_nrm;u_c stepG_seq AC.rely hF;u_reg AC.rely hF;refine Goes.stop (λw1 h1=>?_);replace hF:=hF.rely h1;clear h1;refine eO.step1 (T':=TT T N 1) rfl (λb hb=>.inl hb) (λw2 h2=>?_);replace hF:=hF.rely h2;clear h2;refine goes_oper_k rfl rfl (by k_ne) (λKx hKx=>?_);have hsz:=hF.size;simp only[cX]at hsz;go_simp;try rw[hsz]
 have hF':=hF.alloc (.cells #[.slice ta n tc] 22);simp only[List.nil_append]at hF';refine hKx _ _ ⟨λe he=>?_,TT.ok hT hSb hF' sM,zeB,?_⟩;exact zeE;clear hKx Kx hsz;replace hF:=hF';clear hF';refine eO.walk (n:=40) (TT.ok hT hSb hF sM) hL ?_;try walk_nrm
 u_op AC.rely hF;u_op AC.rely hF;u_c stepG_region_end AC.rely hF;u_c stepG_seq AC.rely hF;u_c stepG_seq AC.rely hF;u_reg AC.rely hF;refine Goes.stop (λw1 h1=>?_);replace hF:=hF.rely h1;clear h1;refine eO.step1 (T':=TT T N 1) rfl (λb hb=>hb.elim .inl (λx=>.inr ⟨x.1,zeT,x.2.2⟩)) (λw2 h2=>?_);replace hF:=hF.rely h2;clear h2;refine goes_oper_k rfl rfl (by k_ne) (λKx hKx=>?_);have hsz:=hF.size;simp only[bN,cX,cG]at hsz;have hld:=hF.cell (k:=0) rfl 0;simp only[Nat.add_zero]at hld;have hld:w2.cell? ⟨N,0,none⟩=some (.slice ta n tc):=hld;go_simp;have hF':=hF;refine hKx _ _ ⟨λe he=>?_,TT.ok hT hSb hF' sM,zeB,?_⟩;exact zeD;clear hKx Kx hsz hld;replace hF:=hF';clear hF';refine eO.walk (n:=40) (TT.ok hT hSb hF sM) hL ?_;try walk_nrm
 u_op AC.rely hF;u_op AC.rely hF;u_op AC.rely hF;u_op AC.rely hF;u_op AC.rely hF;u_op AC.rely hF;u_op AC.rely hF;u_op AC.rely hF;u_op AC.rely hF;u_op AC.rely hF;u_c stepG_region_end AC.rely hF;u_cond false AC.rely hF;u_c stepG_skip AC.rely hF;u_c stepG_seq AC.rely hF;u_reg AC.rely hF;refine Goes.stop (λw1 h1=>?_);replace hF:=hF.rely h1;clear h1;refine eO.step1 (T':=TT T N 1) rfl (λb hb=>hb.elim .inl (λx=>.inr ⟨x.1,zeT,x.2.2⟩)) (λw2 h2=>?_);replace hF:=hF.rely h2;clear h2;refine goes_oper_k rfl rfl (by k_ne) (λKx hKx=>?_);have hsz:=hF.size;simp only[bN,cX,cG]at hsz;have hld:=hF.cell (k:=0) rfl 0;simp only[Nat.add_zero]at hld;have hld:w2.cell? ⟨N,0,none⟩=some (.slice ta n tc):=hld;go_simp;have hF':=hF;refine hKx _ _ ⟨λe he=>?_,TT.ok hT hSb hF' sM,zeB,?_⟩;exact zeD;clear hKx Kx hsz hld;replace hF:=hF';clear hF';refine eO.walk (n:=40) (TT.ok hT hSb hF sM) hL ?_;try walk_nrm
 u_op AC.rely hF;refine Goes.stop (λw1 h1=>?_);replace hF:=hF.rely h1;clear h1;refine eO.step1 (T':=TT T N 2) rfl (λb hb=>hb.elim .inl (λx=>.inr ⟨x.1,zeT,x.2.2⟩)) (λw2 h2=>?_);replace hF:=hF.rely h2;clear h2;refine goes_oper_k rfl rfl (by k_ne) (λKx hKx=>?_);have hsz:=hF.size;simp only[bN,cX,cG]at hsz;have hmk:=Oo w2 n oM;have hmv:=Rj w2 n oM;go_simp;try rw[hsz]
 have hF':=hF.alloc (.cells (Array.replicate n (.string ⟨#[]⟩)) 9);simp only[List.cons_append,List.nil_append]at hF';refine hKx _ _ ⟨λe he=>?_,TT.ok hT hSb hF' sM,zeB,?_⟩;exact zeR;clear hKx Kx hsz hmk hmv;replace hF:=hF';clear hF';refine eO.walk (n:=40) (TT.ok hT hSb hF sM) hL ?_;try walk_nrm
 refine Goes.stop (λw1 h1=>?_);replace hF:=hF.rely h1;clear h1;refine eO.step1 (T':=TT T N 3) rfl (λb hb=>hb.elim .inl (λx=>.inr ⟨x.1,zeT,x.2.2⟩)) (λw2 h2=>?_);replace hF:=hF.rely h2;clear h2;refine goes_oper_k rfl rfl (by k_ne) (λKx hKx=>?_);have hsz:=hF.size;simp only[bN,cX,Nat.reduceAdd,cG]at hsz;go_simp;try rw[hsz]
 have hF':=hF.alloc (.cells #[.slice none 0 0] 22);simp only[List.cons_append,List.nil_append]at hF';refine hKx _ _ ⟨λe he=>?_,TT.ok hT hSb hF' sM,zeB,?_⟩;exact zeE;clear hKx Kx hsz;replace hF:=hF';clear hF';refine eO.walk (n:=40) (TT.ok hT hSb hF sM) hL ?_;try walk_nrm
 refine Goes.stop (λw1 h1=>?_);replace hF:=hF.rely h1;clear h1;refine eO.step1 (T':=TT T N 3) rfl (λb hb=>hb.elim .inl (λx=>.inr ⟨x.1,zeT,x.2.2⟩)) (λw2 h2=>?_);replace hF:=hF.rely h2;clear h2;refine goes_oper_k rfl rfl (by k_ne) (λKx hKx=>?_);have hsz:=hF.size;simp only[bN,cX,Nat.reduceAdd,cG]at hsz;have hld:=hF.cell (k:=2) rfl 0;have hlf:=hF.frozen (k:=2) rfl 0;have hld:w2.cell? ⟨N+2,0,none⟩=some (.slice none 0 0):=hld;have hse:=λes=>events_store prog w2 es ⟨N+2,0,none⟩ (.slice (some ⟨N+1,0,none⟩) n n) .plain rfl;go_simp;have hF':=hF.set (k:=2) rfl 0 (.slice (some ⟨N+1,0,none⟩) n n);simp only[aI,aH]at hF';refine hKx _ _ ⟨λe he=>?_,TT.ok hT hSb hF' sM,zeB,?_⟩
 ·have hm:=mem_listed he;clear hKx;simp[go_sem,hld,hlf,hse]at hm;exact⟨_,true,hm,.inr ⟨by show N<=N+2;omega,by show N+2<N+3;omega,by show N+2≠N+3;omega⟩⟩
 clear hKx Kx hsz hld hlf hse;replace hF:=hF';clear hF';refine eO.walk (n:=40) (TT.ok hT hSb hF sM) hL ?_;try walk_nrm
 u_c stepG_region_end AC.rely hF;u_c stepG_seq AC.rely hF;u_reg AC.rely hF;refine Goes.stop (λw1 h1=>?_);replace hF:=hF.rely h1;clear h1;refine eO.step1 (T':=TT T N 3) rfl (λb hb=>hb.elim .inl (λx=>.inr ⟨x.1,zeT,x.2.2⟩)) (λw2 h2=>?_);replace hF:=hF.rely h2;clear h2;refine goes_oper_k rfl rfl (by k_ne) (λKx hKx=>?_);have hsz:=hF.size;simp only[bN,cX,Nat.reduceAdd,cG]at hsz;have hmk:=Oq w2;have hmv:=Rl w2;go_simp;try rw[hsz]
 have hF':=hF.alloc (.chan 0 #[] false 0 0 false);simp only[List.cons_append,List.nil_append]at hF';refine hKx _ _ ⟨λe he=>?_,TT.ok hT hSb hF' sM,zeB,?_⟩;exact zeR;clear hKx Kx hsz hmk hmv;replace hF:=hF';clear hF';refine eO.walk (n:=40) (TT.ok hT hSb hF sM) hL ?_;try walk_nrm
 refine Goes.stop (λw1 h1=>?_);replace hF:=hF.rely h1;clear h1;refine eO.step1 (T':=TT T N 5) rfl (λb hb=>hb.elim .inl (λx=>.inr ⟨x.1,zeT,x.2.2⟩)) (λw2 h2=>?_);replace hF:=hF.rely h2;clear h2;refine goes_oper_k rfl rfl (by k_ne) (λKx hKx=>?_);have hsz:=hF.size;simp only[bN,cX,Nat.reduceAdd,cG]at hsz;go_simp;try rw[hsz]
 have hF':=hF.alloc (.cells #[.chan none] 35);simp only[List.cons_append,List.nil_append]at hF';refine hKx _ _ ⟨λe he=>?_,TT.ok hT hSb hF' sM,zeB,?_⟩;exact zeE;clear hKx Kx hsz;replace hF:=hF';clear hF';refine eO.walk (n:=40) (TT.ok hT hSb hF sM) hL ?_;try walk_nrm
 refine Goes.stop (λw1 h1=>?_);replace hF:=hF.rely h1;clear h1;refine eO.step1 (T':=TT T N 5) rfl (λb hb=>hb.elim .inl (λx=>.inr ⟨x.1,zeT,x.2.2⟩)) (λw2 h2=>?_);replace hF:=hF.rely h2;clear h2;refine goes_oper_k rfl rfl (by k_ne) (λKx hKx=>?_);have hsz:=hF.size;simp only[bN,cX,Nat.reduceAdd,cG]at hsz;have hld:=hF.cell (k:=4) rfl 0;have hlf:=hF.frozen (k:=4) rfl 0;have hld:w2.cell? ⟨N+4,0,none⟩=some (.chan none):=hld;have hse:=λes=>events_store prog w2 es ⟨N+4,0,none⟩ (.chan (some (N+3))) .plain rfl;go_simp;have hF':=hF.set (k:=4) rfl 0 (.chan (some (N+3)));simp only[aI,aH]at hF';refine hKx _ _ ⟨λe he=>?_,TT.ok hT hSb hF' sM,zeB,?_⟩
 ·have hm:=mem_listed he;clear hKx;simp[go_sem,hld,hlf,storedEv]at hm;exact⟨_,true,hm,.inr ⟨by show N<=N+4;omega,by show N+4<N+5;omega,by show N+4≠N+3;omega⟩⟩
 clear hKx Kx hsz hld hlf hse;replace hF:=hF';clear hF';refine eO.walk (n:=40) (TT.ok hT hSb hF sM) hL ?_;try walk_nrm
 u_c stepG_region_end AC.rely hF;u_c stepG_seq AC.rely hF;u_reg AC.rely hF;refine Goes.stop (λw1 h1=>?_);replace hF:=hF.rely h1;clear h1;refine eO.step1 (T':=TT T N 5) rfl (λb hb=>hb.elim .inl (λx=>.inr ⟨x.1,zeT,x.2.2⟩)) (λw2 h2=>?_);replace hF:=hF.rely h2;clear h2;refine goes_oper_k rfl rfl (by k_ne) (λKx hKx=>?_);have hsz:=hF.size;simp only[bN,cX,Nat.reduceAdd,cG]at hsz;go_simp;try rw[hsz]
 have hF':=hF.alloc (.cells #[.int .u64 0,.int .u32 0] 45);simp only[List.cons_append,List.nil_append]at hF';refine hKx _ _ ⟨λe he=>?_,TT.ok hT hSb hF' sM,zeB,?_⟩;exact zeE;clear hKx Kx hsz;replace hF:=hF';clear hF';refine eO.walk (n:=40) (TT.ok hT hSb hF sM) hL ?_;try walk_nrm
 u_c stepG_region_end AC.rely hF;refine Goes.stop (λw1 h1=>?_);replace hF:=hF.rely h1;subst hrr;exact hend _ w1 sM sM sM sM sM sM hF
end
section
variable {S:cD}{L:CS->Prop}{T:cD}{c:Frame}{cs:List Frame}
theorem Vg{P:aF}{main:Bool}{b:Frame}{a:Act}{w:aa}{fn:Func}{todo:List Item}{t u:Tmp}(hn:b.kind=.normal)(hd:a.defers=[])(hf:P.funcs[b.fn]?=some fn)(hr:fn.results= #[.tmp t,.tmp u]):
 stepG P main (Conc.G {b.at a todo with mode:=.returning} (c::cs)) w=.go (Conc.G (c.finish (.tuple #[a.tmps.getD t undef,a.tmps.getD u undef])) cs) w #[]:=
 stepG_leave hn hd hf (results_tmp2 hr _ P w) (events_results_tmp2 hr _ _)
theorem aaq(hL:∀s d,L s->L {s with w:=s.w.at d}){D:Dat}{v:ae}{g:aG}{w:aa}(hg:rB D (c::cs) g)(hT:∀b,T b->b<w.heap.size/\¬S b)(hTb:T D.bo)(hv:w.cell? ⟨D.bo,0,none⟩=some v)
 (hend:∀w1,AtR w w1->eO prog S L ⟨Conc.G (c.finish (.tuple #[v,.nilIface])) cs,w1,T⟩):eO prog S L ⟨g,w,T⟩:=by
 obtain⟨TV,hs,t6,hgo⟩:=hg;refine eO.walk (n:=40) hT hL (hgo AtR _ (AtR w) (λh r=>h.trans r) (λw1 hF=>?_) w (AtR.refl w));clear hgo;obtain⟨v0,v1,v2,v3,v4,v5,v6,v7,v8,v9,v10,v11,v12,v13,v14,v15,v16,v17,v18,v19,v20,v21,v22,v23,v24,v25,v26,v27,v28,v29,v30,v31,v32,v33,v34,v35,v36,v37,v38,v39,v40,v41,v42,rfl⟩:=mq TV hs;simp only[ba,aY,bf,bq]at t6;subst t6;have Yc:∀w1,AtR w w1->∀b,T b->b<w1.heap.size/\¬S b:=λw1 ⟨d,e⟩=>by subst e;exact hT
 refine eO.walk (n:=40) (Yc _ hF) hL ?_;simp only[e6,w6,c6,s6,r6,rz,Tryz.f6,br,fR,jQ,rA];u_c stepG_region_end AtR.trans hF;u_c stepG_seq AtR.trans hF;u_reg AtR.trans hF;refine Goes.stop (λw2 h2=>?_);replace hF:=hF.trans h2;clear h2;refine eO.step1 (T':=T) rfl (λb hb=>hb) (λw3 h3=>?_);replace hF:=hF.trans h3;clear h3;refine goes_oper_k rfl rfl (by k_ne) (λKx hKx=>?_);have hld:w3.cell? ⟨D.bo,0,none⟩=some v:=by obtain⟨d,rfl⟩:=hF;exact hv
 go_simp;refine hKx _ _ ⟨λe he=>?_,Yc _ hF,aj _,?_⟩
 ·have hm:=mem_listed he;clear hKx;simp[go_sem,hld]at hm;exact⟨_,false,hm,hTb⟩
 clear hKx Kx hld;refine eO.walk (n:=40) (Yc _ hF) hL ?_;try walk_nrm
 u_op AtR.trans hF;u_op AtR.trans hF;u_c stepG_region_end AtR.trans hF;u_c stepG_ret' AtR.trans hF;refine Goes.step rfl (λw4 h4=>?_);replace hF:=hF.trans h4;clear h4;rw[Vg rfl rfl func6 rfl];simp only[goes_go];refine⟨by u_nil,?_⟩;refine Goes.stop (λw5 h5=>?_);simpa using hend w5 (hF.trans h5)
end
open Go.ConcN (sumTo)
def rC(P:aF)(m:Machine)(t:Trace)(m':Machine)(t':Trace):Prop:=∃N,runNT P N m t=(.next m',t')
theorem rC.refl(P:aF)(m:Machine)(t:Trace):rC P m t m t:=⟨0,rfl⟩
theorem rC.trans{P:aF}{m m1 m2:Machine}{t t1 t2:Trace}(h:rC P m t m1 t1)(k:rC P m1 t1 m2 t2):rC P m t m2 t2:=by obtain⟨a,h⟩:=h;obtain⟨b,k⟩:=k;exact⟨a+b,by rw[runNT_add,h];exact k⟩
def CM(P:aF)(S T:cD)(g:aG)(w:aa)(m:Machine)(t:Trace):Prop:=∃n gs sl Q,m=crowd gs w sl/\gs[0]?=some g/\Calm P S T n gs w t Q
theorem CM.run{P:aF}{S T:cD}{g:aG}{w:aa}{m:Machine}{t:Trace}{L:CS->Prop}(hL:∀s d,L s->L {s with w:=s.w.at d})(h:CM P S T g w m t)(hb:eO P S L ⟨g,w,T⟩):
 ∃m' t' g' w' T',rC P m t m' t'/\CM P S T' g' w' m' t'/\g'.status=.running/\L ⟨g',w',T'⟩:=by
 obtain⟨n,gs,sl,Q,rfl,h2,h3⟩:=h;obtain⟨r,hb⟩:=hb;obtain⟨N,gs',w',sl',t',T',Q',a',k1,k2,k3,k4,k5⟩:=N9 hL r _ (sl:=sl) (aj _) h3 h2 hb;exact⟨_,t',a',w',T',⟨N,k1⟩,⟨n,gs',sl',Q',rfl,k2,k3⟩,k4,k5⟩
theorem CM.round{P:aF}{S0 T0 S:cD}{G:Geo}{Fin:aG->Prop}{a:aG}{w:aa}{m:Machine}{t:Trace}{R:Nat}(h:CM P S0 T0 a w m t)(hS:∀b,S b↔S0 b\/b=G.Wg\/b=G.Ch)(UW:ri G S)(hT:¬T0 G.Wg/\¬T0 G.Ch)(hS0:¬S0 G.Wg/\¬S0 G.Ch)
 (hwg:WgAt G.ty G.Wg w 0 0)(hrow:fA G w)(hch:∃s r,w.heap[G.Ch]?=some (.chan 0 #[] false s r false))(hbase:∀b,G.base b->b<w.heap.size)(xM:1<=R)(hR:R<2147483647)(hb:dc G P Fin ⟨.sp R false,0,a,w⟩):
 ∃m' t' g' w',rC P m t m' t'/\CM P S (λb=>b<w'.heap.size/\¬S b) g' w' m' t'/\Fin g'/\Rel G (λ_=>False) w w'/\fA G w'/\∀x,x<G.N->w'.cell? (dE G x)=some (G.ans x):=by
 obtain⟨n,gs,sl,Q,rfl,h2,h3⟩:=h;obtain⟨rm,hb⟩:=hb;obtain⟨N,m',t',k1,n',gs',w',sl',Q',a',rfl,k3,k4,k5,k6,k7,k8,k9⟩:=Fx h3 h2 hS UW hT hS0 hwg hrow hch hbase xM hR hb sl;exact⟨_,t',a',w',⟨N,k1⟩,⟨n',gs',sl',Q',rfl,k3,k6⟩,k5,k7,k8,k9⟩
def Rm(S:cD)(N n:Nat)(ans:Nat->ay):Geo where
 base b:=b<N+6/\b≠N+1/\b≠N+3/\b≠N+5/\¬S b
 Wg:=N+5
 Ch:=N+3
 O:=N+1
 N:=n
 ty:=45
 ZR:=9
 z:=.int .i64 0
 zs:=.tuple #[]
 ans i:=.string (ans i)
def WQ(N:Nat)(ta:Option Addr)(tc:Nat)(txt:Nat->ay)(ρ:Rn)(wL:aa):Dat:=⟨N+4,N,N+2,ta,tc,txt,ρ,wL⟩
section
variable {S T:cD}{c:Frame}{cs:List Frame}
structure Pre(S:cD)(N n:Nat)(ta:Option Addr)(txt ans:Nat->ay)(ρ:Rn)(wL W:aa):Prop where
 sz:W.heap.size=N
 sN:∀b,S b->b<N
 n50:n<=50
 el:∀i,i<n->∃a,ta=some a/\a.block<N/\¬S a.block/\W.cell? (a.add i)=some (.string (txt i))
 wr:WR prog ρ wL W
 r:∀x y,¬ρ.r x y
 low:∀b,ρ.K b\/ρ.T b->b<N/\¬S b
 ok:ρ.ok 8
 sp:∀f,¬ρ.sp f
 env:∃Sx,Env prog ρ Sx
 Vh:∀i,i<n->∀T,Calls prog 8 #[.string (txt i)] (on wL T) λe _=>∃v,e=.returned v/\v=.string (ans i)
theorem Ng{N n R:Nat}{ta:Option Addr}{tc:Nat}{txt ans:Nat->ay}{ρ:Rn}{wL W:aa}(hp:Pre S N n ta txt ans ρ wL W)(xM:1<=R)(hR:R<=16){m:Machine}{t:Trace}
 (hT:∀b,T b->b<N/\¬S b)(hc:CM prog S T (Conc.G (Frame.enter prog 6 #[.slice ta n tc,.int .i64 R] .normal) (c::cs)) W m t):
 ∃m' t' w' S',rC prog m t m' t'/\CM prog S' (λb=>b<w'.heap.size/\¬S' b) (Conc.G (c.finish (.tuple #[.slice (some ⟨N+1,0,none⟩) n n,.nilIface])) cs) w' m' t'/\
  (∀b,S' b↔S b\/b=N+5\/b=N+3)/\(∀b,b<N->¬S b->w'.heap[b]?=W.heap[b]?)/\w'.os=W.os/\w'.tape=W.tape/\w'.output=W.output/\N+6<=w'.heap.size/\
  ∃row:bw,w'.heap[N+1]?=some (.cells row 9 (0,0))/\row.size=n/\∀i,i<n->row[i]?=some (.string (ans i)):=by
 obtain⟨Sx,E⟩:=hp.env;let Lx:CS->Prop:=λs=>(∃T1:bw,T1.size=43/\T1[1]?=some (.int .i64 R)/\T1[2]?=some (pT N 0)/\T1[6]?=some (pT (N+2) 0)/\T1[7]?=some (pT (N+4) 0)/\T1[8]?=some (pT (N+5) 0)/\s.g=Conc.G ((base 6).at ⟨T1,[]⟩ [.code r6]) (c::cs))/\AC W s.w N (bs6 N n ta tc)/\s.T=TT T N 5;have hLx:∀s d,Lx s->Lx {s with w:=s.w.at d}:=λs d h=>⟨h.1,h.2.1.rely ⟨d,rfl⟩,h.2.2⟩;obtain⟨m1,t1,g1,w1,T1,hr1,hc1,hg1,⟨TV,s0,s1,s2,s6,s7,s8,rfl⟩,hA,rfl⟩:=hc.run hLx (aap hLx hp.n50 xM hR ta tc W hp.sz hT hp.sN λTV w1 s0 s1 s2 s6 s7 s8 hA=>eO.stop rfl ⟨⟨TV,s0,s1,s2,s6,s7,s8,rfl⟩,hA,rfl⟩);let G:=Rm S N n ans;let D:=WQ N ta tc txt ρ wL;let S':Nat->Prop:=λb=>S b\/b=N+5\/b=N+3;have hsz1:w1.heap.size=N+6:=hA.size;have nS:∀k,¬S (N+k):=λk h=>by have:=hp.sN _ h;omega
 have hbase:∀b,G.base b->b<w1.heap.size:=λb hb=>by rw[hsz1];exact hb.1
 have hok:kW G D:=by refine⟨⟨?_,?_,?_,?_,nS 4⟩,⟨?_,?_,?_,?_,nS 0⟩,⟨?_,?_,?_,?_,nS 2⟩,λb hb=>?_,hp.r,?_⟩;(all_goals try(simp only[D,WQ];omega));obtain⟨h1,h2⟩:=hp.low b hb;exact⟨oM,oM,oM,oM,h2⟩;have:=hp.n50;simp only[G,Rm];omega
 have hwg:WgAt G.ty G.Wg w1 0 0:=hA.get (k:=5) rfl;have hrow:fA G w1:=⟨_,hA.get (k:=1) rfl,by simp[G,Rm]⟩;have hMK:MK G D w1:=by refine⟨hA.cell (k:=4) rfl 0,?_,hA.cell (k:=2) rfl 0,λi hi=>?_,⟨0,0,hwg⟩,hrow,?_,hbase⟩;exact hA.cell (k:=0) rfl 0;obtain⟨a,h1,h2,h3,h4⟩:=hp.el i hi;refine⟨a,h1,⟨oM,oM,oM,oM,h3⟩,?_⟩;refine Eq.trans ?_ h4;unfold World.cell?;rw[Pr.add_block,hA.old h2];refine ru hp.wr (λb hb=>hA.old ?_) hA.os (by rw[hsz1,hp.sz];omega);rcases hb with hb|hb|⟨x,hb⟩;exact(hp.low b (.inl hb)).1;exact(hp.low b (.inr hb)).1;exact absurd hb (hp.r _ _)
 have g1:¬S' (N+1):=by rintro(h|h|h);exact nS 1 h;exact absurd h oM;exact absurd h oM
 have g2:∀b,G.base b->¬S' b:=λb hb h=>by rcases h with h|h|h;exact hb.2.2.2.2 h;exact hb.2.2.2.1 h;exact hb.2.2.1 h
 have g3:¬TT T N 5 (N+5):=by rintro(h|⟨h1,h2,h3⟩);exact absurd (hT _ h).1 oM;omega
 have g4:¬TT T N 5 (N+3):=by rintro(h|⟨h1,h2,h3⟩);exact absurd (hT _ h).1 oM;exact h3 rfl
 have g5:¬S' (N+2):=by rintro(h|h|h);exact nS 2 h;exact absurd h oM;exact absurd h oM
 obtain⟨m2,t2,gg2,w2,hr2,hc2,hf2,hR2,hrow2,hcells⟩:=hc1.round (S:=S') (G:=G) (Fin:=rB D (c::cs)) (R:=R) (λb=>Iff.rfl) ⟨.inr (.inl rfl),.inr (.inr rfl),by show N+5≠N+3;omega,g1,λh=>h.2.1 rfl,g2⟩ ⟨g3,g4⟩ ⟨nS 5,nS 3⟩ hwg hrow ⟨0,0,hA.get (k:=3) rfl⟩ hbase xM oM
  (Vf hok rfl rfl rfl hp.n50 (λh=>h.2.2.2.1 rfl) (λh=>h.2.1 rfl) (by show N+5≠N+1;omega) (by show N+5≠N+3;omega) xM hR E hp.ok hp.sp ans (λi=>rfl) hp.Vh TV w1 ⟨s0,s1,s2,s6,s7,s8⟩ hMK)
 let Ly:CS->Prop:=λs=>s.g=Conc.G (c.finish (.tuple #[.slice (some ⟨N+1,0,none⟩) n n,.nilIface])) cs/\AtR w2 s.w/\s.T=λb=>b<w2.heap.size/\¬S' b;have hLy:∀s d,Ly s->Ly {s with w:=s.w.at d}:=λs d h=>⟨h.1,h.2.1.trans ⟨d,rfl⟩,h.2.2⟩;have hsz2:N+6<=w2.heap.size:=by rw[<-hsz1];exact hR2.size
 obtain⟨m3,t3,g3,w3,T3,hr3,hc3,hg3,rfl,⟨d,rfl⟩,rfl⟩:=hc2.run hLy (aaq (v:=.slice (some ⟨N+1,0,none⟩) n n) hLy hf2 (λb hb=>hb) ⟨by show N+2<_;omega,g5⟩ ((nL hR2 hok.bo).trans hMK.ot) λw3 h3=>eO.stop rfl ⟨rfl,h3,rfl⟩);obtain⟨row,q1,q2⟩:=hrow2;refine⟨m3,t3,w2.at d,S',(hr1.trans hr2).trans hr3,hc3,λb=>Iff.rfl,λb hb hs=>?_,hR2.os.trans hA.os,hR2.tape.trans hA.tape,hR2.output.trans hA.output,hsz2,row,q1,q2,λi hi=>?_⟩;exact(hR2.fix b (.inl ⟨oM,oM,oM,oM,hs⟩)).trans (hA.old hb);have q3:w2.heap[N+1]?=some (.cells row 9 (0,0)):=q1;have q4:w2.cell? ⟨N+1,i,none⟩=some (.string (ans i)):=hcells i hi;unfold World.cell? at q4;rw[q3]at q4;simpa using q4
end
def Fu(S:cD)(w:aa):Nat->Prop:=λb=>b<w.heap.size/\¬S b
def fG(S:cD)(L:CS->Prop)(g:aG)(w:aa):Prop:=eO prog S L ⟨g,w,Fu S w⟩
structure Kept(w w1:aa):Prop where
 old:∀b,b<w.heap.size->w1.heap[b]?=w.heap[b]?
 os:w1.os=w.os
 tape:w1.tape=w.tape
 output:w1.output=w.output
 size:w.heap.size<=w1.heap.size
theorem Kept.refl(w:aa):Kept w w:=⟨λ_ _=>rfl,rfl,rfl,rfl,aj _⟩
theorem Kept.trans{a b c:aa}(h:Kept a b)(k:Kept b c):Kept a c:=
 ⟨λx hx=>(k.old x (aT hx h.size)).trans (h.old x hx),k.os.trans h.os,k.tape.trans h.tape,k.output.trans h.output,aS h.size k.size⟩
theorem Kept.at{w w1:aa}(h:AtR w w1):Kept w w1:=by obtain⟨d,rfl⟩:=h;exact⟨λ_ _=>rfl,rfl,rfl,rfl,aj _⟩
theorem Kept.alloc(w:aa)(o:Obj):Kept w (w.alloc o):=⟨λb hb=>by
 show(w.heap.push o)[b]?=_;rw[cL hb,aZ hb],rfl,rfl,rfl,sM⟩
theorem Kept.cell{w w1:aa}(h:Kept w w1){a:Addr}{v:ae}(hv:w.cell? a=some v):w1.cell? a=some v:=by have hlt:=World.block_lt_of_cell? w a hv;rw[<-hv];unfold World.cell?;rw[h.old _ hlt]
theorem Kept.heap{w w1:aa}(h:Kept w w1){b:Nat}{o:Obj}(ho:w.heap[b]?=some o):w1.heap[b]?=some o:=by rw[h.old _ (az.1 ho).1];exact ho
section
variable {S:cD}{L:CS->Prop}{c:Frame}{cs:List Frame}
theorem FI(w:aa):∀b,Fu S w b->b<w.heap.size/\¬S b:=λ_ h=>h
theorem fG.walk{n:Nat}{g:aG}{w:aa}(hL:∀s d,L s->L {s with w:=s.w.at d})(h:Conc.Goes prog true AtR DC0 (λg w1=>AtR w w1->fG S L g w1) n g w):fG S L g w:=by
 unfold fG;refine eO.walk (n:=n) (FI w) hL ?_;have key:∀(n:Nat)(g:aG)(w1:aa),AtR w w1->Conc.Goes prog true AtR DC0 (λg w1=>AtR w w1->fG S L g w1) n g w1->Conc.Goes prog true AtR DC0 (λg w1=>eO prog S L ⟨g,w1,Fu S w⟩) n g w1:=by
  have fin:∀(g:aG)(w1:aa),AtR w w1->fG S L g w1->eO prog S L ⟨g,w1,Fu S w⟩:=λg w1 ⟨d,e⟩ h=>by subst e;exact h
  intro n
  induction n with
  |zero=>exact λg w1 h1 h w2 h2=>fin g w2 (h1.trans h2) (h w2 h2 (h1.trans h2))
  |succ n ih=>
   intro g w1 h1 h;rcases h with h|⟨hs,h⟩;exact .inl λw2 h2=>fin g w2 (h1.trans h2) (h w2 h2 (h1.trans h2))
   ·refine .inr ⟨hs,λw2 h2=>?_⟩;have k:=h w2 h2;generalize stepG prog true g w2=r at k;cases r with
    |go g' w' es=>obtain⟨⟨e1,e2⟩,k2⟩:=k;subst e1 e2;exact⟨⟨rfl,rfl⟩,ih g' _ (h1.trans h2) k2⟩
    |_=>exact k.elim
 exact key n g w (AtR.refl w) h
theorem fG.step1{g:aG}{w:aa}(hs:g.status=.running)(h:∀w1,AtR w w1->(stepG prog true g w1).goes λg' w' es=>(∀e∈es,∃(a:Addr)(wr:Bool),e=⟨.cell a,wr,false⟩/\a.block<w'.heap.size/\¬S a.block)/\w1.heap.size<=w'.heap.size/\fG S L g' w'):fG S L g w:=by
 refine eO.act hs λd=>?_;have k:=h (w.at d) ⟨d,rfl⟩;generalize e:stepG prog true g (w.at d)=r at k;cases r with
 |go g' w' es=>
  obtain⟨k1,k2,k3⟩:=k;refine⟨g',w',es,Fu S w',rfl,λx hx=>?_,λb hb=>⟨aT hb.1 k2,hb.2⟩,FI w',k2,k3⟩;obtain⟨a,wr,rfl,ha⟩:=k1 x hx;refine⟨λm hm=>(by cases hm),λx hx _=>?_⟩;have hx':x=⟨.cell a,wr,.plain⟩:=by cases wr<;>simp[MemAct.ofEvent,MemAct.touch?]at hx<;>exact hx.symm
  subst hx';exact⟨rfl,a.block,rfl,.inl ha⟩
 |_=>exact k.elim
structure Low(S:cD)(ρ:Rn)(wL w:aa):Prop where
 wr:WR prog ρ wL w
 low:∀b,ρ.K b\/ρ.T b->b<w.heap.size/\¬S b
 sN:∀b,S b->b<w.heap.size
 r:∀x y,¬ρ.r x y
 sp:∀f,¬ρ.sp f
 env:∃Sx,Env prog ρ Sx
theorem Low.kept{ρ:Rn}{wL w w1:aa}(h:Low S ρ wL w)(k:Kept w w1):Low S ρ wL w1:=by refine⟨ru h.wr (λb hb=>k.old b ?_) k.os k.size,λb hb=>⟨aT (h.low b hb).1 k.size,(h.low b hb).2⟩,λb hb=>aT (h.sN b hb) k.size,h.r,h.sp,h.env⟩;rcases hb with hb|hb|⟨x,hb⟩;exact(h.low b (.inl hb)).1;exact(h.low b (.inr hb)).1;exact absurd hb (h.r _ _)
theorem Yd(_:∀s d,L s->L {s with w:=s.w.at d}){ρ:Rn}{wL w:aa}(h:Low S ρ wL w){f:FuncId}{fn:Func}{t:Tmp}(hf:prog.funcs[f]?=some fn)(hr:fn.results= #[.tmp t])(hok:ρ.ok f){xs:bw}(hx:AR ρ xs xs){v:ae}(hv:∀(σ:Rn)(u:ae),VR σ v u->u=v)
 (hc:∀T,Calls prog f xs (on wL T) λe _=>∃u,e=.returned u/\u=v)(hend:∀w1,Kept w w1->fG S L (gr (c.finish v) cs) w1):fG S L (gr (Frame.enter prog f xs .normal) (c::cs)) w:=by
 obtain⟨Sx,E⟩:=h.env;obtain⟨r,hse⟩:=uu (Q:=qc f t (λu=>u=v)) E (Pr.vQ (kind:=.normal) E hok hx (.inl rfl)) ⟨rfl,rfl⟩ h.wr (λs T=>qc.on s T) (λT=>abF hf hr hc T);refine UY (l':=[]) (ext:=c::cs) (λs hs e=>by rw[hs.1]at e;cases e) r (λs hs=>?_) hse (λb hb=>?_) (FI w) h.sN (λσ r1 s1 l1 ig fc w1' T1 k1 k2 k3 k4 k5 k6 k7=>?_);obtain⟨e1,ops,i,rest,k',o,e2,e3,c,f,a1,a2,a3⟩:=hs;exact absurd a3 (h.sp f);rcases hb with hb|hb|⟨x,hb⟩;exact h.low b (.inl hb);exact h.low b (.inr hb);exact absurd hb (h.r _ _);obtain⟨-,rfl,q1,q2,q3,q4,u,rfl,q5⟩:=Go.Mx.jl.done k1 k2 hf hr;have hu:=hv _ _ q5;have hk:Kept w w1':=⟨λb hb=>k7.old b hb λ⟨x,hx⟩=>h.r _ _ hx,k7.os,k7.tape,k7.output,k7.size⟩;refine eO.act rfl λd=>⟨_,_,_,Fu S w1',D6 q1 q2 q3 q4 hf hr,by intro e he;simp at he,λb hb=>k3 b hb,FI w1',aj _,?_⟩;rw[hu];exact hend _ (hk.trans (Kept.at ⟨d,rfl⟩))
end
end Go.Mx
namespace Go.Proofs.YtdhekhlmdefcnaaGreatDoor
open Go.RowKit
abbrev I(n:Int):ae:=.int .i64 n
theorem uv{a b:Int}(h:a=b):Value.int .i64 a=Value.int .i64 b:=by rw[h]
def Has(w:aa)(g:Nat)(t:aw)(cs:bw):Prop:=w.heap[g]?=some (.cells cs t (0,0))
section
variable {w w':aa}{g:Nat}{t:aw}{cs:bw}
theorem Has.lt(h:Has w g t cs):g<w.heap.size:=by unfold Has at h;exact(az.1 h).1
theorem Has.cell(h:Has w g t cs)(i:Nat):w.cell? ⟨g,i,none⟩=cs[i]?:=by unfold Has at h;simp[World.cell?,h]
theorem Has.aJ(h:Has w g t cs)(i:Nat)(v:ae)(hv:cs[i]?=some v):w.cell? ⟨g,i,none⟩=some v:=by rw[h.cell,hv]
theorem Has.free(h:Has w g t cs)(i:Nat):w.frozen? ⟨g,i,none⟩=false:=by unfold Has at h;simp[World.frozen?,h]
theorem Has.new(w:aa)(t:aw)(cs:bw):Has (w.alloc (.cells cs t)) w.heap.size t cs:=by show(w.heap.push _)[w.heap.size]?=_;simp
theorem Has.new'(w:aa)(t:aw)(cs:bw)(n:Nat)(h:n=w.heap.size):Has (w.alloc (.cells cs t)) n t cs:=by subst h;exact Has.new w t cs
theorem Has.drew(h:Has w g t cs):Has w.drew g t cs:=h
theorem Has.drewN(h:Has w g t cs)(n:Nat):Has (w.drewN n) g t cs:=h
theorem Has.alloc(h:Has w g t cs)(o:Obj):Has (w.alloc o) g t cs:=(Below.heap_alloc w o g h.lt).trans h
theorem Has.set(h:Has w g t cs)(i:Nat)(v:ae):Has (w.setCell ⟨g,i,none⟩ v) g t (cs.setIfInBounds i v):=by unfold Has at h⊢;simp[World.setCell,Array.getElem?_modify,h]
theorem Has.far(h:Has w g t cs){p:Addr}(hp:g≠p.block)(v:ae):Has (w.setCell p v) g t cs:=(Below.heap_setCell w p v g hp).trans h
theorem Has.below{B:Nat}(h:Has w g t cs)(hb:Below B w w')(hg:g<B):Has w' g t cs:=(hb.block g hg).trans h
theorem Has.after(h:Has w g t cs)(hb:Below w.heap.size w w'):Has w' g t cs:=h.below hb h.lt
theorem Has.grown{row:Option Nat}(h:Has w g t cs)(hb:w.grownBy w' row)(hg:some g≠row):Has w' g t cs:=(hb.block g h.lt hg).trans h
end
theorem Has.setRow{w:aa}{g:Nat}{t:aw}{cs:bw}(h:Has w g t cs)(cs':bw):Has (w.setRow g cs') g t cs':=by unfold Has at h⊢;simp[World.setRow,Array.getElem?_modify,h]
theorem iH(w:aa)(g:Nat)(cs:bw)(k:Nat)(h:k≠g):(w.setRow g cs).heap[k]?=w.heap[k]?:=by simp only[World.setRow,Array.getElem?_modify];rw[if_neg oM]
theorem Has.ij{w:aa}{g g':Nat}{t:aw}{cs:bw}(h:Has w g t cs)(hp:g≠g')(cs':bw):Has (w.setRow g' cs') g t cs:=(iH w g' cs' g hp).trans h
theorem below_setRow{B:Nat}{a w:aa}(h:Below B a w){g:Nat}(hg:B<=g)(cs:bw):Below B a (w.setRow g cs):=
 h.trans ⟨rfl,rfl,rfl,by simp[World.setRow],λk hk=>iH _ _ _ _ oM⟩
theorem below_drewN{B:Nat}{a w:aa}(h:Below B a w)(n:Nat):Below B a (w.drewN n):=⟨h.os,h.tape,h.output,h.size,h.block⟩
theorem LK{W w1:aa}(hb:Below W.heap.size W w1):(∀b o,b<W.heap.size->w1.cell? ⟨b,o,none⟩=W.cell? ⟨b,o,none⟩)/\(∀b o,b<W.heap.size->w1.frozen? ⟨b,o,none⟩=W.frozen? ⟨b,o,none⟩):=
 ⟨λb o h=>hb.cell (p:=⟨b,o,none⟩) h,λb o h=>hb.frozen (p:=⟨b,o,none⟩) h⟩
def Reads(w:aa)(B:Nat)(A:Option Addr)(xs:List ae):Prop:=
 xs≠[]->∃b o,A=some ⟨b,o,none⟩/\b<B/\∀j u,xs[j]?=some u->w.cell? ⟨b,o+j,none⟩=some u
section
variable {w w':aa}{B B':Nat}{A:Option Addr}{xs:List ae}
theorem Reads.keep(h:Reads w B A xs)(hk:∀b o,b<B->w'.cell? ⟨b,o,none⟩=w.cell? ⟨b,o,none⟩):Reads w' B A xs:=λhn=>by obtain⟨b,o,e,hb,hc⟩:=h hn;exact⟨b,o,e,hb,λj u hu=>(hk _ _ hb).trans (hc j u hu)⟩
theorem Reads.more(h:Reads w B A xs)(hB:B<=B'):Reads w B' A xs:=λhn=>by obtain⟨b,o,e,hb,hc⟩:=h hn;exact⟨b,o,e,oM,hc⟩
theorem Reads.below(h:Reads w B A xs)(hb:Below B w w'):Reads w' B A xs:=h.keep λ_ _ hp=>hb.cell hp
theorem Reads.drew(h:Reads w B A xs):Reads w.drew B A xs:=h
theorem Reads.alloc(h:Reads w B A xs)(hB:B<=w.heap.size)(o:Obj):Reads (w.alloc o) B A xs:=h.keep λb i hp=>World.cell?_alloc_lt w o ⟨b,i,none⟩ (aT hp hB)
theorem Reads.setCell(h:Reads w B A xs){p:Addr}(hB:B<=p.block)(u:ae):Reads (w.setCell p u) B A xs:=
 h.keep λb o hq=>World.cell?_setCell_other w p _ u (λe=>by subst e;simp at hB;omega)
theorem Reads.take(h:Reads w B A xs)(k:Nat):Reads w B A (xs.take k):=λhn=>by
 have h0:xs≠[]:=by rintro rfl;simp at hn
 obtain⟨b,o,e,hb,hc⟩:=h h0;refine⟨b,o,e,hb,λj u hu=>hc j u ?_⟩;rw[List.getElem?_take]at hu;split at hu;exact hu;cases hu
theorem Reads.FJ{g:Nat}{t:aw}{cs:bw}(h:Has w g t cs)(hB:g<B):Reads w B (some ⟨g,0,none⟩) cs.toList:=λ_=>
 ⟨g,0,rfl,hB,λj u hu=>by rw[cG,h.cell];simpa using hu⟩
end
theorem gh{P:aF}{fn:Func}{p u:Tmp}{ty:aw}(h:fn.results= #[.cell p ty,.tmp u])(tmps:bw)(w:aa)(g:Nat)(t:aw)(cs:bw)(d:TypeDesc)
 (hp:tmps.getD p undef=pT g 0)(hg:Has w g t cs)
 (hu:P.underlying ty=some d)(hd:(match d with|.struct _|.array _ _=>true|_=>false)=true)(hi:(P.info? ty).map (·.size)=some cs.size):
 (results fn tmps).run P w=.ok (.tuple #[.agg cs,tmps.getD u undef]) w:=by
 rw[results_cell_tmp h,hp];simp[asAddr,Result.andThen,run_loadVar_row w g t ty cs (0,0) d hg hu hd hi]
theorem FK(b o j:Nat):(⟨b,o,none⟩:Addr).add j=⟨b,o+j,none⟩:=by unfold Addr.add;split<;>simp_all
theorem dQ{w:aa}{base:Nat}{e:aw}{v:ae}{n:Nat}{xs:List ae}(h:w.ownsRow base e 1 v n xs):
 ∃A c,v=.slice A n c/\n<=c/\xs.length=n/\Reads w w.heap.size A xs:=by
 obtain⟨h1,h2⟩:=h;rw[Nat.mul_one]at h1;rcases h2 with⟨hv,hn⟩|⟨g,cap,cur,hv,hg,hh,hnc,_,_,ht⟩;exact⟨none,0,by rw[hv,hn],oM,h1,λhx=>absurd (cM oM) hx⟩;refine⟨some ⟨g,0,none⟩,cap,hv,hnc,h1,λ_=>⟨g,0,rfl,(az.1 hh).1,λj u hu=>?_⟩⟩;have hc:Has w g e cur:=hh;rw[hc.cell];have:=ht;rw[Nat.mul_one]at this;rw[<-this,List.getElem?_take]at hu;split at hu;simpa using hu;cases hu
theorem iW{w:aa}{base base':Nat}{e:aw}{size:Nat}{v:ae}{n:Nat}{xs:List ae}(h:w.ownsRow base e size v n xs)(hb:base'<=base):w.ownsRow base' e size v n xs:=by obtain⟨h1,h2⟩:=h;refine⟨h1,?_⟩;rcases h2 with h2|⟨g,cap,cur,hv,hg,r⟩;exact .inl h2;exact .inr ⟨g,cap,cur,hv,oM,r⟩
theorem lK{w w':aa}{base:Nat}{e:aw}{size:Nat}{v:ae}{n:Nat}{xs:List ae}(h:w.ownsRow base e size v n xs)
 (hk:∀g cs,v.ownBlock=some g->Has w g e cs->w'.heap[g]?=w.heap[g]?):w'.ownsRow base e size v n xs:=by
 obtain⟨h1,h2⟩:=h;refine⟨h1,?_⟩;rcases h2 with h2|⟨g,cap,cur,hv,hg,hh,r⟩;exact .inl h2;exact .inr ⟨g,cap,cur,hv,hg,(hk g cur (by rw[hv];rfl) hh).trans hh,r⟩
theorem eD{w w':aa}{base:Nat}{e:aw}{size:Nat}{v:ae}{n:Nat}{xs:List ae}(h:w.ownsRow base e size v n xs)(hb:Below w.heap.size w w'):w'.ownsRow base e size v n xs:=
 lK h λg _ _ hh=>hb.block g hh.lt
theorem ew{w:aa}{base:Nat}{e:aw}{size:Nat}{v:ae}{n:Nat}{xs:List ae}(h:w.ownsRow base e size v n xs){g:Nat}{t:aw}{cs:bw}(hg:Has w g t cs)(hne:t≠e)(o:Nat)(u:ae):
 (w.setCell ⟨g,o,none⟩ u).ownsRow base e size v n xs:=
 lK h λg' cs' _ hh=>Below.heap_setCell w _ u g' (by
  rintro rfl;unfold Has at hg hh;rw[hg]at hh;injection hh with hh;injection hh with _ ht;exact hne ht)
theorem own_ne{w:aa}{base:Nat}{e:aw}{size:Nat}{v:ae}{n:Nat}{xs:List ae}(h:w.ownsRow base e size v n xs){g:Nat}{t:aw}{cs:bw}(hg:Has w g t cs)(hne:t≠e):
 some g≠v.ownBlock:=by
 rcases h.2 with⟨rfl,_⟩|⟨g',cap,cur,rfl,_,hh,_⟩;simp[Value.ownBlock]
 ·intro he;have:g=g':=by simpa[Value.ownBlock]using he
  subst this;unfold Has at hg;rw[hg]at hh;injection hh with hh;injection hh with _ ht;exact hne ht
def ints(l:List Int):List ae:=l.map I
theorem dG(l:List Int):(ints l).length=l.length:=by simp[ints]
theorem xU(l:List Int)(i:Nat):(ints l)[i]?=(l[i]?).map I:=by simp[ints]
theorem Reads.at_{w:aa}{B:Nat}{A:Option Addr}{xs:List Int}(h:Reads w B A (ints xs)){k:Nat}{x:Int}(hx:xs[k]?=some x):
 ∃b o,A=some ⟨b,o,none⟩/\b<B/\w.cell? ⟨b,o+k,none⟩=some (I x):=by
 have hk:(ints xs)[k]?=some (I x):=by rw[xU,hx];rfl
 exact zeF
theorem bY{α:Type}(xs:List α)(k:Nat)(h:k<xs.length):∃x,xs[k]?=some x:=⟨xs[k],bg h⟩
def zs(l:List Nat):List Int:=l.map λ(x:Nat)=>(x:Int)
theorem dw(l:List Nat):(zs l).length=l.length:=by simp[zs]
theorem sY(l:List Nat)(i:Nat):(zs l)[i]?=(l[i]?).map λ(x:Nat)=>(x:Int):=by simp[zs]
theorem jR{l:List Nat}{i x:Nat}(h:l[i]?=some x):(zs l)[i]?=some (x:Int):=by rw[sY,h];rfl
structure Turned(F:cD)(w w':aa):Prop where
 os:w'.os=w.os
 tape:w'.tape=w.tape
 output:w'.output=w.output
 size:w.heap.size<=w'.heap.size
 block:∀k,k<w.heap.size->¬F k->w'.heap[k]?=w.heap[k]?
section
variable {F F':cD}{a w w':aa}
theorem Turned.refl(F:cD)(w:aa):Turned F w w:=⟨rfl,rfl,rfl,aj _,λ_ _ _=>rfl⟩
theorem Turned.trans(h:Turned F a w)(h':Turned F' w w')(hF:∀k,k<a.heap.size->F' k->F k):Turned F a w':=
 ⟨h'.os.trans h.os,h'.tape.trans h.tape,h'.output.trans h.output,aS h.size h'.size,λk hk hn=>(h'.block k (aT hk h.size) (λhf=>hn (hF k hk hf))).trans (h.block k hk hn)⟩
theorem Turned.mono(h:Turned F w w')(hF:∀k,k<w.heap.size->F k->F' k):Turned F' w w':=⟨h.os,h.tape,h.output,h.size,λk hk hn=>h.block k hk λhf=>hn (hF k hk hf)⟩
theorem Turned.of_below(h:Below w.heap.size w w')(F:cD):Turned F w w':=⟨h.os,h.tape,h.output,h.size,λk hk _=>h.block k hk⟩
theorem Turned.eU(h:Turned F a w)(h':Below w.heap.size w w'):Turned F a w':=h.trans (Turned.of_below h' F) λ_ _ hf=>hf
theorem Turned.setCell(h:Turned F a w)(p:Addr)(v:ae)(hp:F p.block\/a.heap.size<=p.block):Turned F a (w.setCell p v):=
 ⟨h.os,h.tape,h.output,by simpa[World.setCell]using h.size,λk hk hn=>(Below.heap_setCell w p v k zeL).trans (h.block k hk hn)⟩
theorem Turned.alloc(h:Turned F a w)(o:Obj):Turned F a (w.alloc o):=
 ⟨h.os,h.tape,h.output,aS h.size sM,λk hk hn=>(Below.heap_alloc w o k (aT hk h.size)).trans (h.block k hk hn)⟩
theorem Turned.drew(h:Turned F a w):Turned F a w.drew:=⟨h.os,h.tape,h.output,h.size,h.block⟩
theorem Turned.drewN(h:Turned F a w)(n:Nat):Turned F a (w.drewN n):=⟨h.os,h.tape,h.output,h.size,h.block⟩
theorem Turned.grown(h:Turned F a w){row:Option Nat}(hg:w.grownBy w' row)(hr:∀q,row=some q->F q\/a.heap.size<=q):Turned F a w':=
 ⟨hg.os.trans h.os,hg.tape.trans h.tape,hg.output.trans h.output,aS h.size hg.size,λk hk hn=>
  (hg.block k (aT hk h.size) (λe=>by rcases hr k e.symm with h1|h1;exact hn h1;omega)).trans (h.block k hk hn)⟩
theorem Turned.setRow(h:Turned F a w)(g:Nat)(cs:bw)(hp:F g\/a.heap.size<=g):Turned F a (w.setRow g cs):=
 ⟨h.os,h.tape,h.output,by simpa[World.setRow]using h.size,λk hk hn=>(iH w g cs k zeL).trans (h.block k hk hn)⟩
theorem Turned.below{B:Nat}(h:Turned F w w')(hB:∀k,F k->B<=k)(hw:B<=w.heap.size):Below B w w':=
 ⟨h.os,h.tape,h.output,h.size,λk hk=>h.block k oM (λhf=>by have:=hB k hf;omega)⟩
theorem Has.turned{g:Nat}{t:aw}{cs:bw}(h:Has w g t cs)(ht:Turned F w w')(hn:¬F g):Has w' g t cs:=(ht.block g h.lt hn).trans h
theorem iF{base:Nat}{e:aw}{size n:Nat}{v:ae}{xs:List ae}(h:w.ownsRow base e size v n xs)(ht:Turned F w w')(hn:∀q,v.ownBlock=some q->¬F q):w'.ownsRow base e size v n xs:=
 lK h λg _ he hh=>ht.block g hh.lt (hn g he)
end
theorem Has.ne{w:aa}{g g':Nat}{t t':aw}{cs cs':bw}(h:Has w g t cs)(h':Has w g' t' cs')(hne:t≠t'):g≠g':=by rintro rfl;unfold Has at h h';rw[h]at h';injection h' with h';injection h' with _ ht;exact hne ht
theorem dz{w:aa}{base:Nat}{e:aw}{size n:Nat}{v:ae}{xs:List ae}{g:Nat}{t:aw}{cs:bw}(h:w.ownsRow base e size v n xs)(hg:Has w g t cs)(hne:e≠t):v.ownBlock≠some g:=by
 rcases h.2 with⟨rfl,_⟩|⟨g',cap,cur,rfl,_,hh,_⟩;simp[Value.ownBlock]
 ·intro he;have:g'=g:=by simpa[Value.ownBlock]using he
  subst this;exact Has.ne (t:=e) hh hg hne rfl
section
variable {P:aF}{w:aa}
theorem qG{ops:Array Oper}{o:Oper}{a:Act}{K:Act->aa->Prop}{Q:Exit->Act->aa->Prop}{E:Prop}(hgd:o.guard=none)(s x:Operand)(t:aw)
 (ho:o.op=.call {callee:=.builtin .append,args:=#[s,x],argTypes:=#[t,t]})
 (base:Nat)(e:aw)(i:TypeInfo)(z:ae)(size bytes:Nat)(ht:P.underlying t=some (.slice e))(hi:P.info? e=some i)(hz:i.zero=some z)
 (hsize:i.size=size)(hby:i.bytes=bytes)(hzs:z.cells.size=size)(hsz:0<size)
 (v:ae)(n:Nat)(xs:List ae)(hs:a.eval s=v)(hown:w.ownsRow base e size v n xs)
 (ad:Addr)(m c:Nat)(news:List ae)(hx:a.eval x=.slice (some ad) m c)(hl:news.length=m*size)(hnews:∀j u,news[j]?=some u->w.cell? (ad.add j)=some u)(h1:∀u∈news,u.oneCell'=true)
 (h63:n+m<=maxLen)(hbytes:(n+m)*bytes<=140737488355328)(hbase:base<=w.heap.size)
 (h:∀v' w',w'.ownsRow base e size v' (n+m) (xs++news)->w.grownBy w' v.ownBlock->(v'.ownBlock=v.ownBlock\/v'.ownBlock=some w.heap.size)->K (a.put o.dst v') w'):if Region.wanted o (yielded ops a.tmps)=true then Oper.wp P o a w K Q else E:=by
 rw[if_pos (by simp[Region.wanted,hgd])];obtain⟨v',w',hr,h2,h3,_,h5⟩:=run_append_own_at (P:=P) w base t o.type e i z size bytes ht hi hz hsize hby hzs hsz v n xs hown ad m c news hl hnews h1 h63 hbytes hbase;unfold Oper.wp execOp;simp only[ho,resolve,invoke,builtin,Sem.run_bind,Sem.run_pure,Result.andThen_ok,List.map_toArray,List.map_cons,List.map_nil,hs,hx,hr];exact h v' w' h2 h3 h5
theorem il{ops:Array Oper}{rest:List Oper}{o:Oper}{a:Act}{Q:Exit->Act->aa->Prop}(hgd:o.guard=none)(s x:Operand)(t:aw)
 (ho:o.op=.call {callee:=.builtin .append,args:=#[s,x],argTypes:=#[t,t]})
 (base:Nat)(e:aw)(i:TypeInfo)(z:ae)(size bytes:Nat)(ht:P.underlying t=some (.slice e))(hi:P.info? e=some i)(hz:i.zero=some z)
 (hsize:i.size=size)(hby:i.bytes=bytes)(hzs:z.cells.size=size)(hsz:0<size)
 (v:ae)(n:Nat)(xs:List ae)(hs:a.eval s=v)(hown:w.ownsRow base e size v n xs)
 (B:Nat)(A:Option Addr)(m c:Nat)(news:List ae)(hx:a.eval x=.slice A m c)(hA:A=none->m=0/\c=0)(hl:news.length=m*size)(hr:Reads w B A news)(h1:∀u∈news,u.oneCell'=true)
 (h63:n+m<=maxLen)(hbytes:(n+m)*bytes<=140737488355328)(hbase:base<=w.heap.size)
 (h:∀v' w',w'.ownsRow base e size v' (n+m) (xs++news)->w.grownBy w' v.ownBlock->wpList P ops Q rest (a.put o.dst v') w'):wpList P ops Q (o::rest) a w:=by
 cases A with
 |none=>obtain⟨rfl,rfl⟩:=hA rfl;have hn:news=[]:=cM oM;subst hn;rw[List.append_nil]at h;exact wpList_append_own_none hgd s x t ho base e i size ht hi v n xs hs hown hx (h v w hown (World.grownBy.refl w _))
 |some ad=>refine wpList_append_own w hgd s x t ho base e i z size bytes ht hi hz hsize hby hzs hsz v n xs hs hown ad m c news hx hl (λj u hu=>?_) h1 h63 hbytes hbase λv' w' h2 h3 _=>h v' w' h2 h3;obtain⟨b,o',e',_,hc⟩:=hr (by rintro rfl;simp at hu);cases e';rw[FK];exact hc j u hu
end
theorem ix{w:aa}{base:Nat}{e:aw}{size n:Nat}{v:ae}{xs:List ae}(h:w.ownsRow base e size v n xs):
 ∃A c,v=.slice A n c/\n<=c/\xs.length=n*size/\(A=none->n=0/\c=0)/\Reads w w.heap.size A xs:=by
 obtain⟨h1,h2⟩:=h;rcases h2 with⟨hv,hn⟩|⟨g,cap,cur,hv,hg,hh,hnc,_,_,ht⟩;exact⟨none,0,by rw[hv,hn],oM,h1,λ_=>⟨hn,rfl⟩,λhx=>absurd (cM (by rw[h1,hn];omega)) hx⟩;refine⟨some ⟨g,0,none⟩,cap,hv,hnc,h1,(λh=>by cases h),λ_=>⟨g,0,rfl,(az.1 hh).1,λj u hu=>?_⟩⟩;have hc:Has w g e cur:=hh;rw[cG,hc.cell];rw[<-ht,List.getElem?_take]at hu;split at hu;simpa using hu;cases hu
def idx(k:Int):List Nat:=
 if k=1 then[0,1,2,3,4]else if k=2\/k=3 then[0,1,2,3,4,5]else
 if k=5 then[0,1,2,6,7,15,8,16,9,17,10,18,11,19,12,20,13,21,14,22]else[0,1,2]
def ptrs(b:Nat)(l:List Nat):List ae:=l.map λi=>pT b i
theorem Ot(b:Nat)(l:List Nat)(i:Nat):(ptrs b l)[i]?=(l[i]?).map λi=>pT b i:=by simp[ptrs]
def aN(f:List Int):bw:=(ints f).toArray
def aQ:List Int:=List.replicate 23 0
def jM(f:List Int)(n:Nat):List Int:=((idx (f.getD 0 0)).take n).foldl (λg i=>g.set i (f.getD i 0)) (aQ.set 0 (f.getD 0 0))
def ID(x:Int):Bool:=decide (0<=x)&&decide (x<=1048576)
def qf(f:List Int):Bool:=decide (1<=f.getD 0 0)&&decide (f.getD 0 0<=5)&&decide (0<=f.getD 1 0)&&decide (f.getD 1 0<=3)
def fC(f:List Int):Bool:=qf f&&(idx (f.getD 0 0)).all (λi=>ID (f.getD i 0))&&decide (f=jM f (idx (f.getD 0 0)).length)
theorem FL(k:Int):∀i∈idx k,i<23:=by unfold idx;split;decide;split;decide;split<;>decide
theorem wG(k:Int):(idx k).length<=20:=by unfold idx;split;decide;split;decide;split<;>decide
theorem LL(f:List Int)(n i:Nat)(h:(idx (f.getD 0 0))[n]?=some i):jM f (n+1)=(jM f n).set i (f.getD i 0):=by have hn:=(aX.1 h).1;have he:=(aX.1 h).2;unfold jM;rw[List.take_succ_eq_append_getElem hn,List.foldl_append,he];rfl
theorem kX(f:List Int):∀n,(jM f n).length=23:=by
 intro n;unfold jM;generalize (idx (f.getD 0 0)).take n=l;have h0:(aQ.set 0 (f.getD 0 0)).length=23:=by simp[aQ]
 generalize aQ.set 0 (f.getD 0 0)=g at h0
 induction l generalizing g with
 |nil=>exact h0
 |cons i l ih=>exact ih _ (by simpa using h0)
theorem cY(f:List Int)(h:f.length=23):(aN f).size=23:=by simp[aN,ints,h]
theorem dO(f:List Int)(i:Nat)(x:Int)(h:f[i]?=some x):(aN f)[i]?=some (I x):=by simp[aN,ints,h]
theorem Ro{f g:List Int}:aN f=aN g↔f=g:=by
 constructor
 ·intro h;have h1:ints f=ints g:=by have:=congrArg Array.toList h;simpa[aN]using this
  unfold ints at h1;exact List.map_inj_right (λa b hab=>by injection hab)|>.1 h1
 ·rintro rfl;rfl
theorem Bg(f:List Int)(i:Nat)(x:Int):(aN f).setIfInBounds i (I x)=aN (f.set i x):=by simp[aN,ints,List.map_set]
def Wf(f:List Int):Prop:=f.length=23/\∀x∈f,-9223372036854775808<=x/\x<=9223372036854775807
open Go.Proofs.Tryz
theorem sZ:(prog.info? 250).map (λi=>(i.zero,i.size,i.bytes))=some (some (.pointer none),1,8):=kR
theorem rD{w:aa}{base:Nat}{e:aw}(cs:bw)(n:Nat)(hb:base<=w.heap.size)(hn:cs.size=n)(hm:n<=maxLen):
 (w.alloc (.cells cs e)).ownsRow base e 1 (.slice (some ⟨w.heap.size,0,none⟩) n n) n cs.toList:=
 ⟨by simp[hn],.inr ⟨w.heap.size,n,cs,rfl,hb,heap_alloc_new w _,aj _,hm,oM,by rw[bZ zeG]⟩⟩
theorem FM(b:Nat)(cs:bw)(k:Int)(w:aa)(hh:Hid (Has w b 214 cs))(hk:w.cell? ⟨b,0,none⟩=some (I k))(h1:(k==1)=false)(h2:(k==2)=false)(h3:(k==3)=false)(h5:(k==5)=false):
 Calls prog 169 #[pT b 0] w λe w'=>e=.returned (.slice (some ⟨w.heap.size,0,none⟩) 3 3)/\(w.alloc (.cells #[pT b 0,pT b 1,pT b 2] 250)).drew=w':=by
 have hb:b<w.heap.size:=hh.out.lt;go_enter func169,ntmps169;go_wp2;go_region;go_wp2;go_ret;exact⟨rfl,rfl⟩
section
variable {P:aF}{w:aa}
theorem iy{ops:Array Oper}{o:Oper}{a:Act}{K:Act->aa->Prop}{Q:Exit->Act->aa->Prop}{E:Prop}(hgd:o.guard=none)(s x:Operand)(t:aw)
 (ho:o.op=.call {callee:=.builtin .append,args:=#[s,x],argTypes:=#[t,t]})
 (base:Nat)(e:aw)(i:TypeInfo)(z:ae)(size bytes:Nat)(ht:P.underlying t=some (.slice e))(hi:P.info? e=some i)(hz:i.zero=some z)
 (hsize:i.size=size)(hby:i.bytes=bytes)(hzs:z.cells.size=size)(hsz:0<size)
 (v:ae)(n:Nat)(xs:List ae)(hs:a.eval s=v)(hown:w.ownsRow base e size v n xs)
 (ad:Addr)(m c:Nat)(news:List ae)(hx:a.eval x=.slice (some ad) m c)(hl:news.length=m*size)(hnews:∀j u,news[j]?=some u->w.cell? (ad.add j)=some u)(h1:∀u∈news,u.oneCell'=true)
 (h63:n+m<=maxLen)(hbytes:(n+m)*bytes<=140737488355328)(hbase:base<=w.heap.size)
 (h:∀v' w',w'.ownsRow base e size v' (n+m) (xs++news)->w.grownBy w' v.ownBlock->K (a.put o.dst v') w'):if Region.wanted o (yielded ops a.tmps)=true then Oper.wp P o a w K Q else E:=by
 rw[if_pos (by simp[Region.wanted,hgd])];exact wp_append_own w s x t ho base e i z size bytes ht hi hz hsize hby hzs hsz v n xs hs hown ad m c news hx hl hnews h1 h63 hbytes hbase λv' w' h2 h3 _=>h v' w' h2 h3
end
theorem jq(w:aa)(cs:bw)(t:aw):∀j u,cs.toList[j]?=some u->(w.alloc (.cells cs t)).cell? ((⟨w.heap.size,0,none⟩:Addr).add j)=some u:=λj u h=>by rw[FK,(Has.new w t cs).cell];simpa using h
theorem FN(b:Nat)(cs:bw)(w:aa)(hh:Hid (Has w b 214 cs))(hk:w.cell? ⟨b,0,none⟩=some (I 1)):
 Calls prog 169 #[pT b 0] w λe w'=>(∃A c,e=.returned (.slice A 5 c)/\w'.ownsRow w.heap.size 250 1 (.slice A 5 c) 5 (ptrs b [0,1,2,3,4]))/\Below w.heap.size w w':=by
 obtain⟨i0,hi0,hz0,hz1,hz2⟩:=info_parts sZ;have hb:b<w.heap.size:=hh.out.lt;go_enter func169,ntmps169;go_wp2;go_region;go_wp2;have H1:=hI (rD (w:=w) (base:=w.heap.size) (e:=250) #[pT b 0,pT b 1,pT b 2] 3 (aj _) rfl dC);have hb1:Below w.heap.size w (w.alloc (.cells #[pT b 0,pT b 1,pT b 2] 250)):=(Below.refl _ _).alloc (aj _) _;have hk1:(w.alloc (.cells #[pT b 0,pT b 1,pT b 2] 250)).cell? ⟨b,0,none⟩=some (I 1):=(World.cell?_alloc_lt _ _ ⟨b,0,none⟩ hb).trans hk;have hs1:w.heap.size<=(w.alloc (.cells #[pT b 0,pT b 1,pT b 2] 250)).heap.size:=hb1.size;have hbl:b<(w.alloc (.cells #[pT b 0,pT b 1,pT b 2] 250)).heap.size:=aT hb hs1;generalize w.alloc (.cells #[pT b 0,pT b 1,pT b 2] 250)=w1 at*;go_region_law ((refine iy rfl _ _ 247 rfl w.heap.size 250 i0 (.pointer none) 1 8 underlying247 hi0 hz0 hz1 hz2 rfl dC _ 3 _ rfl (World.ownsRow.alloc H1.out _) _ 2 2 _ rfl rfl (jq _ _ _) zeS dC dC zeA ?_;intro v2 w2 hown2 hgrow2))
 have hb2:Below w.heap.size w w2:=((hb1.alloc hs1 _).drew.drew).grown hgrow2 zeA (λq hq=>zeU);have hk2:=(hb2.cell (p:=⟨b,0,none⟩) hb).trans hk;have hl2:b<w2.heap.size:=aT hb hb2.size;have gq:=hI hown2;clear hown2 hgrow2 hk1 hs1 hbl;clear H1 hb1;go_wp2;go_ret;obtain⟨A,c,rfl,-⟩:=dQ gq.out;exact⟨⟨A,c,rfl,gq.out⟩,hb2⟩
theorem FO(b:Nat)(cs:bw)(w:aa)(hh:Hid (Has w b 214 cs))(hk:w.cell? ⟨b,0,none⟩=some (I 2)):
 Calls prog 169 #[pT b 0] w λe w'=>(∃A c,e=.returned (.slice A 6 c)/\w'.ownsRow w.heap.size 250 1 (.slice A 6 c) 6 (ptrs b [0,1,2,3,4,5]))/\Below w.heap.size w w':=by
 obtain⟨i0,hi0,hz0,hz1,hz2⟩:=info_parts sZ;have hb:b<w.heap.size:=hh.out.lt;go_enter func169,ntmps169;go_wp2;go_region;go_wp2;have H1:=hI (rD (w:=w) (base:=w.heap.size) (e:=250) #[pT b 0,pT b 1,pT b 2] 3 (aj _) rfl dC);have hb1:Below w.heap.size w (w.alloc (.cells #[pT b 0,pT b 1,pT b 2] 250)):=(Below.refl _ _).alloc (aj _) _;have hk1:(w.alloc (.cells #[pT b 0,pT b 1,pT b 2] 250)).cell? ⟨b,0,none⟩=some (I 2):=(World.cell?_alloc_lt _ _ ⟨b,0,none⟩ hb).trans hk;have hs1:w.heap.size<=(w.alloc (.cells #[pT b 0,pT b 1,pT b 2] 250)).heap.size:=hb1.size;have hbl:b<(w.alloc (.cells #[pT b 0,pT b 1,pT b 2] 250)).heap.size:=aT hb hs1;generalize w.alloc (.cells #[pT b 0,pT b 1,pT b 2] 250)=w1 at*;go_region_law ((refine iy rfl _ _ 247 rfl w.heap.size 250 i0 (.pointer none) 1 8 underlying247 hi0 hz0 hz1 hz2 rfl dC _ 3 _ rfl (World.ownsRow.alloc H1.out _) _ 2 2 _ rfl rfl (jq _ _ _) zeS dC dC zeA ?_;intro v2 w2 hown2 hgrow2))
 have hb2:Below w.heap.size w w2:=((hb1.alloc hs1 _).drew.drew).grown hgrow2 zeA (λq hq=>zeU);have hk2:=(hb2.cell (p:=⟨b,0,none⟩) hb).trans hk;have hl2:b<w2.heap.size:=aT hb hb2.size;have gq:=hI hown2;clear hown2 hgrow2 hk1 hs1 hbl;clear H1 hb1;go_wp2_with (at_builtin;refine wpList_append_own _ rfl _ _ 247 rfl w.heap.size 250 i0 (.pointer none) 1 8 underlying247 hi0 hz0 hz1 hz2 rfl dC _ _ _ rfl (World.ownsRow.alloc gq.out _) ⟨w2.heap.size,0,none⟩ 1 1 [pT b 5] rfl rfl ?c1 ?c2 ?c3 ?c4 ?c5 ?_)
 case c2=>rfl
 case c3=>decide
 case c5=>have:=hb2.size;simp<;>omega
 exact zez
theorem Bh(b:Nat)(cs:bw)(w:aa)(hh:Hid (Has w b 214 cs))(hk:w.cell? ⟨b,0,none⟩=some (I 3)):
 Calls prog 169 #[pT b 0] w λe w'=>(∃A c,e=.returned (.slice A 6 c)/\w'.ownsRow w.heap.size 250 1 (.slice A 6 c) 6 (ptrs b [0,1,2,3,4,5]))/\Below w.heap.size w w':=by
 obtain⟨i0,hi0,hz0,hz1,hz2⟩:=info_parts sZ;have hb:b<w.heap.size:=hh.out.lt;go_enter func169,ntmps169;go_wp2;go_region;go_wp2;have H1:=hI (rD (w:=w) (base:=w.heap.size) (e:=250) #[pT b 0,pT b 1,pT b 2] 3 (aj _) rfl dC);have hb1:Below w.heap.size w (w.alloc (.cells #[pT b 0,pT b 1,pT b 2] 250)):=(Below.refl _ _).alloc (aj _) _;have hk1:(w.alloc (.cells #[pT b 0,pT b 1,pT b 2] 250)).cell? ⟨b,0,none⟩=some (I 3):=(World.cell?_alloc_lt _ _ ⟨b,0,none⟩ hb).trans hk;have hs1:w.heap.size<=(w.alloc (.cells #[pT b 0,pT b 1,pT b 2] 250)).heap.size:=hb1.size;have hbl:b<(w.alloc (.cells #[pT b 0,pT b 1,pT b 2] 250)).heap.size:=aT hb hs1;generalize w.alloc (.cells #[pT b 0,pT b 1,pT b 2] 250)=w1 at*;go_region_law ((refine iy rfl _ _ 247 rfl w.heap.size 250 i0 (.pointer none) 1 8 underlying247 hi0 hz0 hz1 hz2 rfl dC _ 3 _ rfl (World.ownsRow.alloc H1.out _) _ 2 2 _ rfl rfl (jq _ _ _) zeS dC dC zeA ?_;intro v2 w2 hown2 hgrow2))
 have hb2:Below w.heap.size w w2:=((hb1.alloc hs1 _).drew.drew).grown hgrow2 zeA (λq hq=>zeU);have hk2:=(hb2.cell (p:=⟨b,0,none⟩) hb).trans hk;have hl2:b<w2.heap.size:=aT hb hb2.size;have gq:=hI hown2;clear hown2 hgrow2 hk1 hs1 hbl;clear H1 hb1;go_wp2_with (at_builtin;refine wpList_append_own _ rfl _ _ 247 rfl w.heap.size 250 i0 (.pointer none) 1 8 underlying247 hi0 hz0 hz1 hz2 rfl dC _ _ _ rfl (World.ownsRow.alloc gq.out _) ⟨w2.heap.size,0,none⟩ 1 1 [pT b 5] rfl rfl ?c1 ?c2 ?c3 ?c4 ?c5 ?_)
 case c2=>rfl
 case c3=>decide
 case c5=>have:=hb2.size;simp<;>omega
 exact zez
theorem IE(b j:Nat)(h:j<8):(ptrs b ([0,1,2,6,7,15,8,16,9,17,10,18,11,19,12,20,13,21,14,22].take (4+2*(j+1))))=ptrs b ([0,1,2,6,7,15,8,16,9,17,10,18,11,19,12,20,13,21,14,22].take (4+2*j))++[pT b (7+j),pT b (15+j)]:=by have:j=0\/j=1\/j=2\/j=3\/j=4\/j=5\/j=6\/j=7:=oM;rcases this with rfl|rfl|rfl|rfl|rfl|rfl|rfl|rfl<;>rfl
theorem CW(b:Nat)(cs:bw)(w:aa)(hh:Hid (Has w b 214 cs))(hk:w.cell? ⟨b,0,none⟩=some (I 5)):
 Calls prog 169 #[pT b 0] w λe w'=>(∃A c,e=.returned (.slice A 20 c)/\w'.ownsRow w.heap.size 250 1 (.slice A 20 c) 20 (ptrs b [0,1,2,6,7,15,8,16,9,17,10,18,11,19,12,20,13,21,14,22]))/\Below w.heap.size w w':=by
 obtain⟨i0,hi0,hz0,hz1,hz2⟩:=info_parts sZ;have hb:b<w.heap.size:=hh.out.lt;go_enter func169,ntmps169;go_wp2;go_region;go_upto_region 7 with(fail);have H1:=hI (rD (w:=w) (base:=w.heap.size) (e:=250) #[pT b 0,pT b 1,pT b 2] 3 (aj _) rfl dC);have hb1:Below w.heap.size w (w.alloc (.cells #[pT b 0,pT b 1,pT b 2] 250)):=(Below.refl _ _).alloc (aj _) _;have hk1:(w.alloc (.cells #[pT b 0,pT b 1,pT b 2] 250)).cell? ⟨b,0,none⟩=some (I 5):=(World.cell?_alloc_lt _ _ ⟨b,0,none⟩ hb).trans hk;have hs1:w.heap.size<=(w.alloc (.cells #[pT b 0,pT b 1,pT b 2] 250)).heap.size:=hb1.size;have hbl:b<(w.alloc (.cells #[pT b 0,pT b 1,pT b 2] 250)).heap.size:=aT hb hs1;generalize w.alloc (.cells #[pT b 0,pT b 1,pT b 2] 250)=w1 at*;go_wp2_with (at_builtin;refine wpList_append_own _ rfl _ _ 247 rfl w.heap.size 250 i0 (.pointer none) 1 8 underlying247 hi0 hz0 hz1 hz2 rfl dC _ _ _ rfl (World.ownsRow.alloc H1.out _) ⟨w1.heap.size,0,none⟩ 1 1 [pT b 6] rfl rfl ?c1 ?c2 ?c3 ?c4 ?c5 ?_)
 case c2=>rfl
 case c3=>decide
 case c5=>first|omega|(simp<;>omega)
 intro v3 w3 hown3 hgrow3 _;have hb3:Below w.heap.size w w3:=((hb1.alloc hs1 _).drew).grown hgrow3 zeA (λq hq=>zeU);have lL:=hI hown3;clear hown3 hgrow3 hk1 H1 hb1;go_wp2_with fail;go_loopw [3,75] (λv i wr=>∃j:Nat,j<=8/\i=I j/\Hid (wr.ownsRow w.heap.size 250 1 v (4+2*j) (ptrs b ([0,1,2,6,7,15,8,16,9,17,10,18,11,19,12,20,13,21,14,22].take (4+2*j))))/\Below w.heap.size w wr) (λ_ i _=>8-(intOf i).toNat)
 case atStart=>exact⟨0,oM,rfl,lL,hb3⟩
 case round=>
  obtain⟨j,hj,rfl,HO,hbr⟩:=hrel;by_cases hlt:j<8
  ·have Rp:=hbr.size;have HP:=hI (IE b j hlt);go_wp2_with fail;(go_region_law ((refine iy rfl _ _ 247 rfl w.heap.size 250 i0 (.pointer none) 1 8 underlying247 hi0 hz0 hz1 hz2 rfl dC _ (4+2*j) _ rfl (World.ownsRow.alloc HO.out _) _ 2 2 _ rfl rfl (jq _ _ _) zeS (by unfold maxLen;omega) oM zeA ?_;intro v2 w2 hown2 hgrow2)));have hb2:Below w.heap.size w w2:=((hbr.alloc Rp _).drew).grown hgrow2 zeA (λq hq=>(HO.out.lt q hq).1);have gq:Hid (w2.ownsRow w.heap.size 250 1 v2 (4+2*(j+1)) (ptrs b ([0,1,2,6,7,15,8,16,9,17,10,18,11,19,12,20,13,21,14,22].take (4+2*(j+1))))):=hI (by rw[HP.out];exact hown2);clear hown2 hgrow2 HO HP;go_wp2_with fail;go_roundw
   case rel=>exact⟨j+1,oM,zeI,gq,hb2⟩
   case measure=>simp[intOf];omega
  ·(have Ye:j=8:=by omega);subst Ye;go_wp2;go_ret;obtain⟨A,c,rfl,-⟩:=dQ HO.out;exact⟨⟨A,c,rfl,HO.out⟩,hbr⟩
theorem LM(k:Int):(k=1/\idx k=[0,1,2,3,4])\/(k=2/\idx k=[0,1,2,3,4,5])\/(k=3/\idx k=[0,1,2,3,4,5])\/(k=5/\idx k=[0,1,2,6,7,15,8,16,9,17,10,18,11,19,12,20,13,21,14,22])\/(k≠1/\k≠2/\k≠3/\k≠5/\idx k=[0,1,2]):=by by_cases h1:k=1;exact .inl ⟨h1,by subst h1;rfl⟩;by_cases h2:k=2;exact .inr (.inl ⟨h2,by subst h2;rfl⟩);by_cases h3:k=3;exact .inr (.inr (.inl ⟨h3,by subst h3;rfl⟩));by_cases h5:k=5;exact .inr (.inr (.inr (.inl ⟨h5,by subst h5;rfl⟩)));exact .inr (.inr (.inr (.inr ⟨h1,h2,h3,h5,by unfold idx;rw[if_neg h1,if_neg oM,if_neg h5]⟩)))
theorem oD(b:Nat)(cs:bw)(k:Int)(w:aa)(hh:Has w b 214 cs)(hk:w.cell? ⟨b,0,none⟩=some (I k)):
 Calls prog 169 #[pT b 0] w λe w'=>(∃A c,e=.returned (.slice A (idx k).length c)/\w'.ownsRow w.heap.size 250 1 (.slice A (idx k).length c) (idx k).length (ptrs b (idx k)))/\Below w.heap.size w w':=by
 rcases LM k with⟨rfl,e⟩|⟨rfl,e⟩|⟨rfl,e⟩|⟨rfl,e⟩|⟨h1,h2,h3,h5,e⟩<;>rw[e]
 ·exact FN b cs w hh hk
 ·exact FO b cs w hh hk
 ·exact Bh b cs w hh hk
 ·exact CW b cs w hh hk
 ·refine(FM b cs k w hh hk (by simpa using h1) (by simpa using h2) (by simpa using h3) (by simpa using h5)).mono ?_;rintro e w' ⟨rfl,rfl⟩;exact⟨⟨_,3,rfl,(rD (w:=w) (base:=w.heap.size) (e:=250) #[pT b 0,pT b 1,pT b 2] 3 (aj _) rfl dC)⟩,((Below.refl _ _).alloc (aj _) _).drew⟩
end Go.Proofs.YtdhekhlmdefcnaaGreatDoor
namespace Go.Proofs.YtdhekhlmdefcnaaGreatDoor
open Go.RowKit
def Eb(sg:aw->Option (List (Option IntKind)))(cells:aw->Nat):List Field->Nat->Option (List (Option IntKind))
 |[],_=>some []
 |f::fs,o=>
  match sg f.type with
  |none=>none
  |some a=>if f.offset=o/\(f.name != "_")=true/\a.length=cells f.type then(Eb sg cells fs (o+a.length)).map (a++·)else none
def sig(P:aF):Nat->aw->Option (List (Option IntKind))
 |0,_=>none
 |d+1,t=>
  match P.underlying t with
  |some .bool=>some [none]
  |some (.int k)=>some [some k]
  |some (.array n e)=>
   match sig P d e with
   |some s=>if s.length=P.cellsOf e/\P.cellsOf t=n*s.length then some (List.replicate n s).flatten else none
   |none=>none
  |some (.struct fs)=>
   match Eb (sig P d) P.cellsOf fs.toList 0 with
   |some s=>if s.length=P.cellsOf t/\fs.all (·.name != "_")=true then some s else none
   |none=>none
  |_=>none
def abw:ae->Lit
 |.int k n=>.int k n
 |.bool b=>.bool b
 |_=>.bool false
def rE:Option IntKind->ae->Prop
 |some k,.int k' n=>k'=k/\(Lit.int k n).wf=true
 |none,.bool _=>True
 |_,_=>False
def Fit:List (Option IntKind)->List ae->Prop
 |[],[]=>True
 |k::ks,v::vs=>rE k v/\Fit ks vs
 |_,_=>False
theorem Fit.length:∀{s:List (Option IntKind)}{cs:List ae},Fit s cs->cs.length=s.length
 |[],[],_=>rfl
 |_::_,_::_,h=>by simp[Fit.length h.2]
 |[],_::_,h=>h.elim
 |_::_,[],h=>h.elim
theorem Fit.split:∀{a b:List (Option IntKind)}{cs:List ae},Fit (a++b) cs->Fit a (cs.take a.length)/\Fit b (cs.drop a.length)
 |[],_,_,h=>⟨trivial,h⟩
 |k::a,b,[],h=>h.elim
 |k::a,b,c::cs,h=>by obtain⟨h1,h2⟩:=h;obtain⟨h3,h4⟩:=Fit.split (a:=a) h2;exact⟨⟨h1,h3⟩,h4⟩
theorem Bi{P:aF}{d:Nat}(sg:aw->Option (List (Option IntKind)))(ih:∀t s cs,sg t=some s->Fit s cs->P.keyLits d t cs=some (cs.map abw))(all:List ae):
 ∀(fs:List Field)(o:Nat)(s:List (Option IntKind)),Eb sg P.cellsOf fs o=some s->Fit s (all.drop o)->
  ∃ls,fs.mapM (λf=>P.keyLits d f.type ((all.drop f.offset).take (P.cellsOf f.type)))=some ls/\ls.flatten=(all.drop o).map abw
 |[],o,s,h,hf=>by
  simp only[Eb,bq]at h;subst h
  match hd:all.drop o,hf with
  |[],_=>exact⟨[],rfl,rfl⟩
 |f::fs,o,s,h,hf=>by
  simp only[Eb]at h;cases ha:sg f.type with
  |none=>rw[ha]at h;cases h
  |some a=>rw[ha]at h;simp only at h;split at h;rename_i hc;obtain⟨h1,_,h3⟩:=hc;obtain⟨b,hb,rfl⟩:=bQ.1 h;obtain⟨f1,f2⟩:=Fit.split hf;rw[List.drop_drop]at f2;obtain⟨ls,e1,e2⟩:=Bi sg ih all fs (o+a.length) b hb f2;refine⟨((all.drop o).take a.length).map abw::ls,?_,?_⟩;rw[List.mapM_cons,h1,<-h3,ih f.type a _ ha f1,e1];rfl;rw[List.flatten_cons,e2,<-List.map_append,<-List.drop_drop,List.take_append_drop];cases h
theorem Ec{P:aF}{d:Nat}{e:aw}(s:List (Option IntKind))(he:s.length=P.cellsOf e)(ih:∀cs,Fit s cs->P.keyLits d e cs=some (cs.map abw))(all:List ae):
 ∀(n o:Nat),Fit (List.replicate n s).flatten (all.drop (o*P.cellsOf e))->
  ∃ls,(List.range' o n).mapM (λi=>P.keyLits d e ((all.drop (i*P.cellsOf e)).take (P.cellsOf e)))=some ls/\ls.flatten=(all.drop (o*P.cellsOf e)).map abw
 |0,o,hf=>by
  match hd:all.drop (o*P.cellsOf e),hf with
  |[],_=>exact⟨[],rfl,rfl⟩
 |n+1,o,hf=>by rw[List.replicate_succ,List.flatten_cons]at hf;obtain⟨f1,f2⟩:=Fit.split hf;rw[List.drop_drop,he,<-Nat.succ_mul]at f2;obtain⟨ls,e1,e2⟩:=Ec s he ih all n (o+1) f2;rw[he]at f1;refine⟨((all.drop (o*P.cellsOf e)).take (P.cellsOf e)).map abw::ls,?_,?_⟩;rw[List.range'_succ,List.mapM_cons,ih _ f1,e1];rfl;rw[List.flatten_cons,e2,<-List.map_append,Nat.succ_mul,<-List.drop_drop,List.take_append_drop]
theorem th{P:aF}:∀(d:Nat)(t:aw)(s:List (Option IntKind))(cs:List ae),sig P d t=some s->Fit s cs->P.keyLits d t cs=some (cs.map abw)
 |0,_,_,_,h,_=>by cases h
 |d+1,t,s,cs,h,hf=>by
  unfold sig at h;unfold Program.keyLits;split at h
  ·rename_i hu;simp only[bq]at h;subst h
   match cs,hf with
   |[.bool b],_=>simp[hu,abw]
  ·rename_i k hu;simp only[bq]at h;subst h
   match cs,hf with
   |[.int k' n],⟨⟨h1,h2⟩,_⟩=>subst h1;simp[hu,abw,h2]
  ·rename_i n e hu;cases he:sig P d e with
   |none=>rw[he]at h;cases h
   |some se=>rw[he]at h;simp only at h;split at h;rename_i hc;simp only[bq]at h;subst h;(have hlen:cs.length=P.cellsOf t:=by rw[hf.length,hc.2];simp);obtain⟨ls,e1,e2⟩:=Ec se hc.1 (λcs hcs=>th d e se cs he hcs) cs n 0 (by simpa using hf);(have e1':(List.range n).mapM (λi=>P.keyLits d e ((cs.drop (i*P.cellsOf e)).take (P.cellsOf e)))=some ls:=by rw[List.range_eq_range'];exact e1);(have e2':ls.flatten=cs.map abw:=by simpa using e2);simp only[hu,hlen,if_true,e1',cH,e2'];cases h
  ·rename_i fs hu;cases he:Eb (sig P d) P.cellsOf fs.toList 0 with
   |none=>rw[he]at h;cases h
   |some se=>rw[he]at h;simp only at h;split at h;rename_i hc;simp only[bq]at h;subst h;(have hlen:cs.length=P.cellsOf t:=by rw[hf.length,hc.1]);obtain⟨ls,e1,e2⟩:=Bi (sig P d) (λt s cs h1 h2=>th d t s cs h1 h2) cs fs.toList 0 se he (by simpa using hf);(have e2':ls.flatten=cs.map abw:=by simpa using e2);simp only[hu,hlen,hc.2,and_self,if_true,e1,cH,e2'];cases h
  ·cases h
theorem IG:∀{s:List (Option IntKind)}{a b:List ae},Fit s a->Fit s b->a.map abw=b.map abw->a=b
 |[],[],[],_,_,_=>rfl
 |k::s,x::a,y::b,ha,hb,h=>by
  simp only[List.map_cons,List.cons.injEq]at h;obtain⟨h1,h2⟩:=h;have:x=y:=by
   obtain⟨hx,_⟩:=ha;obtain⟨hy,_⟩:=hb;cases k with
   |none=>exact zeN
   |some k=>exact zeN
  rw[this,IG ha.2 hb.2 h2]
 |[],_::_,_,h,_,_=>h.elim
 |[],[],_::_,_,h,_=>h.elim
 |_::_,[],_,h,_,_=>h.elim
 |_::_,_::_,[],_,h,_=>h.elim
section
variable {P:aF}
theorem FP(t:aw)(m:Nat)(a b:bw)(s:List (Option IntKind))(hm:m<=10000)(hk:P.keyTypeAt m t=true)(hs:sig P m t=some s)(hA:((P.underlying t).map λd=>match d with|.struct _|.array _ _=>true|_=>false)=some true)(hc:P.cellsOf t=s.length)
 (ha:Fit s a.toList)(hb:Fit s b.toList)(r:Bool)(hrr:r=true↔a=b)(w:aa):(binOp .eql t (.agg a) (.agg b)).run P w=.ok (.bool r) w:=by
 have hfm:∀c:bw,Fit s c.toList->(Value.agg c).formed P t=true:=by
  intro c hcf;have:c.size=P.cellsOf t:=by rw[hc,<-hcf.length];simp
  cases hu:P.underlying t with
  |none=>rw[hu]at hA;cases hA
  |some d=>rw[hu]at hA;cases d<;>simp at hA<;>simp[Value.formed,hu,this]
 obtain⟨r',hr,hi⟩:=run_equalIn_deep (10000-m) m t hk w m m (.agg a) (.agg b) _ _ (hfm a ha) (hfm b hb) (th m t s _ hs ha) (th m t s _ hs hb);rw[show 10000-m+m=10000 by omega]at hr;have he:r'=r:=by rw[Bool.eq_iff_iff,hi,hrr];constructor;intro h;have:=IG ha hb h;exact Array.toList_inj.1 this;rintro rfl;rfl
 rw[run_eql_struct,hr,he];rfl
theorem za{o:Oper}{x:Act}{w:aa}{K:Act->aa->Prop}{Q:Exit->Act->aa->Prop}(t t2:aw)(m:Nat)(a b:bw)(s:List (Option IntKind))(u v:Operand)(ho:o.op=.binOp .eql t u v t2)(hu:x.eval u=.agg a)(hv:x.eval v=.agg b)
 (hm:m<=10000)(hk:P.keyTypeAt m t=true)(hs:sig P m t=some s)(hA:((P.underlying t).map λd=>match d with|.struct _|.array _ _=>true|_=>false)=some true)(hc:P.cellsOf t=s.length)(hG:P.eqGuardType P.depth t=false)
 (ha:Fit s a.toList)(hb:Fit s b.toList)(r:Bool)(hrr:r=true↔a=b)(h:K (x.put o.dst (.bool r)) w):o.wp P x w K Q:=by
 unfold Oper.wp execOp;simp only[ho,hu,hv,Sem.run_bind,run_eqGuard_agg w .eql t u v a b hG,Result.andThen_ok,FP t m a b s hm hk hs hA hc ha hb r hrr w,Sem.run_pure,Oper.upon_value];exact h
theorem CX{ops:Array Oper}{rest:List Oper}{o:Oper}{a:Act}{w:aa}{Q:Exit->Act->aa->Prop}(hg:Region.wanted o (yielded ops a.tmps)=true)
 (h:∀K:Act->aa->Prop,(∀a w,wpList P ops Q rest a w->K a w)->o.wp P a w K Q):wpList P ops Q (o::rest) a w:=
 wpList_step λK hK=>by rw[if_pos hg];exact h K hK
end
theorem xV:∀(l:List Int),(∀x∈l,(Lit.int .i64 x).wf=true)->Fit (List.replicate l.length (some .i64)) (ints l)
 |[],_=>trivial
 |x::l,h=>⟨⟨rfl,h x (List.mem_cons_self ..)⟩,xV l (λy hy=>h y (List.mem_cons_of_mem _ hy))⟩
theorem wf_i64{x:Int}(h1: -9223372036854775808<=x)(h2:x<=9223372036854775807):(Lit.int .i64 x).wf=true:=by have e1:IntKind.i64.min= -9223372036854775808:=dC;have e2:IntKind.i64.max=9223372036854775807:=dC;unfold Lit.wf;simp;omega
open Go.Proofs.Tryz
theorem nM{w:aa}{base:Nat}{e:aw}{A:Option Addr}{n c:Nat}{xs:List ae}(h:w.ownsRow base e 1 (.slice A n c) n xs):n<=c/\Reads w w.heap.size A xs:=by obtain⟨A',c',he,h1,_,h2⟩:=dQ h;injection he with e1 _ e3;subst e1 e3;exact⟨h1,h2⟩
theorem Aa{w:aa}{B b:Nat}{A:Option Addr}{l:List Nat}{k i:Nat}(h:Reads w B A (ptrs b l))(hi:l[k]?=some i):
 ∃bb o,A=some ⟨bb,o,none⟩/\bb<B/\w.cell? ⟨bb,o+k,none⟩=some (pT b i):=by
 have hk:(ptrs b l)[k]?=some (pT b i):=by rw[Ot,hi];rfl
 obtain⟨bb,o,hA,hb,hc⟩:=h (by rintro h0;rw[h0]at hk;simp at hk);exact⟨bb,o,hA,hb,hc _ _ hk⟩
theorem dh:(prog.info? 214).map (·.size)=some 23:=kR
theorem Ou:sig prog 5 214=some (List.replicate 23 (some .i64)):=kR
theorem gy:aN aQ= #[I (0),I 0,I 0,I 0,I 0,I 0,I 0,I 0,I 0,I 0,I 0,I 0,I 0,I 0,I 0,I 0,I 0,I 0,I 0,I 0,I 0,I 0,I 0]:=rfl
theorem Bj{f:List Int}(h:Wf f):Fit (List.replicate 23 (some .i64)) (aN f).toList:=by have:=xV f (λx hx=>wf_i64 (h.2 x hx).1 (h.2 x hx).2);rw[h.1]at this;exact this
theorem Ov(f:List Int)(hf:Wf f)(hh:qf f=false)(w:aa):
 Calls prog 170 #[.agg (aN f)] w λe w'=>e=.returned (.bool false)/\Below w.heap.size w w':=by
 obtain⟨k,hk⟩:=bY f 0 zeH;obtain⟨fr,hfr⟩:=bY f 1 zeH;have hbad:k<1\/5<k\/fr<0\/3<fr:=by unfold qf at hh;simp only[aD,hk,hfr,br,Bool.and_eq_false_iff,decide_eq_false_iff_not]at hh;omega
 have k0:=Has.new w 214 (aN f);have c0:=k0.aJ 0 _ (dO f 0 k hk);have c1:=k0.aJ 1 _ (dO f 1 fr hfr);have hb:Below w.heap.size w (w.alloc (.cells (aN f) 214)):=(Below.refl _ _).alloc (aj _) _;clear hk hfr hh k0;go_enter func170,ntmps170;rcases hbad with h|h|h|h;all_goals
  go_wp2_with fail;all_goals
   go_ret;exact⟨rfl,hb⟩
theorem Rq{f:List Int}(h:Wf f)(n:Nat):Wf (jM f n):=by
 refine⟨kX f n,?_⟩;unfold jM;have hd:∀i,-9223372036854775808<=f.getD i 0/\f.getD i 0<=9223372036854775807:=by
  intro i;rw[aD];cases hi:f[i]? with
  |none=>simp
  |some x=>exact h.2 x (aR hi)
 generalize (idx (f.getD 0 0)).take n=l;have h0:∀x∈aQ.set 0 (f.getD 0 0),-9223372036854775808<=x/\x<=9223372036854775807:=by intro x hx;rcases List.mem_or_eq_of_mem_set hx with hx|rfl;have:=List.eq_of_mem_replicate hx;omega;exact hd 0
 generalize aQ.set 0 (f.getD 0 0)=g at h0
 induction l generalizing g with
 |nil=>exact h0
 |cons i l ih=>refine ih _ ?_;intro x hx;rcases List.mem_or_eq_of_mem_set hx with hx|rfl;exact h0 x hx;exact hd i
theorem LN(f:List Int)(hf:Wf f)(hh:qf f=true)(w:aa):
 Calls prog 170 #[.agg (aN f)] w λe w'=>e=.returned (.bool (fC f))/\Below w.heap.size w w':=by
 obtain⟨k,hk⟩:=bY f 0 zeH;obtain⟨fr,hfr⟩:=bY f 1 zeH;have hgood:1<=k/\k<=5/\0<=fr/\fr<=3:=by unfold qf at hh;simp only[aD,hk,hfr,br,aV,decide_eq_true_eq]at hh;omega
 obtain⟨h1,h2,h3,h4⟩:=hgood;have HK:Hid (f.getD 0 0=k):=hI (by rw[aD,hk];rfl);have HF:=hI hf;have HH:=hI hh;have k0:=Has.new w 214 (aN f);have c0:=k0.aJ 0 _ (dO f 0 k hk);have c1:=k0.aJ 1 _ (dO f 1 fr hfr);have hb:Below w.heap.size w (w.alloc (.cells (aN f) 214)):=(Below.refl _ _).alloc (aj _) _;have t1:decide (k<1)=false:=by simp;omega
 have t2:decide (5<k)=false:=by simp;omega
 have t3:decide (fr<0)=false:=by simp;omega
 have t4:decide (3<fr)=false:=by simp;omega
 clear hk hfr hh hf;go_enter func170,ntmps170;go_upto_region 1 with(fail);generalize hw1:w.alloc (.cells (aN f) 214)=w1 at*;have hsz:w1.heap.size=w.heap.size+1:=by rw[<-hw1];simp
 clear hw1;have hg0:w.heap.size<w1.heap.size:=oM;generalize hG:w.heap.size=g0 at*;have HG:=hI hG;clear hG;have HS:=hI hsz;clear hsz;go_wp2_with fail;have hz0:aN (jM f 0)= #[I k,I 0,I 0,I 0,I 0,I 0,I 0,I 0,I 0,I 0,I 0,I 0,I 0,I 0,I 0,I 0,I 0,I 0,I 0,I 0,I 0,I 0,I 0]:=by unfold jM;rw[HK.out];rfl
 have kz:Has (w1.alloc (.cells #[I k,I 0,I 0,I 0,I 0,I 0,I 0,I 0,I 0,I 0,I 0,I 0,I 0,I 0,I 0,I 0,I 0,I 0,I 0,I 0,I 0,I 0,I 0] 214)) w1.heap.size 214 (aN (jM f 0)):=by rw[hz0];exact Has.new _ _ _
 have cz:=kz.aJ 0 (I k) (by rw[hz0];rfl);have Yf:=k0.alloc (.cells #[I k,I 0,I 0,I 0,I 0,I 0,I 0,I 0,I 0,I 0,I 0,I 0,I 0,I 0,I 0,I 0,I 0,I 0,I 0,I 0,I 0,I 0,I 0] 214);have hba:Below g0 w (w1.alloc (.cells #[I k,I 0,I 0,I 0,I 0,I 0,I 0,I 0,I 0,I 0,I 0,I 0,I 0,I 0,I 0,I 0,I 0,I 0,I 0,I 0,I 0,I 0,I 0] 214)):=hb.alloc (bA hg0) _;have hne:g0≠w1.heap.size:=oM;have hle:g0<=w1.heap.size:=oM;clear k0 c0 c1 hb hz0 HS;generalize w1.alloc (.cells #[I k,I 0,I 0,I 0,I 0,I 0,I 0,I 0,I 0,I 0,I 0,I 0,I 0,I 0,I 0,I 0,I 0,I 0,I 0,I 0,I 0,I 0,I 0] 214)=w2 at*;generalize w1.heap.size=g1 at*;refine(oD g1 _ k w2 kz cz).mono ?_;rintro e w3 ⟨⟨A1,n1,rfl,WT⟩,hb3⟩;have Rs:=Yf.after hb3;have kz3:=kz.after hb3;obtain⟨x0,hx0⟩:=bY f 0 (by rw[HF.out.1];decide);have hxk:x0=k:=by have:=HK.out;rw[aD,hx0]at this;exact this
 have c03:=Rs.aJ 0 _ (dO f 0 x0 hx0);rw[hxk]at c03;have IH:=hba.trans (hb3.mono (bA Yf.lt));clear hx0 hxk x0 Yf kz cz hba;go_wp2_with fail;refine(oD g0 _ k w3 Rs c03).mono ?_;rintro e w4 ⟨⟨A2,n2,rfl,II⟩,hb4⟩;have k04:=Rs.after hb4;have kz4:=kz3.after hb4;have Rt:=eD WT hb4;have WU:=IH.trans (hb4.mono (bA Rs.lt));clear Rs c03 kz3 IH WT;have rG:=hI (iW Rt (bT _));have gq:=hI (iW II (bT _));have Ru:=wG k;have HL:Hid (∀i,i∈idx k->i<23):=hI (FL k);clear Rt II hb3 hb4 hg0;go_wp2_with fail;go_loopw [31] (λi wr=>∃j:Nat,j<=(idx k).length/\i=I j/\Hid (∀q,q<j->∃i,(idx k)[q]?=some i/\ID (f.getD i 0)=true)/\Has wr g0 214 (aN f)/\Has wr g1 214 (aN (jM f j))/\
  Hid (wr.ownsRow 0 250 1 (.slice A1 (idx k).length n1) (idx k).length (ptrs g1 (idx k)))/\Hid (wr.ownsRow 0 250 1 (.slice A2 (idx k).length n2) (idx k).length (ptrs g0 (idx k)))/\Below g0 w wr) (λi _=>(idx k).length-(intOf i).toNat)
 case atStart=>exact⟨0,oM,rfl,hI (λq hq=>absurd hq oM),k04,kz4,rG,gq,WU⟩
 case round=>
  clear rG gq k04 kz4 WU;obtain⟨j,hj,rfl,HR,ka,kb,rG,gq,hbr⟩:=hrel;by_cases hlt:j<(idx k).length
  ·obtain⟨i,hi⟩:=bY (idx k) j hlt;have Ed:i<23:=HL.out i (aR hi);obtain⟨x,hx⟩:=bY f i (by rw[HF.out.1];exact Ed);obtain⟨y,hy⟩:=bY (jM f j) i (by rw[kX];exact Ed);obtain⟨hc1,hr1⟩:=nM rG.out;obtain⟨hc2,hr2⟩:=nM gq.out;obtain⟨b1,o1,rfl,_,e1⟩:=Aa hr1 hi;obtain⟨b2,o2,rfl,_,e2⟩:=Aa hr2 hi;have a1:=ka.aJ i _ (dO f i x hx);have z1:=kb.aJ i _ (dO _ i y hy);have z2:=kb.free i;have HI:=hI hi;have HX:Hid (f.getD i 0=x):=hI (by rw[aD,hx];rfl);clear hi hx hy hr1 hr2 hc1 hc2;by_cases hin:0<=x/\x<=1048576
   ·obtain⟨q1,q2⟩:=hin;(have u1:decide (x<0)=false:=zeG);(have u2:decide (1048576<x)=false:=zeG);go_wp2_with fail;go_region;go_wp2_with fail;go_roundw
    case rel=>refine⟨j+1,oM,zeI,hI (λq hq=>?_),ka.drew.far hne _,?_,hI (ew (w:=wr.drew) rG.out kb dC _ _),hI (ew (w:=wr.drew) gq.out kb dC _ _),hbr.drew.setCell hle _⟩;rcases cp q j with h|h;exact HR.out q h;(have:q=j:=by omega);subst this;exact⟨i,HI.out,by rw[HX.out];unfold ID;simp;omega⟩;have h:=kb.drew.set i (I x);rw[Bg]at h;rw[LL f j i (by rw[HK.out];exact HI.out),HX.out];exact h
    case measure=>simp[intOf];omega
   ·have HM:Hid (fC f=false):=hI (by
     have h1:(idx (f.getD 0 0)).all (λi=>ID (f.getD i 0))=false:=by rw[List.all_eq_false];refine⟨i,by rw[HK.out];exact aR HI.out,?_⟩;rw[HX.out];unfold ID;simp;omega
     unfold fC;rw[h1,Bool.and_false,Bool.false_and])
    have hor:x<0\/1048576<x:=oM;clear hin;rcases hor with h|h
    ·(have u1:decide (x<0)=true:=zeG);go_wp2_with fail;exact zeW
    ·(have u1:decide (1048576<x)=true:=zeG);(have u2:decide (x<0)=false:=zeG);go_wp2_with fail;exact zeW
  ·(have hjn:j=(idx k).length:=by omega);have HM:Hid (fC f=decide (f=jM f j)):=hI (by
    have h1:(idx (f.getD 0 0)).all (λi=>ID (f.getD i 0))=true:=by rw[bj];intro i hi;rw[HK.out]at hi;obtain⟨q,hq,rfl⟩:=List.getElem_of_mem hi;obtain⟨i',h1,h2⟩:=HR.out q oM;rw[bg hq]at h1;injection h1 with h1;rw[h1];exact h2
    unfold fC;rw[h1,HH.out,HK.out,<-hjn];rfl)
   have HWc:Hid (Wf (jM f j)):=hI (Rq HF.out j);have HD:Hid (decide (f=jM f j)=true↔aN f=aN (jM f j)):=hI (by rw[decide_eq_true_eq,Ro]);have hs1:Hid ((prog.info? 214).map (·.size)=some (aN f).size):=hI zeJ;have hs2:Hid ((prog.info? 214).map (·.size)=some (aN (jM f j)).size):=hI (by rw[cY _ (kX _ _)];exact dh);clear hjn;generalize jM f j=cf at*;go_wp2_with (first
    |(refine wpList_load_row rfl 214 (.tmp 1) rfl g0 rfl 214 (aN f) (0,0) _ ka underlying214 rfl hs1.out ?_)
    |(refine wpList_load_row rfl 214 (.tmp 3) rfl g1 rfl 214 (aN cf) (0,0) _ kb underlying214 rfl hs2.out ?_)
    |(refine CX rfl (λK hK=>za 214 214 5 (aN f) (aN cf) (List.replicate 23 (some .i64)) (.tmp 55) (.tmp 56) rfl rfl rfl dC kR Ou kR kR kR (Bj HF.out) (Bj HWc.out) _ HD.out (hK _ _ ?_))))
   exact zeW
theorem tj(f:List Int)(hf:Wf f)(w:aa):
 Calls prog 170 #[.agg (aN f)] w λe w'=>e=.returned (.bool (fC f))/\Below w.heap.size w w':=by
 cases hh:qf f with
 |true=>exact LN f hf hh w
 |false=>
  have:fC f=false:=by unfold fC;rw[hh];rfl
  rw[this];exact Ov f hf hh w
end Go.Proofs.YtdhekhlmdefcnaaGreatDoor
namespace Go.Proofs.YtdhekhlmdefcnaaGreatDoor.eQ
abbrev qM:=BitVec 32
def poly:qM:=0x04c11db7#32
def T(s:qM):qM:=if s.msb then(s<<<1)^^^poly else s<<<1
def Tn:Nat->qM->qM
 |0,s=>s
 |n+1,s=>Tn n (T s)
def byte(s:qM)(c:UInt8):qM:=Tn 8 (s^^^(BitVec.ofNat 32 c.toNat<<<24))
def run(s:qM):List UInt8->qM
 |[]=>s
 |c::l=>run (byte s c) l
def sum(l:List UInt8):qM:=run (~~~0#32) l
theorem IJ(s:qM)(a b:List UInt8):run s (a++b)=run (run s a) b:=by
 induction a generalizing s with
 |nil=>rfl
 |cons c a ih=>exact ih _
end Go.Proofs.YtdhekhlmdefcnaaGreatDoor.eQ
namespace Go.Proofs.YtdhekhlmdefcnaaGreatDoor
open Go.Proofs.Tryz Go.RowKit
abbrev U8(c:UInt8):ae:=.int .u8 (c.toNat:Int)
def bytes(l:List UInt8):List ae:=l.map U8
theorem pd(l:List UInt8):(bytes l).length=l.length:=by simp[bytes]
theorem LO(l:List UInt8)(i:Nat):(bytes l)[i]?=(l[i]?).map U8:=by simp[bytes]
theorem Reads.qg{w:aa}{B:Nat}{A:Option Addr}{xs:List UInt8}(h:Reads w B A (bytes xs)){k:Nat}{x:UInt8}(hx:xs[k]?=some x):
 ∃b o,A=some ⟨b,o,none⟩/\b<B/\w.cell? ⟨b,o+k,none⟩=some (U8 x):=by
 have hk:(bytes xs)[k]?=some (U8 x):=by rw[LO,hx];rfl
 exact zeF
theorem Ox(s:eQ.qM):IntKind.u32.wrap ((s.toNat:Int)*2)=((s<<<1).toNat:Int):=by have h:=s.isLt;rw[BitVec.toNat_shiftLeft,Nat.shiftLeft_eq];show(s.toNat:Int)*2 %4294967296=_;omega
theorem LP(s:eQ.qM):(s.toNat:Int)*(2:Int)%(4294967296:Int)=((s<<<1).toNat:Int):=Ox s
theorem Rv(s:eQ.qM):((s.toNat:Int)/2147483648==1)=s.msb:=by have h:=s.isLt;rw[BitVec.msb_eq_decide,Bool.eq_iff_iff];simp;omega
theorem u32_xor(s t:eQ.qM):bits .xor .u32 (s.toNat:Int) (t.toNat:Int)=((s^^^t).toNat:Int):=by
 have e1:BitVec.ofInt IntKind.u32.bits (s.toNat:Int)=s:=by simp[IntKind.bits]
 have e2:BitVec.ofInt IntKind.u32.bits (t.toNat:Int)=t:=by simp[IntKind.bits]
 show IntKind.u32.wrap (((BitVec.ofInt IntKind.u32.bits (s.toNat:Int)^^^BitVec.ofInt IntKind.u32.bits (t.toNat:Int)).toNat:Nat):Int)=_;rw[e1,e2];have h:=(s^^^t).isLt;show(((s^^^t).toNat:Nat):Int)%4294967296=_;omega
theorem Rw(c:UInt8):(c.toNat:Int)*(16777216:Int)=((BitVec.ofNat 32 c.toNat<<<24).toNat:Int):=by have h:=c.toNat_lt;rw[BitVec.toNat_shiftLeft,Nat.shiftLeft_eq,BitVec.toNat_ofNat];omega
theorem LQ{l:List UInt8}{k:Nat}{x:UInt8}(hx:l[k]?=some x):eQ.sum (l.take (k+1))=eQ.byte (eQ.sum (l.take k)) x:=by have hk:=(aX.1 hx).1;have he:=(aX.1 hx).2;unfold eQ.sum;rw[List.take_succ_eq_append_getElem hk,eQ.IJ,he];rfl
theorem Nh{k:IntKind}{a b:Int}(h:a=b):Value.int k a=Value.int k b:=by rw[h]
theorem Rx(n:Nat)(s:eQ.qM):eQ.Tn (n+1) s=eQ.T (eQ.Tn n s):=by
 induction n generalizing s with
 |zero=>rfl
 |succ n ih=>rw[eQ.Tn,ih];rfl
theorem Ni(A:Option Addr)(n c:Nat)(l:List UInt8)(w:aa)(hl:Hid (l.length=n))(hn:n<=1000)(hr:Reads w w.heap.size A (bytes l)):
 Calls prog 167 #[.slice A n c] w λe w'=>e=.returned (.int .u32 ((eQ.sum l).toNat:Int))/\w=w':=by
 go_enter func167,ntmps167;go_wp2;go_loop [3,9] (λv i=>∃k:Nat,k<=n/\i=I k/\v=.int .u32 ((eQ.sum (l.take k)).toNat:Int)) (λ_ i=>n-(intOf i).toNat)
 case atStart=>exact⟨0,oM,rfl,rfl⟩
 case round=>
  obtain⟨k,hk,rfl,rfl⟩:=hrel;by_cases hlt:k<n
  ·obtain⟨x,hx⟩:=bY l k (by rw[hl.out];exact hlt);obtain⟨b,o,rfl,hb,hcell⟩:=hr.qg hx;have hx8:=x.toNat_lt;have HX:=hI (LQ hx);clear hx;go_wp2;have HB:Hid (eQ.byte (eQ.sum (l.take k)) x=eQ.Tn 8 (eQ.sum (l.take k)^^^(BitVec.ofNat 32 x.toNat<<<24))):=rfl;have H0:Hid (bits .xor .u32 ((eQ.sum (l.take k)).toNat:Int) ((x.toNat:Int)*16777216)=((eQ.sum (l.take k)^^^(BitVec.ofNat 32 x.toNat<<<24)).toNat:Int)):=hI (by rw[Rw,u32_xor]);generalize eQ.sum (l.take k)^^^(BitVec.ofNat 32 x.toNat<<<24)=s0 at*;go_loop [3,18] (λv i=>∃j:Nat,j<=8/\i=I j/\v=.int .u32 ((eQ.Tn j s0).toNat:Int)) (λ_ i=>8-(intOf i).toNat)
   case atStart=>exact⟨0,oM,rfl,Nh H0.out⟩
   case round=>
    obtain⟨j,hj,rfl,rfl⟩:=hrel;by_cases hlt2:j<8
    ·have HT:=hI (Rx j s0);generalize eQ.Tn j s0=S at*;have hm:=Rv S;have HS:=hI (LP S);have hlt3:=S.isLt;cases hb:S.msb with
     |true=>
      rw[hb]at hm;have Yg:Hid (eQ.Tn (j+1) s0=(S<<<1)^^^eQ.poly):=hI zeQ;clear hb HT;go_wp2;go_round
      case rel=>exact⟨j+1,oM,zeI,Nh (by rw[Yg.out,HS.out];exact u32_xor (S<<<1) eQ.poly)⟩
      case measure=>simp[intOf];omega
     |false=>
      rw[hb]at hm;have Yg:Hid (eQ.Tn (j+1) s0=S<<<1):=hI zeQ;clear hb HT;go_wp2;go_round
      case rel=>exact⟨j+1,oM,zeI,Nh (by rw[Yg.out,HS.out])⟩
      case measure=>simp[intOf];omega
    ·(have Ye:j=8:=by omega);subst Ye;go_wp2;go_round
     case rel=>exact⟨k+1,oM,zeI,Nh (by rw[HX.out,HB.out])⟩
     case measure=>simp[intOf];omega
  ·have hkn:l.take k=l:=bZ (by rw[hl.out];omega);rw[hkn];clear hkn;go_wp2;go_ret;exact⟨rfl,rfl⟩
def three(x:Int):List UInt8:=[UInt8.ofNat (x.toNat/65536),UInt8.ofNat (x.toNat/256),UInt8.ofNat x.toNat]
def four(s:eQ.qM):List UInt8:=[UInt8.ofNat (s.toNat/16777216),UInt8.ofNat (s.toNat/65536),UInt8.ofNat (s.toNat/256),UInt8.ofNat s.toNat]
def jG(f:List Int)(n:Nat):List UInt8:=((idx (f.getD 0 0)).take n).flatMap λi=>three (f.getD i 0)
def body(f:List Int):List UInt8:=jG f (idx (f.getD 0 0)).length
def lu(f:List Int):List UInt8:=body f++four (eQ.sum (body f))
theorem wH(f:List Int)(n i:Nat)(h:(idx (f.getD 0 0))[n]?=some i):jG f (n+1)=jG f n++three (f.getD i 0):=by have hn:=(aX.1 h).1;have he:=(aX.1 h).2;unfold jG;rw[List.take_succ_eq_append_getElem hn,List.flatMap_append,he];simp
theorem nN(f:List Int):∀n,n<=(idx (f.getD 0 0)).length->(jG f n).length=3*n
 |0,_=>rfl
 |n+1,h=>by obtain⟨i,hi⟩:=bY (idx (f.getD 0 0)) n oM;rw[wH f n i hi,bm,nN f n oM];simp[three];omega
theorem FQ:(prog.info? 5).map (λi=>(i.zero,i.size,i.bytes))=some (some (.int .u8 0),1,1):=kR
theorem Ry{w w':aa}{base base':Nat}{e e':aw}{size size':Nat}{v v':ae}{n n':Nat}{xs xs':List ae}(h:w.ownsRow base e size v n xs)(h':w.ownsRow base' e' size' v' n' xs')(hne:e≠e')(hg:w.grownBy w' v'.ownBlock):
 w'.ownsRow base e size v n xs:=by
 refine h.kept hg ?_;rcases h.2 with⟨rfl,_⟩|⟨g,cap,cur,rfl,_,hh,_⟩;exact .inl rfl;refine .inr ?_;intro he;have:=own_ne h' (g:=g) (t:=e) (cs:=cur) hh hne;exact this he
theorem IK(x:Int)(h0:0<=x)(h1:x<=1048576):[Value.int .u8 (IntKind.u8.wrap (x/65536)),.int .u8 (IntKind.u8.wrap (x/256)),.int .u8 (IntKind.u8.wrap x)]=bytes (three x):=by
 unfold three bytes;simp only[List.map_cons,List.map_nil];have e:∀y:Int,0<=y->IntKind.u8.wrap y=((UInt8.ofNat y.toNat).toNat:Int):=by intro y hy;rw[UInt8.toNat_ofNat'];show y %256=_;omega
 have h2:(x/65536).toNat=x.toNat/65536:=oM;have h3:(x/256).toNat=x.toNat/256:=oM;rw[e _ oM,e _ oM,e _ h0,h2,h3]
theorem Bl(s:eQ.qM):(#[Value.int .u8 ((s.toNat:Int)/16777216),.int .u8 ((s.toNat:Int)/65536 %256),.int .u8 ((s.toNat:Int)/256 %256),.int .u8 ((s.toNat:Int)%256)]:bw).toList=bytes (four s):=by
 have h:=s.isLt;unfold four bytes;simp only[List.map_cons,List.map_nil];have e:∀y:Nat,(((UInt8.ofNat y).toNat:Nat):Int)=((y %256:Nat):Int):=by intro y;rw[UInt8.toNat_ofNat']
 have e1:s.toNat/16777216 %256=s.toNat/16777216:=oM;unfold U8;rw[e,e,e,e,e1];rfl
theorem LS(f:List Int)(hf:Wf f)(hm:fC f=false)(w:aa):
 Calls prog 166 #[.agg (aN f)] w λe w'=>e=.returned (.tuple #[.slice none 0 0,.iface 31 (I 1)])/\Below w.heap.size w w':=by
 have HF:=hI hf;have HM:=hI hm;clear hf hm;have hs1:Hid ((prog.info? 214).map (·.size)=some (aN f).size):=hI zeJ;have k0:=Has.new w 214 (aN f);have hb:Below w.heap.size w (w.alloc (.cells (aN f) 214)):=(Below.refl _ _).alloc (aj _) _;go_enter func166,ntmps166;go_wp2_with (first
  |(refine wpList_load_row rfl 214 (.tmp 1) rfl w.heap.size rfl 214 (aN f) (0,0) _ k0 underlying214 rfl hs1.out ?_)
  |(go_at_call 170;refine(tj f HF.out _).mono ?_;rintro e w1 ⟨rfl,hb1⟩;rw[HM.out]))
 go_ret2;exact⟨rfl,hb.trans (hb1.mono sM)⟩
theorem IL(f:List Int)(hf:Wf f)(hm:fC f=true)(w:aa):
 Calls prog 166 #[.agg (aN f)] w λe w'=>(∃A c,e=.returned (.tuple #[.slice A (lu f).length c,.nilIface])/\w'.ownsRow w.heap.size 5 1 (.slice A (lu f).length c) (lu f).length (bytes (lu f)))/\Below w.heap.size w w':=by
 obtain⟨i0,hi0,hz0,hz1,hz2⟩:=info_parts FQ;obtain⟨k,hk⟩:=bY f 0 zeH;have HK:Hid (f.getD 0 0=k):=hI (by rw[aD,hk];rfl);have HF:=hI hf;have HM:=hI hm;have hall:∀i,i∈idx k->0<=f.getD i 0/\f.getD i 0<=1048576:=by intro i hi;unfold fC at hm;simp only[aV,bj]at hm;have:=hm.1.2 i (by rw[HK.out];exact hi);unfold ID at this;simpa using this
 have HA:=hI hall;have hs1:Hid ((prog.info? 214).map (·.size)=some (aN f).size):=hI zeJ;have k0:=Has.new w 214 (aN f);have c0:=k0.aJ 0 _ (dO f 0 k hk);have hb:Below w.heap.size w (w.alloc (.cells (aN f) 214)):=(Below.refl _ _).alloc (aj _) _;have Hk0:=hI (dO f 0 k hk);clear hf hm hk hall;go_enter func166,ntmps166;go_upto_region 1 with(fail);generalize w.alloc (.cells (aN f) 214)=w1 at*;have hg0:=k0.lt;generalize hG:w.heap.size=g0 at*;have HG:=hI hG;clear hG;go_wp2_with (first
  |(refine wpList_load_row rfl 214 (.tmp 1) rfl g0 rfl 214 (aN f) (0,0) _ k0 underlying214 rfl hs1.out ?_)
  |(go_at_call 170;refine(tj f HF.out _).mono ?_;rintro e w2 ⟨rfl,hb1⟩;rw[HM.out];have k1:=k0.after hb1;have c1:=k1.aJ 0 _ Hk0.out;have hbw:=hb.trans (hb1.mono (bA hg0));clear k0 c0 hb hb1)
  |(go_at_call 169;refine(oD g0 (aN f) k _ k1 c1).mono ?_;rintro e w3 ⟨⟨A2,n2,rfl,II⟩,hb3⟩))
 have k3:=k1.after hb3;have IH:=hbw.trans (hb3.mono (bA k1.lt));have gq:=hI (iW II (bT _));have Ru:=wG k;have hg3:g0<=w3.heap.size:=bA k3.lt;clear II hb3 hbw k1 c1;go_loopw [4,14] (λv i wr=>∃j:Nat,j<=(idx k).length/\i=I j/\Hid (wr.ownsRow g0 5 1 v (3*j) (bytes (jG f j)))/\Has wr g0 214 (aN f)/\
  Hid (wr.ownsRow 0 250 1 (.slice A2 (idx k).length n2) (idx k).length (ptrs g0 (idx k)))/\Below g0 w wr) (λ_ i _=>(idx k).length-(intOf i).toNat)
 case atStart=>exact⟨0,oM,rfl,hI (World.ownsRow_nil _ _ _ _),k3,gq,IH⟩
 case round=>
  clear gq k3 IH hg3;obtain⟨j,hj,rfl,HV,ka,gq,hbr⟩:=hrel;by_cases hlt:j<(idx k).length
  ·obtain⟨i,hi⟩:=bY (idx k) j hlt;have Ed:i<23:=FL k i (aR hi);obtain⟨x,hx⟩:=bY f i (by rw[HF.out.1];exact Ed);obtain⟨hc2,hr2⟩:=nM gq.out;obtain⟨b2,o2,rfl,hb2,e2⟩:=Aa hr2 hi;have a1:=ka.aJ i _ (dO f i x hx);have HX:Hid (f.getD i 0=x):=hI (by rw[aD,hx];rfl);obtain⟨q1,q2⟩:=HA.out i (aR hi);rw[HX.out]at q1 q2;have HB:Hid (jG f (j+1)=jG f j++three x):=hI (by rw[wH f j i (by rw[HK.out];exact hi),HX.out]);have Rp:=bA ka.lt;have hga:=ka.lt;clear hi hx hr2 hc2;go_wp2_with fail;(go_region_law ((refine iy rfl _ _ 33 rfl g0 5 i0 (.int .u8 0) 1 1 underlying33 hi0 hz0 hz1 hz2 rfl dC _ (3*j) _ rfl (World.ownsRow.alloc HV.out _) _ 3 3 _ rfl rfl (jq _ _ _) (by intro u hu;simp at hu;rcases hu with rfl|rfl|rfl<;>rfl) (by unfold maxLen;omega) oM zeA ?_;intro v4 w4 Bn qh)));all_goals
    have FT:Hid (w4.ownsRow g0 5 1 v4 (3*(j+1)) (bytes (jG f (j+1)))):=hI (by
     (have e:bytes (jG f (j+1))=bytes (jG f j)++bytes (three x):=by rw[HB.out];simp[bytes]);rw[e,<-IK x q1 q2];exact Bn)
    have hb4:Below g0 w w4:=((hbr.alloc Rp _).drew).grown qh zeA (λq hq=>(HV.out.lt q hq).1);have ka4:Has w4 g0 214 (aN f):=((ka.alloc _).drew).grown qh (own_ne HV.out ka dC);have aar:=hI (Ry (w:=(wr.alloc _).drew) (gq.out.alloc _) (HV.out.alloc _) dC qh);clear Bn qh HV ka gq a1 e2;go_wp2_with fail;go_roundw
    case rel=>exact⟨j+1,oM,zeI,FT,ka4,aar,hb4⟩
    case measure=>simp[intOf];omega
  ·(have hjn:j=(idx k).length:=by omega);have HB:Hid (jG f j=body f):=hI (by unfold body;rw[HK.out,hjn]);(have hl3:(body f).length=3*j:=by rw[<-HB.out];exact nN f j (by rw[HK.out];exact hj));have HL3:=hI hl3;clear hl3 hjn;obtain⟨A4,c4,rfl,hc4,-,hr4⟩:=dQ HV.out;rw[HB.out]at hr4;go_wp2_with (first
    |(go_at_call 167;refine(Ni A4 (3*j) c4 (body f) _ HL3 oM hr4).mono ?_;rintro e w5 ⟨rfl,rfl⟩)
    |(at_builtin;refine wpList_append_own _ rfl _ _ 33 rfl g0 5 i0 (.int .u8 0) 1 1 underlying33 hi0 hz0 hz1 hz2 rfl dC _ _ _ rfl (World.ownsRow.alloc HV.out _) ⟨wr.heap.size,0,none⟩ 4 4 (bytes (four (eQ.sum (body f)))) rfl rfl ?c1 ?c2 ?c3 ?c4 ?c5 ?_))
   case c1=>rw[<-Bl];exact jq _ _ _
   case c2=>intro u hu;simp[bytes,four]at hu;rcases hu with rfl|rfl|rfl|rfl<;>rfl
   case c3=>unfold maxLen;omega
   case c4=>omega
   case c5=>have:=ka.lt;simp<;>omega
   intro v5 w5 hown5 Nj _;have Rp:=bA ka.lt;have hb5:Below g0 w w5:=(hbr.alloc Rp _).grown Nj zeA (λq hq=>(HV.out.lt q hq).1);(have hlen:(lu f).length=3*j+4:=by unfold lu;rw[bm,HL3.out];rfl);have Rz:Hid (w5.ownsRow g0 5 1 v5 (lu f).length (bytes (lu f))):=hI (by
    (have e:bytes (lu f)=bytes (body f)++bytes (four (eQ.sum (body f))):=by unfold lu;simp[bytes]);have h5:=hown5;rw[HB.out]at h5;rw[hlen,e];exact h5)
   clear hown5 Nj hlen;go_wp2;obtain⟨A5,c5,rfl,-⟩:=dQ Rz.out;go_ret2;refine⟨⟨A5,c5,rfl,?_⟩,HG.out▸hb5⟩;rw[HG.out];exact Rz.out
theorem CY{l1 l2:List UInt8}{k:Nat}{x y:UInt8}(h:l1.take k=l2.take k)(hx:l1[k]?=some x)(hy:l2[k]?=some y):(l1.take (k+1)=l2.take (k+1))↔x=y:=by have h1:=(aX.1 hx).1;have h2:=(aX.1 hy).1;have e1:=(aX.1 hx).2;have e2:=(aX.1 hy).2;rw[List.take_succ_eq_append_getElem h1,List.take_succ_eq_append_getElem h2,e1,e2,h];simp
theorem LU(w:aa)(a b:Nat):w.drewN (a+b)=(w.drewN a).drewN b:=by simp[World.drewN,Nat.add_assoc]
theorem Yh(x y:UInt8):((x.toNat:Int) !=(y.toNat:Int))=!decide (x=y):=by by_cases h:x=y;simp[h];have:x.toNat≠y.toNat:=λe=>h (UInt8.toNat_inj.1 e);simp[h];omega
theorem Oy(A1 A2:Option Addr)(n1 c1 n2 c2:Nat)(l1 l2:List UInt8)(w:aa)(hl1:Hid (l1.length=n1))(hl2:Hid (l2.length=n2))(hn1:n1<=1000)(hn2:n2<=1000)
 (hr1:Reads w w.heap.size A1 (bytes l1))(hr2:Reads w w.heap.size A2 (bytes l2)):
 Calls prog 168 #[.slice A1 n1 c1,.slice A2 n2 c2] w λe w'=>e=.returned (.bool (decide (l1=l2)))/\∃q,w.drewN q=w':=by
 by_cases hn:n1=n2
 ·subst hn;go_enter func168,ntmps168;go_wp2;go_loopw [13] (λi wr=>∃k q:Nat,k<=n1/\i=I k/\Hid (l1.take k=l2.take k)/\wr=w.drewN q) (λi _=>n1-(intOf i).toNat)
  case atStart=>exact⟨0,0,oM,rfl,hI rfl,rfl⟩
  case round=>
   obtain⟨k,q,hk,rfl,HE,rfl⟩:=hrel;by_cases hlt:k<n1
   ·obtain⟨x,hx⟩:=bY l1 k (by rw[hl1.out];exact hlt);obtain⟨y,hy⟩:=bY l2 k (by rw[hl2.out];exact hlt);obtain⟨b,o,rfl,hb,hcell⟩:=hr1.qg hx;obtain⟨b',o',rfl,hb',hcell'⟩:=hr2.qg hy;have hne:=Yh x y;have HS:=hI (CY HE.out hx hy);cases hd:decide (x=y)with
    |true=>
     rw[hd]at hne;have RA:Hid (l1.take (k+1)=l2.take (k+1)):=hI (HS.out.2 (by simpa using hd));clear hd hx hy HS HE;go_wp2_with fail;go_quiet (fail);go_wp2_with fail;go_roundw
     case rel=>exact⟨k+1,_,oM,zeI,RA,rfl⟩
     case measure=>simp[intOf];omega
    |false=>
     rw[hd]at hne;have RA:Hid (decide (l1=l2)=false):=hI (by
      rw[decide_eq_false_iff_not];rintro rfl;have:=HS.out.1 rfl;rw[this]at hd;simp at hd)
     clear hd hx hy HS HE;go_wp2_with fail;go_quiet (fail);go_wp2_with fail;go_ret;exact⟨by rw[RA.out];rfl,_,LU _ _ _⟩
   ·have RA:Hid (decide (l1=l2)=true):=hI (by
     have h:=HE.out;rw[bZ (by rw[hl1.out];omega),bZ (by rw[hl2.out];omega)]at h;simpa using h)
    clear HE;go_wp2_with fail;go_ret;exact⟨by rw[RA.out];rfl,_,rfl⟩
 ·have hd:decide (l1=l2)=false:=by rw[decide_eq_false_iff_not];rintro rfl;exact hn (by rw[<-hl1.out,<-hl2.out])
  rw[hd];have hne:((n1:Int) !=(n2:Int))=true:=by simp;omega
  clear hd hn;go_enter func168,ntmps168;go_wp2;go_ret;exact⟨rfl,0,rfl⟩
end Go.Proofs.YtdhekhlmdefcnaaGreatDoor
namespace Go.Proofs.YtdhekhlmdefcnaaGreatDoor
def nb(a b:Nat):Nat:=a^^^(a&&&b)
theorem rH(a b i:Nat):(nb a b).testBit i=(a.testBit i&&!b.testBit i):=by unfold nb;rw[Nat.testBit_xor,Nat.testBit_and];cases a.testBit i<;>cases b.testBit i<;>rfl
theorem Yi(a b:Nat):nb a b=a&&&(a^^^(a&&&b)):=by apply Nat.eq_of_testBit_eq;intro i;rw[rH,Nat.testBit_and,Nat.testBit_xor,Nat.testBit_and];cases a.testBit i<;>cases b.testBit i<;>rfl
theorem LV(a b:Nat):nb a b<=a:=by rw[Yi];exact Nat.and_le_left
theorem Bo{a b k:Nat}(h:a<k):nb a b<k:=Nat.lt_of_le_of_lt (LV a b) h
theorem FU(a:Nat)(h:a<2^63):a %2^IntKind.i64.bits=a:=Nat.mod_eq_of_lt zeX
theorem kY(a b:Nat)(ha:a<2^63)(hb:b<2^63):bits .and .i64 (a:Int) (b:Int)=((a&&&b:Nat):Int):=by unfold bits;simp only[BitVec.ofInt_natCast,BitVec.toNat_and,BitVec.toNat_ofNat];rw[FU a ha,FU b hb];have:a&&&b<=a:=Nat.and_le_left;exact zeK
theorem jH(a b:Nat)(ha:a<2^63)(hb:b<2^63):bits .or .i64 (a:Int) (b:Int)=((a|||b:Nat):Int):=by unfold bits;simp only[BitVec.ofInt_natCast,BitVec.toNat_or,BitVec.toNat_ofNat];rw[FU a ha,FU b hb];have:a|||b<2^63:=Nat.or_lt_two_pow ha hb;exact zeK
theorem rI(n a b:Nat)(ha:a<2^n):(BitVec.ofNat n a&&& ~~~BitVec.ofNat n b).toNat=nb a b:=by
 apply Nat.eq_of_testBit_eq;intro i;rw[rH,BitVec.toNat_and,Nat.testBit_and];have h1:(BitVec.ofNat n a).toNat=a:=by rw[BitVec.toNat_ofNat];exact Nat.mod_eq_of_lt ha
 rw[h1];by_cases hi:i<n
 ·have h2:(~~~BitVec.ofNat n b).toNat.testBit i=!b.testBit i:=by rw[BitVec.testBit_toNat,BitVec.getLsbD_not,BitVec.getLsbD_ofNat];simp[hi]
  rw[h2]
 ·have h3:a.testBit i=false:=Nat.testBit_lt_two_pow (aT ha (cn dC oM));simp[h3]
theorem zb(a b:Nat)(ha:a<2^63):bits .andNot .i64 (a:Int) (b:Int)=((nb a b:Nat):Int):=by unfold bits;simp only[BitVec.ofInt_natCast];rw[rI _ a b zeX];have:nb a b<=a:=LV a b;exact zeK
theorem CZ(n:Int):BitVec.ofInt 64 (IntKind.i64.wrap n)=BitVec.ofInt 64 n:=by apply BitVec.eq_of_toNat_eq;rw[BitVec.toNat_ofInt,BitVec.toNat_ofInt,IntKind.wrap_i64];congr 1;show _ %(18446744073709551616:Int)=_ %18446744073709551616;omega
theorem Bp(x:Int):BitVec.ofInt 64 (bits .xor .i64 (-1) x)= ~~~BitVec.ofInt 64 x:=by have h1:BitVec.ofInt 64 (-1)=BitVec.allOnes 64:=dC;show BitVec.ofInt 64 (IntKind.i64.wrap (((BitVec.ofInt 64 (-1)^^^BitVec.ofInt 64 x).toNat:Nat):Int))=_;rw[CZ,h1,BitVec.allOnes_xor,BitVec.ofInt_natCast,BitVec.ofNat_toNat,BitVec.setWidth_eq]
theorem mV(a b:Nat)(ha:a<2^63):bits .and .i64 (a:Int) (bits .xor .i64 (-1) (b:Int))=((nb a b:Nat):Int):=by show IntKind.i64.wrap (((BitVec.ofInt 64 (a:Int)&&&BitVec.ofInt 64 (bits .xor .i64 (-1) (b:Int))).toNat:Nat):Int)=_;rw[Bp,BitVec.ofInt_natCast,BitVec.ofInt_natCast,rI _ a b oM];have:nb a b<=a:=LV a b;exact zeK
theorem Oz(a k:Nat):(a:Int)/2^k=((a>>>k:Nat):Int):=by rw[Nat.shiftRight_eq_div_pow];simp
theorem jS(a k:Nat)(ha:a<2^63):bits .and .i64 ((a:Int)/2^k) 1=if a.testBit k then 1 else 0:=by
 rw[Oz];have h1:a>>>k<2^63:=Nat.lt_of_le_of_lt (by rw[Nat.shiftRight_eq_div_pow];exact Nat.div_le_self _ _) ha;have:=kY (a>>>k) 1 h1 dC;rw[show((1:Nat):Int)=1 from rfl]at this;rw[this,Nat.and_one_is_mod];have:a.testBit k=decide ((a>>>k)%2=1):=by rw[Nat.testBit,Nat.and_comm,Nat.and_one_is_mod];exact zeO
 rw[this];exact zeO
def iI(x:Int)(n:Nat):Nat:=(x %2^n).toNat
theorem qi(x:Int)(n:Nat):iI x n<2^n:=by unfold iI;have h0:(0:Int)<2^n:=Int.pow_pos dC;have h1:=Int.emod_nonneg x (Int.ne_of_gt h0);have h2:=Int.emod_lt_of_pos x h0;have h3:((2^n:Nat):Int)=2^n:=sM;omega
theorem wI(x:Int)(n:Nat)(hn:n<=62):bits .and .i64 x ((2^n-1:Nat):Int)=((iI x n:Nat):Int):=by
 have h0:(0:Int)<2^n:=Int.pow_pos dC;have hle:2^n<=2^62:=cn dC hn;have hdvd:(2:Int)^n∣2^64:=⟨2^(64-n),by rw[<-Int.pow_add];congr 1;omega⟩;have h64:BitVec.ofInt 64 x=BitVec.ofNat 64 (x %2^64).toNat:=by apply BitVec.eq_of_toNat_eq;rw[BitVec.toNat_ofInt,BitVec.toNat_ofNat];have:(x %2^64).toNat<2^64:=oM;rw[Nat.mod_eq_of_lt this];rfl
 show IntKind.i64.wrap (((BitVec.ofInt 64 x&&&BitVec.ofInt 64 ((2^n-1:Nat):Int)).toNat:Nat):Int)=_;rw[h64,BitVec.ofInt_natCast,BitVec.toNat_and,BitVec.toNat_ofNat,BitVec.toNat_ofNat,Nat.mod_eq_of_lt (a:=2^n-1) oM,Nat.and_two_pow_sub_one_eq_mod,Nat.mod_mod_of_dvd _ (Nat.pow_dvd_pow 2 oM)];have:(x %2^64).toNat %2^n=iI x n:=by
  unfold iI;have h1:((((x %2^64).toNat %2^n:Nat)):Int)=x %2^n:=by rw[Int.natCast_emod,Int.toNat_of_nonneg oM];simp only[Int.natCast_pow];exact Int.emod_emod_of_dvd x hdvd
  rw[<-h1];rfl
 rw[this];have:=qi x n;exact zeK
open Go.RowKit
def n3(x y z:UInt8):Nat:=x.toNat*65536+y.toNat*256+z.toNat
def ie(b:List UInt8)(j:Nat):Nat:=n3 (b.getD (3*j) 0) (b.getD (3*j+1) 0) (b.getD (3*j+2) 0)
def iJ(b:List UInt8):Nat->List Int
 |0=>aQ.set 0 (ie b 0)
 |n+1=>(iJ b n).set ((idx (ie b 0)).getD n 0) (ie b n)
def jN(b:List UInt8):List Int:=iJ b (idx (ie b 0)).length
def dec(b:List UInt8):Int×List Int:=
 if b.length<7\/80<b.length then(3,aQ)else
 if¬b.drop (b.length-4)=four (eQ.sum (b.take (b.length-4)))then(15,aQ)else
 if¬(b.length-4)%3=0 then(3,aQ)else
 if¬(idx (ie b 0)).length*3=b.length-4 then(3,aQ)else
 if fC (jN b)then(0,jN b)else(3,aQ)
def Ee(e:Int):ae:=if e=0 then .nilIface else .iface 31 (I e)
theorem LW(x y z:UInt8):n3 x y z<16777216:=by have:=x.toNat_lt;have:=y.toNat_lt;have:=z.toNat_lt;unfold n3;omega
theorem RB(x y z:UInt8):bits .or .i64 (bits .or .i64 ((x.toNat:Int)*65536) ((y.toNat:Int)*256)) (z.toNat:Int)=((n3 x y z:Nat):Int):=by
 have hx:=x.toNat_lt;have hy:=y.toNat_lt;have hz:=z.toNat_lt;have e1:(x.toNat:Int)*65536=((x.toNat*65536:Nat):Int):=oM;have e2:(y.toNat:Int)*256=((y.toNat*256:Nat):Int):=oM;have o1:x.toNat*65536|||y.toNat*256=x.toNat*65536+y.toNat*256:=by have:=Nat.two_pow_add_eq_or_of_lt (i:=16) (b:=y.toNat*256) oM x.toNat;rw[show 2^16*x.toNat=x.toNat*65536 by omega]at this;exact this.symm
 have o2:(x.toNat*65536+y.toNat*256)|||z.toNat=x.toNat*65536+y.toNat*256+z.toNat:=by have:=Nat.two_pow_add_eq_or_of_lt (i:=8) (b:=z.toNat) oM (x.toNat*256+y.toNat);have e:2^8*(x.toNat*256+y.toNat)=x.toNat*65536+y.toNat*256:=oM;rw[e]at this;exact this.symm
 rw[e1,e2,jH _ _ oM oM,o1,jH _ _ oM oM,o2];rfl
theorem mh(b:List UInt8):∀n,(iJ b n).length=23
 |0=>by simp[iJ,aQ]
 |n+1=>by rw[iJ,List.length_set,mh b n]
theorem xW(b:List UInt8):∀n,Wf (iJ b n)
 |0=>⟨mh b 0,λx hx=>by
  unfold iJ at hx;rcases List.mem_or_eq_of_mem_set hx with hx|rfl;have:=List.eq_of_mem_replicate hx;omega
  ·have:=LW (b.getD (3*0) 0) (b.getD (3*0+1) 0) (b.getD (3*0+2) 0);unfold ie;omega⟩
 |n+1=>⟨mh b _,λx hx=>by
  unfold iJ at hx;rcases List.mem_or_eq_of_mem_set hx with hx|rfl;exact(xW b n).2 x hx
  ·have:=LW (b.getD (3*n) 0) (b.getD (3*n+1) 0) (b.getD (3*n+2) 0);unfold ie;omega⟩
theorem Reads.drop{w:aa}{B b o:Nat}{xs:List ae}(h:Reads w B (some ⟨b,o,none⟩) xs)(k:Nat):Reads w B (some ⟨b,o+k,none⟩) (xs.drop k):=λhn=>by
 have h0:xs≠[]:=by rintro rfl;simp at hn
 obtain⟨b',o',e,hb,hc⟩:=h h0;injection e with e;injection e with e1 e2;subst e1 e2;refine⟨b,o+k,rfl,hb,λj u hu=>?_⟩;rw[List.getElem?_drop]at hu;have:=hc _ u hu;rw[show o+k+j=o+(k+j)by omega];exact this
theorem IM(l:List UInt8)(k:Nat):bytes (l.take k)=(bytes l).take k:=by simp[bytes,List.map_take]
theorem IP(l:List UInt8)(k:Nat):bytes (l.drop k)=(bytes l).drop k:=by simp[bytes,List.map_drop]
section
variable {f:List Int}(hm:fC f=true)
include hm
theorem RD:∀i,i∈idx (f.getD 0 0)->0<=f.getD i 0/\f.getD i 0<=1048576:=by intro i hi;unfold fC at hm;simp only[aV,bj]at hm;have:=hm.1.2 i hi;unfold ID at this;simpa using this
theorem Vi:f=jM f (idx (f.getD 0 0)).length:=by unfold fC at hm;simp only[aV,decide_eq_true_eq]at hm;exact hm.2
omit hm in
theorem RF:(lu f).length=3*(idx (f.getD 0 0)).length+4:=by unfold lu body;rw[bm,nN f _ (aj _)];rfl
omit hm in
omit hm in
omit hm in
end
structure Lay where
 secs:Nat
 routes:List Nat
 delay:Nat
structure Lay.Ok(L:Lay):Prop where
 RG:1<=L.secs
 uQ:L.secs<=12
 many1:1<=L.routes.length
 ja:L.routes.length<=8
 delay:L.delay<=20
 low:∀r∈L.routes,1<=r
 high:∀r∈L.routes,r<2^L.secs
 apart:L.routes.Nodup
structure St where
 set:Nat
 used:List Nat
 idle:List Nat
def St.zero:St:=⟨0,List.replicate 8 0,List.replicate 8 0⟩
structure St.Fits(s:St)(M:Nat):Prop where
 set:s.set<256
 lM:s.used.length=8
 lN:s.idle.length=8
 used:∀x∈s.used,x<4096
 idle:∀x∈s.idle,x<=M
def eV(s:St):List ae:=I s.set::(ints (zs s.used)++ints (zs s.idle))
def cJ(s:St):bw:=(eV s).toArray
inductive Err where
 |ok
 |bare(e:Int)
 |place(e:Int)(p:Nat)
def iX(S:Int)(rs:List Int):Option Nat:=rs.findIdx? λr=>decide (r<=0)||decide (2^S.toNat<=r)
def twice(rs:List Int)(i:Nat):Bool:=(rs.take i).contains (rs.getD i 0)
def kZ(rs:List Int):Option Nat:=(List.range rs.length).find? (twice rs)
def aag(S:Int)(n:Nat)(d:Int):Prop:=S<1\/12<S\/n<1\/8<n\/d<0\/20<d
instance (S:Int) (n:Nat) (d:Int):Decidable (aag S n d):=by unfold aag;infer_instance
def ib(S:Int)(rs:List Int)(d:Int):Err:=
 if aag S rs.length d then .bare 2 else
 match iX S rs with
 |some i=>.place 1 i
 |none=>match kZ rs with
  |some i=>.place 9 i
  |none=>.ok
def gI(rs:List Nat)(i:Nat):Nat->Nat
 |0=>0
 |k+1=>if k≠i/\rs.getD i 0&&&rs.getD k 0≠0 then gI rs i k|||1<<<k else gI rs i k
def conf(rs:List Nat)(i:Nat):Nat:=gI rs i rs.length
def dp(rs:List Nat):List Nat:=(List.range rs.length).map (conf rs)
def one(delay clear wanted:Nat)(s:St)(k r:Nat):St:=
 if s.set.testBit k then
  let u:=s.used.getD k 0|||nb r clear
  let i:=if wanted.testBit k then 0 else s.idle.getD k 0+1
  if u=r/\nb r clear=0\/u=0/\delay<i then⟨nb s.set (1<<<k),s.used.set k 0,s.idle.set k 0⟩
  else⟨s.set,s.used.set k u,s.idle.set k i⟩
 else s
def lO(L:Lay)(clear wanted:Nat)(s:St):Nat->St
 |0=>s
 |k+1=>one L.delay clear wanted (lO L clear wanted s k) k (L.routes.getD k 0)
def Ab(rs:List Nat)(clear wanted set k:Nat):Bool:=
 wanted.testBit k&&!set.testBit k&&decide (set&&&conf rs k=0)&&decide (nb (rs.getD k 0) clear=0)
def lc(rs:List Nat)(clear wanted set:Nat):Nat->Nat
 |0=>set
 |k+1=>if Ab rs clear wanted (lc rs clear wanted set k) k then lc rs clear wanted set k|||1<<<k else lc rs clear wanted set k
def shows(rs:List Nat)(clear wanted:Nat)(s:St)(k:Nat):Bool:=
 s.set.testBit k&&decide (s.used.getD k 0=0)&&decide (nb (rs.getD k 0) clear=0)&&wanted.testBit k
def ld(rs:List Nat)(clear wanted:Nat)(s:St):Nat->Nat
 |0=>0
 |k+1=>if shows rs clear wanted s k then ld rs clear wanted s k|||1<<<k else ld rs clear wanted s k
def nP(L:Lay)(clear wanted:Nat)(s:St):St:=
 let t:=lO L clear wanted s L.routes.length
 {t with set:=lc L.routes clear wanted t.set L.routes.length}
def step(L:Lay)(c w:Int)(s:St):St×Nat:=
 let clear:=iI c L.secs;let wanted:=iI w L.routes.length
 (nP L clear wanted s,ld L.routes clear wanted (nP L clear wanted s) L.routes.length)
open Go.Proofs.Tryz
def Bq(xs:List Int)(v:Int):Int:=match xs.findIdx? (·==v)with|some i=>i|none=> -1
theorem OA(xs:List Int)(v:Int)(k:Nat)(h:xs[k]?=some v)(hn:∀j,j<k->xs[j]?≠some v):Bq xs v=k:=by
 have:xs.findIdx? (·==v)=some k:=by rw[List.findIdx?_eq_some_iff_getElem];obtain⟨hk,hx⟩:=aX.1 h;refine⟨hk,by simpa using hx,λj hj=>?_⟩;have hj':j<xs.length:=oM;have:=hn j hj;simpa[hj']using this
 simp[Bq,this]
theorem LX(xs:List Int)(v:Int)(hn:∀j,j<xs.length->xs[j]?≠some v):Bq xs v= -1:=by
 have:xs.findIdx? (·==v)=none:=by rw[List.findIdx?_eq_none_iff];intro x hx;obtain⟨j,hj,rfl⟩:=List.getElem_of_mem hx;have:=hn j hj;simpa[hj]using this
 simp[Bq,this]
theorem LY(A:Option Addr)(c:Nat)(xs:List Int)(v:Int)(w:aa)(B:Nat)(hn:xs.length<=1000000)(hr:Reads w B A (ints xs)):
 Calls prog 121 #[.slice A xs.length c,I v] w λe w'=>e=.returned (I (Bq xs v))/\w=w':=by
 go_enter func121,ntmps121;go_wp2;go_loop [8] (λi=>∃k:Nat,k<=xs.length/\i=I k/\Hid (∀j,j<k->xs[j]?≠some v)) (λi=>xs.length-(intOf i).toNat)
 case atStart=>exact⟨0,oM,rfl,λj hj=>absurd hj oM⟩
 case round=>
  obtain⟨k,hk,rfl,hno⟩:=hrel;by_cases hlt:k<xs.length
  ·obtain⟨x,hx⟩:=bY xs k hlt;obtain⟨b,o,rfl,hb,hcell⟩:=hr.at_ hx;have Hx:=hI hx;clear hx;by_cases hv:x=v
   ·have hIx:=hI (OA xs v k (by rw[Hx.out,hv]) hno.out);(have ht:(v==x)=true:=by simp[hv]);clear hv;go_wp2;go_ret;exact⟨by rw[hIx.out];rfl,rfl⟩
   ·(have ht:(v==x)=false:=by simp;exact λh=>hv h.symm);have hV:=hI hv;clear hv;go_wp2;go_round
    case rel=>refine⟨k+1,oM,zeI,λj hj=>?_⟩;by_cases e:j=k;subst e;rw[Hx.out];intro h;injection h with h;exact hV.out h;exact hno.out j oM
    case measure=>simp[intOf];omega
  ·have hIx:=hI (LX xs v (λj hj=>hno.out j oM));go_wp2;go_ret;exact⟨by rw[hIx.out];rfl,rfl⟩
theorem Br(xs:List Int)(v:Int):decide (0<=Bq xs v)=xs.contains v:=by
 unfold Bq;cases h:xs.findIdx? (·==v)with
 |none=>
  rw[List.findIdx?_eq_none_iff]at h;have:xs.contains v=false:=by rw[List.contains_eq_any_beq,List.any_eq_false];intro x hx;have:=h x hx;simp at this⊢;omega
  rw[this];rfl
 |some i=>
  rw[List.findIdx?_eq_some_iff_getElem]at h;obtain⟨hi,hx,_⟩:=h;have:xs.contains v=true:=by rw[List.contains_eq_any_beq,List.any_eq_true];exact⟨xs[i],List.getElem_mem hi,by simp at hx⊢;omega⟩
  rw[this];simp
theorem uw(A:Option Addr)(n c:Nat)(xs:List Int)(v:Int)(w:aa)(B:Nat)(hx:xs.length=n)(hn:xs.length<=1000000)(hr:Reads w B A (ints xs))(b:Bool)(hb:xs.contains v=b):
 Calls prog 90 #[.slice A n c,I v] w λe w'=>e=.returned (.bool b)/\w=w':=by
 subst hx;go_enter func90,ntmps90;go_wp2_with (go_at_call 121;refine(LY _ _ _ _ _ _ hn hr).mono ?_;rintro e w' ⟨rfl,rfl⟩)
 go_ret;refine⟨?_,rfl⟩;rw[<-hb,<-Br];rfl
def Ef(w w':aa):Err->ae->Prop
 |.ok,v=>v=.nilIface
 |.bare e,v=>v=.iface 31 (I e)
 |.place e p,v=>∃g,w.heap.size<=g/\v=.iface 149 (pT g 0)/\Has w' g 151 #[I e,I p]
def wJ(w:aa)(r:Err)(e:Ending)(w':aa):Prop:=∃v,e=.returned v/\Ef w w' r v/\Below w.heap.size w w'
theorem LZ{S:Int}{rs:List Int}{d:Int}(h:aag S rs.length d):ib S rs d=.bare 2:=by unfold ib;rw[if_pos h]
theorem rJ{S:Int}{rs:List Int}{k:Nat}{x:Int}(hx:rs[k]?=some x)(hb:x<=0\/2^S.toNat<=x)
 (hg:∀j r,j<k->rs[j]?=some r->0<r/\r<2^S.toNat):iX S rs=some k:=by
 unfold iX;rw[List.findIdx?_eq_some_iff_getElem];obtain⟨hk,hx⟩:=aX.1 hx;refine⟨hk,by rw[hx];simpa using hb,λj hj=>?_⟩;have hj':j<rs.length:=oM;have:=hg j _ hj (bg hj');simp;omega
theorem rK{S:Int}{rs:List Int}(hg:∀j r,j<rs.length->rs[j]?=some r->0<r/\r<2^S.toNat):iX S rs=none:=by unfold iX;rw[List.findIdx?_eq_none_iff];intro x hx;obtain⟨j,hj,rfl⟩:=List.getElem_of_mem hx;have:=hg j _ hj (bg hj);simp;omega
theorem Eg{rs:List Int}{k:Nat}{x:Int}(hx:rs[k]?=some x):twice rs k=(rs.take k).contains x:=by unfold twice;rw[aD,hx];rfl
theorem C0{rs:List Int}{k:Nat}(hk:k<rs.length)(h:twice rs k=true)(hg:∀j,j<k->twice rs j=false):kZ rs=some k:=by unfold kZ;rw[List.find?_range_eq_some];exact⟨h,by simpa using hk,λj hj=>by simpa using hg j hj⟩
theorem ux{rs:List Int}(hg:∀j,j<rs.length->twice rs j=false):kZ rs=none:=by unfold kZ;rw[List.find?_eq_none];intro j hj;simpa using hg j (by simpa using hj)
theorem IQ{S:Int}{rs:List Int}{d:Int}{k:Nat}(h:¬aag S rs.length d)(hb:iX S rs=some k):ib S rs d=.place 1 k:=by unfold ib;rw[if_neg h,hb]
theorem L0{S:Int}{rs:List Int}{d:Int}{k:Nat}(h:¬aag S rs.length d)(hb:iX S rs=none)(ht:kZ rs=some k):ib S rs d=.place 9 k:=by unfold ib;rw[if_neg h,hb,ht]
theorem Nk{S:Int}{rs:List Int}{d:Int}(h:¬aag S rs.length d)(hb:iX S rs=none)(ht:kZ rs=none):ib S rs d=.ok:=by unfold ib;rw[if_neg h,hb,ht]
theorem Vj(S:Int)(h1:1<=S)(h2:S<=12):wrap64 (2^S.toNat)=2^S.toNat:=by have:S=1\/S=2\/S=3\/S=4\/S=5\/S=6\/S=7\/S=8\/S=9\/S=10\/S=11\/S=12:=oM;rcases this with rfl|rfl|rfl|rfl|rfl|rfl|rfl|rfl|rfl|rfl|rfl|rfl<;>decide+kernel
theorem OB(S d:Int)(A:Option Addr)(c:Nat)(xs:List Int)(w:aa)(hr:Reads w w.heap.size A (ints xs))
 (hc:xs.length<=c)(h1:1<=S)(h2:S<=12)(h3:1<=xs.length)(h4:xs.length<=8)(h5:0<=d)(h6:d<=20):
 Calls prog 60 #[.agg #[I S,.slice A xs.length c,I d]] w (wJ w (ib S xs d)):=by
 have HP:=hI (Vj S h1 h2);have HO:Hid (¬aag S xs.length d):=hI (by unfold aag;omega);go_enter func60,ntmps60;go_wp2;go_loop [41] (λi=>∃k:Nat,k<=xs.length/\i=I k/\Hid (∀j r,j<k->xs[j]?=some r->0<r/\r<2^S.toNat)) (λi=>xs.length-(intOf i).toNat)
 case atStart=>exact⟨0,oM,rfl,λj r hj=>absurd hj oM⟩
 case round=>
  obtain⟨k,hk,rfl,hno⟩:=hrel;by_cases hlt:k<xs.length
  ·obtain⟨x,hx⟩:=bY xs k hlt;obtain⟨b,o,rfl,hb,hcell⟩:=hr.at_ hx;have Hx:=hI hx;clear hx;go_wp2;(have hbad:x<=0\/wrap64 (2^S.toNat)<=x:=zeV);rw[HP.out]at hbad;rw[IQ HO.out (rJ Hx.out hbad hno.out)];exact zeC
   ·go_round
    case rel=>(have hgood:0<x/\x<wrap64 (2^S.toNat):=zeV);rw[HP.out]at hgood;refine⟨k+1,oM,zeI,λj r hj hr=>?_⟩;by_cases e:j=k;subst e;rw[Hx.out]at hr;injection hr with hr;subst hr;exact hgood;exact hno.out j r oM hr
    case measure=>simp[intOf];omega
   ·(have hbad:x<=0:=zeV);rw[IQ HO.out (rJ Hx.out (.inl hbad) hno.out)];exact zeC
  ·have HB:=hI (rK (S:=S) (rs:=xs) (λj r hj hr=>hno.out j r oM hr));clear hno;go_wp2;go_loop [63] (λi=>∃k:Nat,k<=xs.length/\i=I k/\Hid (∀j,j<k->twice xs j=false)) (λi=>xs.length-(intOf i).toNat)
   case atStart=>exact⟨0,oM,rfl,λj hj=>absurd hj oM⟩
   case round=>
    obtain⟨k,hk,rfl,hno⟩:=hrel;by_cases hlt:k<xs.length
    ·obtain⟨x,hx⟩:=bY xs k hlt;obtain⟨b,o,rfl,hb,hcell⟩:=hr.at_ hx;have HT:Hid (twice xs k=(xs.take k).contains x):=hI (Eg hx);clear hx;(have htk:(xs.take k).length=k:=by rw[List.length_take];omega);(have hrt:Reads w w.heap.size (some ⟨b,o,none⟩) (ints (xs.take k)):=by unfold ints;rw[List.map_take];exact hr.take k);have IR:=hI htk;clear htk;cases IU:twice xs k with
     |false=>
      have Bt:=hI IU;clear IU;(go_wp2_with (go_at_call 90;refine(uw _ k _ (xs.take k) x _ w.heap.size IR.out (by rw[IR.out];omega) (hrt.alloc (aj _) _) false (by rw[<-HT.out,Bt.out])).mono ?_;rintro e w' ⟨rfl,rfl⟩));go_round
      case rel=>refine⟨k+1,oM,zeI,λj hj=>?_⟩;by_cases e:j=k;subst e;exact Bt.out;exact hno.out j oM
      case measure=>simp[intOf];omega
     |true=>have Bt:=hI IU;clear IU;(go_wp2_with (go_at_call 90;refine(uw _ k _ (xs.take k) x _ w.heap.size IR.out (by rw[IR.out];omega) (hrt.alloc (aj _) _) true (by rw[<-HT.out,Bt.out])).mono ?_;rintro e w' ⟨rfl,rfl⟩));rw[L0 HO.out HB.out (C0 hlt Bt.out hno.out)];exact zeC
    ·have HC:=hI (Nk HO.out HB.out (ux (λj hj=>hno.out j oM)));go_wp2;rw[HC.out];exact zeP
theorem uR(S d:Int)(A:Option Addr)(c:Nat)(xs:List Int)(w:aa)(hn:xs.length<=9223372036854775807)(hc:xs.length<=c)(hr:Reads w w.heap.size A (ints xs)):
 Calls prog 60 #[.agg #[I S,.slice A xs.length c,I d]] w (wJ w (ib S xs d)):=by
 by_cases hout:aag S xs.length d
 ·rw[LZ hout];have hx:S<1\/(1<=S/\12<S)\/(1<=S/\S<=12/\xs.length<1)\/(1<=S/\S<=12/\1<=xs.length/\8<xs.length)\/
   (1<=S/\S<=12/\1<=xs.length/\xs.length<=8/\d<0)\/(1<=S/\S<=12/\1<=xs.length/\xs.length<=8/\0<=d/\20<d):=by unfold aag at hout;omega
  clear hout;rcases hx with h|⟨h1,h⟩|⟨h1,h2,h⟩|⟨h1,h2,h3,h⟩|⟨h1,h2,h3,h4,h⟩|⟨h1,h2,h3,h4,h5,h⟩;all_goals
   go_enter func60,ntmps60;go_wp2;exact zeP
 ·unfold aag at hout;exact OB S d A c xs w hr hc oM oM oM oM oM oM
theorem tv(n:Nat)(h:n<=12):wrap64 (wrap64 (2^n)-1)=((2^n-1:Nat):Int):=by have:n=0\/n=1\/n=2\/n=3\/n=4\/n=5\/n=6\/n=7\/n=8\/n=9\/n=10\/n=11\/n=12:=oM;rcases this with rfl|rfl|rfl|rfl|rfl|rfl|rfl|rfl|rfl|rfl|rfl|rfl|rfl<;>decide+kernel
theorem xX(S d:Int)(A:Option Addr)(n c:Nat)(xs:List Int)(w:aa)(B:Nat)(mC:Hid (xs.length=n))(hn:n<=8)(hc:n<=c)(hB:B<=w.heap.size)(hr:Reads w B A (ints xs))
 (hok:Hid (ib S xs d=.ok)):
 Calls prog 60 #[.agg #[I S,.slice A n c,I d]] w λe w'=>e=.returned .nilIface/\Below w.heap.size w w':=by
 have h:=mC.out;subst h;refine(uR S d A c xs w oM hc (hr.more hB)).mono ?_;rintro e w' ⟨v,rfl,hv,hb⟩;rw[hok.out]at hv;exact⟨by rw[show v=.nilIface from hv],hb⟩
theorem Vk(S d:Int)(A:Option Addr)(n c:Nat)(xs:List Int)(a b:Int)(w:aa)(mC:Hid (xs.length=n))(hn:n<=8)(hc:n<=c)(hr:Reads w w.heap.size A (ints xs))(hs1:1<=S)(hs2:S<=12)
 (hok:Hid (ib S xs d=.ok)):
 Calls prog 187 #[.agg #[I S,.slice A n c,I d],.agg #[I a,I b]] w λe w'=>
  e=.returned (.tuple #[.agg #[I (iI a S.toNat),I (iI b n)],.nilIface])/\Below w.heap.size w w':=by
 obtain⟨s,rfl⟩:∃s:Nat,S=s:=⟨S.toNat,oM⟩;have HA:Hid (bits .and .i64 a (wrap64 (wrap64 (2^s)-1))=iI a s):=hI (by rw[tv s oM,wI a s oM]);have HB:Hid (bits .and .i64 b (wrap64 (wrap64 (2^n)-1))=iI b n):=hI (by rw[tv n oM,wI b n oM]);go_enter func187,ntmps187;go_wp2_with (go_at_call 60;refine(xX _ _ _ _ _ xs _ w.heap.size mC hn hc zeA (((hr.alloc sM _).alloc zeA _).alloc zeA _) hok).mono ?_;rintro e w1 ⟨rfl,hb⟩)
 have k0:=(Has.new' w 51 #[I s,.slice A n c,I d] w.heap.size rfl|>.alloc (.cells #[I a,I b] 155)|>.alloc (.cells #[I 0,I 0] 155)).after hb;have k1:=(Has.new' (w.alloc (.cells #[I s,.slice A n c,I d] 51)) 155 #[I a,I b] (w.heap.size+1) sM|>.alloc (.cells #[I 0,I 0] 155)).after hb;have k2:=(Has.new' ((w.alloc (.cells #[I s,.slice A n c,I d] 51)).alloc (.cells #[I a,I b] 155)) 155 #[I 0,I 0] (w.heap.size+2) sM).after hb;have hw:Below w.heap.size w w1:=((((Below.refl _ _).alloc (aj _) _).alloc sM _).alloc zeA _).trans (hb.mono zeA);clear hb;have c00:=k0.aJ 0 _ rfl;have c01:=k0.aJ 1 _ rfl;have c10:=k1.aJ 0 _ rfl;have c11:=k1.aJ 1 _ rfl;have c20:=k2.aJ 0 _ rfl;have c21:=k2.aJ 1 _ rfl;have f20:=k2.free 0;have f21:=k2.free 1;go_region;go_wp2;refine bodyPost_ret (gh rfl _ _ _ _ _ _ rfl ((k2.set 0 _).set 1 _).drew underlying155 rfl kR) rfl ⟨?_,((hw.setCell zeA _).setCell zeA _).drew⟩;have e1:=HA.out;have e2:=HB.out;simp[e1,e2]
theorem rL:(prog.info? 3).map (λi=>(i.zero,i.size,i.bytes))=some (some (.int .i64 0),1,8):=kR
theorem Bu(rs:List Nat)(i:Nat):∀k,k<=8->gI rs i k<2^k
 |0,_=>by simp[gI]
 |k+1,h=>by have ih:=Bu rs i k oM;have h1:gI rs i k<2^(k+1):=aT ih (cn dC oM);rw[gI];split;refine Nat.or_lt_two_pow h1 ?_;rw[Nat.shiftLeft_eq,Nat.one_mul];exact Nat.pow_lt_pow_right dC oM;exact h1
theorem iY(rs:List Nat)(i k:Nat)(hk:k<=8):gI rs i k<256:=
 aT (Bu rs i k hk) (cn (n:=2) dC hk)
theorem Bv(k:Nat)(h:k<=8):wrap64 (2^k)=((1<<<k:Nat):Int):=by have:k=0\/k=1\/k=2\/k=3\/k=4\/k=5\/k=6\/k=7\/k=8:=oM;rcases this with rfl|rfl|rfl|rfl|rfl|rfl|rfl|rfl|rfl<;>decide+kernel
theorem Bw(k:Nat)(h:k<=8):1<<<k<2^63:=by have:k=0\/k=1\/k=2\/k=3\/k=4\/k=5\/k=6\/k=7\/k=8:=oM;rcases this with rfl|rfl|rfl|rfl|rfl|rfl|rfl|rfl|rfl<;>decide
theorem gz{l:List Nat}{k x:Nat}(h:l[k]?=some x):l.getD k 0=x:=by rw[aD,h];rfl
theorem IV{rs:List Nat}{i k r x:Nat}(hr:rs[i]?=some r)(hx:rs[k]?=some x)(hne:k≠i)(ha:r&&&x≠0):gI rs i (k+1)=gI rs i k|||1<<<k:=by rw[gI,gz hr,gz hx,if_pos ⟨hne,ha⟩]
theorem Bx{rs:List Nat}{i k r x:Nat}(hr:rs[i]?=some r)(hx:rs[k]?=some x)(h:k=i\/r&&&x=0):gI rs i (k+1)=gI rs i k:=by rw[gI,gz hr,gz hx,if_neg (by rintro⟨h1,h2⟩;exact h.elim h1 h2)]
theorem IW(rs:List Nat)(i:Nat)(h:i<rs.length):(dp rs).take (i+1)=(dp rs).take i++[conf rs i]:=by
 have hl:i<(dp rs).length:=by simpa[dp]using h
 rw[List.take_succ_eq_append_getElem hl];simp[dp]
theorem jT(rs:List Nat):(dp rs).length=rs.length:=by simp[dp]
theorem pg(S d:Int)(A:Option Addr)(n c:Nat)(rs:List Nat)(w:aa)(mC:Hid (rs.length=n))(h1:1<=n)(hn:n<=8)(hc:n<=c)(hr:Reads w w.heap.size A (ints (zs rs)))
 (hlt:Hid (∀r∈rs,r<4096))(hok:Hid (ib S (zs rs) d=.ok)):
 Calls prog 97 #[.agg #[I S,.slice A n c,I d]] w λe w'=>
  (∃A c,e=.returned (.tuple #[.slice A n c,.nilIface])/\w'.ownsRow w.heap.size 3 1 (.slice A n c) n (ints (zs (dp rs))))/\Below w.heap.size w w':=by
 obtain⟨i0,hi0,hz0,hz1,hz2⟩:=info_parts rL;go_enter func97,ntmps97;go_wp2_with (go_at_call 60;refine(xX _ _ _ _ _ (zs rs) _ w.heap.size (hI (by rw[dw];exact mC.out)) hn hc zeA (hr.alloc sM _) hok).mono ?_;rintro e w1 ⟨rfl,hb⟩;obtain⟨hq,hf⟩:=LK hb)
 have hw:Below w.heap.size w w1:=((Below.refl _ _).alloc (aj _) _).trans (hb.mono sM);have k0:=(Has.new' w 51 #[I S,.slice A n c,I d] w.heap.size rfl).after hb;clear hb hq hf;go_loopw [5,19] (λv i wr=>∃k:Nat,k<=n/\i=I k/\wr.ownsRow w1.heap.size 3 1 v k (ints (zs ((dp rs).take k)))/\Below w1.heap.size w1 wr) (λ_ i _=>n-(intOf i).toNat)
 case atStart=>exact⟨0,oM,rfl,by simpa[ints,zs]using World.ownsRow_nil _ _ _ _,Below.refl _ _⟩
 case round=>
  obtain⟨k,hk,rfl,hown,hwr⟩:=hrel;have c1:=(k0.after hwr).aJ 1 _ rfl;by_cases hlt1:k<n
  ·obtain⟨r,hx⟩:=bY rs k (by rw[mC.out];exact hlt1);have hrw:=(hr.below hw).below (hwr.mono hw.size);obtain⟨b,o,rfl,hb,hcell⟩:=hrw.at_ (jR hx);have hr4:r<4096:=hlt.out r (aR hx);have Hx:=hI hx;clear hx;go_wp2_with fail;go_loop [8,27] (λm j=>∃l:Nat,l<=n/\j=I l/\m=I (gI rs k l)) (λ_ j=>n-(intOf j).toNat)
   case atStart=>exact⟨0,oM,rfl,rfl⟩
   case round=>
    obtain⟨l,hl,rfl,rfl⟩:=hrel;by_cases hlt2:l<n
    ·obtain⟨x,hx⟩:=bY rs l (by rw[mC.out];exact hlt2);obtain⟨b',o',hA',hb',hcell'⟩:=hrw.at_ (jR hx);cases hA';have hx4:x<4096:=hlt.out x (aR hx);have HX:=hI hx;clear hx;have HM:=hI (iY rs k l oM);go_wp2_with fail
     ·(have h0:(l:Int)=k:=zeV);go_round
      case rel=>exact⟨l+1,oM,uv oM,uv (by rw[Bx Hx.out HX.out (.inl oM)])⟩
      case measure=>simp[intOf];omega
     ·(have h0:¬(l:Int)=k:=zeV);(have h2:((l:Int) !=(k:Int))=true/\(bits .and .i64 (r:Int) (x:Int) !=0)=true:=zeV);have h1:=h2.2;go_round
      case rel=>refine⟨l+1,oM,uv oM,uv ?_⟩;rw[kY r x oM oM]at h1;(have h3:r&&&x≠0:=by intro h;rw[h]at h1;simp at h1);rw[IV Hx.out HX.out oM h3,Bv l oM,jH _ _ (Nat.lt_trans HM.out dC) (Bw l oM)]
      case measure=>simp[intOf];omega
     ·(have h0:¬(l:Int)=k:=zeV);(have h2:((l:Int) !=(k:Int))=false\/(bits .and .i64 (r:Int) (x:Int) !=0)=false:=zeV);have h1:(bits .and .i64 (r:Int) (x:Int) !=0)=false:=h2.resolve_left zeG;go_round
      case rel=>refine⟨l+1,oM,uv oM,uv ?_⟩;rw[kY r x oM oM]at h1;(have h3:r&&&x=0:=by have:=(bne_eq_false_iff_eq.1 h1);omega);rw[Bx Hx.out HX.out (.inr h3)]
      case measure=>simp[intOf];omega
    ·(have hln:l=n:=by omega);have HC:Hid (gI rs k l=conf rs k):=hI (by unfold conf;rw[mC.out,hln]);clear hln;go_wp2_with (at_builtin;refine wpList_append_own _ rfl _ _ 49 rfl w1.heap.size 3 i0 (.int .i64 0) 1 8 underlying49 hi0 hz0 hz1 hz2 rfl dC _ _ _ rfl (hown.alloc _) ⟨wr.heap.size,0,none⟩ 1 1 [I (gI rs k l)] rfl rfl ?c1 ?c2 ?c3 ?c4 ?c5 ?_)
     case c2=>rfl
     case c3=>unfold maxLen;omega
     case c4=>omega
     case c5=>have:=hwr.size;omega
     intro v' w' hown' hgrow _;have aas:Below w1.heap.size w1 w':=(hwr.alloc hwr.size _).grown hgrow (by have:=hwr.size;simp;omega) (λq hq=>(hown.lt q hq).1);clear hcell hrw c1 hown;go_wp2_with fail;go_roundw
     case rel=>refine⟨k+1,oM,zeI,?_,aas⟩;(have hrow:(ints (zs ((dp rs).take (k+1))))=ints (zs (List.take k (dp rs)))++[I (gI rs k l)]:=by rw[IW rs k (by rw[mC.out];exact hlt1),HC.out];simp[ints,zs]);rw[hrow];exact hown'
     case measure=>simp[intOf];omega
  ·(have hkn:k=n:=by omega);subst hkn;obtain⟨A1,c1,rfl,_,-,_⟩:=dQ hown;go_wp2_with fail;go_ret2;refine⟨⟨_,_,rfl,?_⟩,hw.trans (hwr.mono hw.size)⟩;(have hrow:(dp rs).take k=dp rs:=by rw[bZ (by rw[jT,mC.out];omega)]);rw[hrow]at hown;exact iW hown hw.size
def fJ(w:aa)(g:Nat)(L:Lay):Prop:=∃vr vc,Has w g 198 #[I L.secs,vr,I L.delay,vc]/\
 w.ownsRow 0 3 1 vr L.routes.length (ints (zs L.routes))/\w.ownsRow 0 3 1 vc L.routes.length (ints (zs (dp L.routes)))
theorem fJ.after{w w':aa}{g:Nat}{L:Lay}(h:fJ w g L)(hb:Below w.heap.size w w'):fJ w' g L:=by obtain⟨vr,vc,h1,h2,h3⟩:=h;exact⟨vr,vc,h1.after hb,eD h2 hb,eD h3 hb⟩
theorem Lay.Ok.small{L:Lay}(h:L.Ok):∀r∈L.routes,r<4096:=λr hr=>
 aT (h.high r hr) (cn (n:=2) dC h.uQ)
theorem rM{L:Lay}(h:L.Ok):ib L.secs (zs L.routes) L.delay=.ok:=by
 have h1:=h.RG;have h2:=h.uQ;have h3:=h.many1;have h4:=h.ja;have h5:=h.delay;refine Nk (by unfold aag;rw[dw];omega) (rK ?_) (ux ?_);intro j r _ hr;rw[sY]at hr;obtain⟨x,hx,rfl⟩:=bQ.1 hr;have hm:=aR hx;have a:=h.low x hm;have b:=h.high x hm;have:((2^L.secs:Nat):Int)=2^((L.secs:Int).toNat):=sM;omega
 ·intro j hj;rw[dw]at hj;obtain⟨x,hx⟩:=bY L.routes j hj;rw[Eg (jR hx),Bool.eq_false_iff];intro hc;have hm:(x:Int)∈(zs L.routes).take j:=by simpa using hc
  rw[zs,<-List.map_take,List.mem_map]at hm;obtain⟨y,hy,he⟩:=hm;have hyx:y=x:=oM;subst hyx;obtain⟨i,hi,hyi⟩:=List.getElem_of_mem hy;rw[List.length_take]at hi;rw[List.getElem_take]at hyi;obtain⟨_,hxj⟩:=aX.1 hx;have:=(List.getElem_inj h.apart (h₀:=oM) (h₁:=hj)).1 (hyi.trans hxj.symm);omega
theorem Vl(A:Option Addr)(n c:Nat)(L:Lay)(w:aa)(hL:L.Ok)(mC:Hid (L.routes.length=n))(hc:n<=c)(hr:Reads w w.heap.size A (ints (zs L.routes))):
 Calls prog 91 #[.agg #[I L.secs,.slice A n c,I L.delay]] w λe w'=>
  (∃g,w.heap.size<=g/\e=.returned (.tuple #[pT g 0,.nilIface])/\fJ w' g L)/\Below w.heap.size w w':=by
 obtain⟨i0,hi0,hz0,hz1,hz2⟩:=info_parts rL;have hn1:1<=n:=by rw[<-mC.out];exact hL.many1
 have Bz:n<=8:=by rw[<-mC.out];exact hL.ja
 obtain⟨b,o,rfl,hb,hcells⟩:=hr (by intro h;have:=congrArg List.length h;rw[dG,dw,mC.out]at this;simp at this;omega);go_enter func91,ntmps91;go_wp2_with (first|(go_at_call 97;refine(pg _ _ _ _ _ L.routes _ mC hn1 Bz hc ((hr.alloc (aj _) _).more sM) (hI hL.small) (hI (rM hL))).mono ?_;rintro e w1 ⟨⟨Ac,nc,rfl,Yj⟩,hb1⟩;obtain⟨hq,hf⟩:=LK hb1;have hz:w.heap.size<w1.heap.size:=(by have:=hb1.size;simp at this;omega))|(at_builtin;refine wpList_append_own _ rfl _ _ 49 rfl w.heap.size 3 i0 (.int .i64 0) 1 8 underlying49 hi0 hz0 hz1 hz2 rfl dC _ _ _ rfl (World.ownsRow_lit w1 #[] 0 (bA hz) (bT _) rfl) ⟨b,o,none⟩ n c (ints (zs L.routes)) rfl ?c1 ?c2 ?c3 ?c4 ?c5 ?c6 ?_))
 case c1=>rw[dG,dw,mC.out,Nat.mul_one]
 case c2=>intro j u hu;rw[FK,World.cell?_alloc_lt _ _ _ (by show b<_;omega),hq _ _ (by simp;omega),World.cell?_alloc_lt _ _ _ hb];exact hcells j u hu
 case c3=>intro u hu;simp only[ints,List.mem_map]at hu;obtain⟨x,_,rfl⟩:=hu;rfl
 case c4=>unfold maxLen;omega
 case c5=>omega
 case c6=>simp;omega
 intro v' w2 hown2 hg2 _;obtain⟨A2,d2,rfl,aa9,-,_⟩:=dQ hown2;have k0:Has w2 w.heap.size 51 #[I L.secs,.slice (some ⟨b,o,none⟩) n c,I L.delay]:=
  (((Has.new' w 51 #[I L.secs,.slice (some ⟨b,o,none⟩) n c,I L.delay] w.heap.size rfl).after hb1).alloc _).grown hg2 (by simp[Value.ownBlock];omega)
 have hw2:Below w1.heap.size w1 w2:=((Below.refl _ _).alloc (aj _) _).grown hg2 sM (λq hq=>by simp[Value.ownBlock]at hq;omega);have aat:Below w.heap.size w w2:=(((Below.refl _ _).alloc (aj _) _).trans (hb1.mono sM)).trans (hw2.mono oM);have Vm:=eD Yj hw2;have c00:=k0.aJ 0 _ rfl;have c01:=k0.aJ 1 _ rfl;have c02:=k0.aJ 2 _ rfl;have f01:=k0.free 1;have hz2:w.heap.size<w2.heap.size:=k0.lt;clear hq hf;(go_wp2_with fail;go_ret2;have e0:=mC.out;refine⟨⟨_,?_,rfl,.slice A2 n d2,.slice Ac n nc,Has.new' _ _ _ _ sM,?_,?_⟩,(aat.setCell (aj _) _).alloc zeG _⟩);exact bA hz2;rw[e0];exact iW ((ew hown2 k0 dC 1 _).alloc _) (bT _);rw[e0];exact iW ((ew Vm k0 dC 1 _).alloc _) (bT _)
end Go.Proofs.YtdhekhlmdefcnaaGreatDoor
namespace Go.Proofs.YtdhekhlmdefcnaaGreatDoor
open Go.RowKit
theorem OC(s:St)(h1:s.used.length=8)(h2:s.idle.length=8):(cJ s).size=17:=by simp[cJ,eV,dG,dw,h1,h2]
theorem xY{t:St}{k x:Nat}(h:t.used[k]?=some x):(cJ t)[1+k]?=some (I x):=by have hk:k<t.used.length:=(aX.1 h).1;rw[Nat.add_comm];show(I t.set::(ints (zs t.used)++ints (zs t.idle))).toArray[k+1]?=_;rw[ba,aY,gZ (by rw[dG,dw];exact hk),xU,sY,h];rfl
theorem xZ{t:St}{k y:Nat}(h8:t.used.length=8)(h:t.idle[k]?=some y):(cJ t)[9+k]?=some (I y):=by rw[show 9+k=(8+k)+1 by omega];show(I t.set::(ints (zs t.used)++ints (zs t.idle))).toArray[8+k+1]?=_;rw[ba,aY,fe (by rw[dG,dw];omega),dG,dw,h8,Nat.add_sub_cancel_left,xU,sY,h];rfl
theorem ze(t:St)(v:Nat):(cJ t).setIfInBounds 0 (I v)=cJ {t with set:=v}:=by simp[cJ,eV]
theorem Nl(l:List Nat)(k v:Nat):zs (l.set k v)=(zs l).set k v:=by simp[zs,List.map_set]
theorem ints_set(l:List Int)(k:Nat)(v:Int):ints (l.set k v)=(ints l).set k (I v):=by simp[ints,List.map_set]
theorem wK(t:St)(k v:Nat)(hk:k<t.used.length):(cJ t).setIfInBounds (1+k) (I v)=cJ {t with used:=t.used.set k v}:=by rw[Nat.add_comm];simp[cJ,eV,Nl,ints_set,dG,dw,hk]
theorem qj(t:St)(k v:Nat)(h8:t.used.length=8):(cJ t).setIfInBounds (9+k) (I v)=cJ {t with idle:=t.idle.set k v}:=by rw[show 9+k=(8+k)+1 by omega];simp[cJ,eV,Nl,ints_set,dG,dw,h8]
theorem oF{l:List Nat}{k v M:Nat}(hl:∀x∈l,x<=M)(hv:v<=M):∀x∈l.set k v,x<=M:=by intro x hx;rcases List.mem_or_eq_of_mem_set hx with h|h;exact hl x h;omega
theorem IX{l:List Nat}{k M:Nat}(hl:∀x∈l,x<=M):l.getD k 0<=M:=by
 rw[aD];cases h:l[k]? with
 |none=>simp
 |some x=>exact hl x (aR h)
theorem OD{d cl wa k r M:Nat}{t:St}(ht:t.Fits M)(hr:r<4096):(one d cl wa t k r).Fits (M+1):=by
 obtain⟨h1,h2,h3,h4,h5⟩:=ht;have h4':∀x∈t.used,x<=4095:=λx hx=>by have:=h4 x hx;omega
 have hM:∀x∈t.idle,x<=M+1:=λx hx=>Nat.le_succ_of_le (h5 x hx);unfold one;by_cases hb:t.set.testBit k=true
 ·rw[if_pos hb];dsimp only;generalize hi:(if wa.testBit k=true then 0 else t.idle.getD k 0+1)=i;have hi':i<=M+1:=by rw[<-hi];split;omega;have:=IX (k:=k) h5;omega
  by_cases hc:t.used.getD k 0|||nb r cl=r/\nb r cl=0\/t.used.getD k 0|||nb r cl=0/\d<i;rw[if_pos hc];refine⟨Bo h1,by simpa using h2,by simpa using h3,λx hx=>?_,oF hM oM⟩;have:=oF h4' oM x hx;omega;rw[if_neg hc];refine⟨h1,by simpa using h2,by simpa using h3,λx hx=>?_,oF hM hi'⟩;have hu:t.used.getD k 0|||nb r cl<4096:=Nat.or_lt_two_pow (n:=12) (by have:=IX (k:=k) h4';omega) (Bo hr);have:=oF h4' (v:=t.used.getD k 0|||nb r cl) oM x hx;omega
 ·rw[if_neg hb];exact⟨h1,h2,h3,h4,hM⟩
theorem oG{L:Lay}{cl wa M:Nat}{s:St}(hL:L.Ok)(hs:s.Fits M):∀k,k<=L.routes.length->(lO L cl wa s k).Fits (M+k)
 |0,_=>hs
 |k+1,hk=>by obtain⟨r,hr⟩:=bY L.routes k hk;have h:=oG (cl:=cl) (wa:=wa) hL hs k oM;rw[lO,gz hr];exact OD h (hL.small r (aR hr))
theorem OE{d cl wa k r:Nat}{t:St}(h:t.set.testBit k=false):one d cl wa t k r=t:=by unfold one;rw[if_neg (by simp[h])]
theorem OG{d cl wa k r x y:Nat}{t:St}(h:t.set.testBit k=true)(hx:t.used[k]?=some x)(hy:t.idle[k]?=some y)
 (hn:¬(x|||nb r cl=r/\nb r cl=0\/x|||nb r cl=0/\d<if wa.testBit k then 0 else y+1)):
 one d cl wa t k r=⟨t.set,t.used.set k (x|||nb r cl),t.idle.set k (if wa.testBit k then 0 else y+1)⟩:=by
 unfold one;rw[if_pos h];dsimp only;rw[gz hx,gz hy,if_neg hn]
theorem Vn{d cl wa k r x y:Nat}{t:St}(h:t.set.testBit k=true)(hx:t.used[k]?=some x)(hy:t.idle[k]?=some y)
 (hn:x|||nb r cl=r/\nb r cl=0\/x|||nb r cl=0/\d<if wa.testBit k then 0 else y+1):
 one d cl wa t k r=⟨nb t.set (1<<<k),t.used.set k 0,t.idle.set k 0⟩:=by
 unfold one;rw[if_pos h];dsimp only;rw[gz hx,gz hy,if_pos hn]
theorem BA{a k:Nat}(ha:a<256)(hk:k<8):a|||1<<<k<256:=
 Nat.or_lt_two_pow (n:=8) ha (by rw[Nat.shiftLeft_eq,Nat.one_mul];exact Nat.pow_lt_pow_right dC hk)
theorem tz(rs:List Nat)(cl wa set:Nat)(h:set<256):∀k,k<=8->lc rs cl wa set k<256
 |0,_=>h
 |k+1,hk=>by have ih:=tz rs cl wa set h k oM;rw[lc];split;exact BA ih oM;exact ih
theorem abI(rs:List Nat)(cl wa:Nat)(s:St):∀k,k<=8->ld rs cl wa s k<256
 |0,_=>by simp[ld]
 |k+1,hk=>by have ih:=abI rs cl wa s k oM;rw[ld];split;exact BA ih oM;exact ih
theorem uS{L:Lay}{c d:Int}{s:St}{M:Nat}(hL:L.Ok)(hs:s.Fits M):(step L c d s).1.Fits (M+8):=by have h:=oG (cl:=iI c L.secs) (wa:=iI d L.routes.length) hL hs L.routes.length (aj _);obtain⟨h1,h2,h3,h4,h5⟩:=h;exact⟨tz _ _ _ _ h1 _ hL.ja,h2,h3,h4,λx hx=>aS (h5 x hx) (by have:=hL.ja;omega)⟩
theorem wM(a k:Nat)(h:a<4096):(bits .and .i64 ((a:Int)/2^k) 1==1)=a.testBit k:=by rw[jS _ _ oM];cases a.testBit k<;>rfl
theorem RH(a k:Nat)(h:a<4096):(bits .and .i64 ((a:Int)/2^k) 1==0)=!a.testBit k:=by rw[jS _ _ oM];cases a.testBit k<;>rfl
theorem RJ(a b:Nat)(ha:a<4096)(hb:b<4096):(bits .and .i64 (a:Int) (b:Int)==0)=decide (a&&&b=0):=by rw[kY _ _ oM oM];by_cases h:a&&&b=0;simp[h];simp[h]
theorem Eh(r cl:Nat)(h:r<4096):(bits .and .i64 (r:Int) (bits .xor .i64 (-1) (cl:Int))==0)=decide (nb r cl=0):=by rw[mV _ _ oM];by_cases h:nb r cl=0;simp[h];simp[h]
theorem L3{rs:List Nat}{cl wa u j r:Nat}(hr:rs[j]?=some r):
 Ab rs cl wa u j=(wa.testBit j&&!u.testBit j&&decide (u&&&conf rs j=0)&&decide (nb r cl=0)):=by
 unfold Ab;rw[gz hr]
theorem OH{rs:List Nat}{cl wa j r x:Nat}{t:St}(hr:rs[j]?=some r)(hx:t.used[j]?=some x):
 shows rs cl wa t j=(t.set.testBit j&&decide (x=0)&&decide (nb r cl=0)&&wa.testBit j):=by
 unfold shows;rw[gz hr,gz hx]
theorem ya(l:List Int):∀u∈ints l,u.oneCell'=true:=by intro u hu;simp only[ints,List.mem_map]at hu;obtain⟨x,_,rfl⟩:=hu;rfl
theorem rN(t:St):(cJ t).all (·.oneCell')=true:=by rw[Array.all_eq_true_iff_forall_mem];intro u hu;simp only[cJ,eV,List.mem_toArray,List.mem_cons,List.mem_append]at hu;rcases hu with rfl|hu|hu;rfl;exact ya _ u hu;exact ya _ u hu
theorem IY{w:aa}{B k u i:Nat}{t:St}{T:aw}(h:Has w B T (cJ ⟨t.set,t.used.set k u,t.idle.set k i⟩))(h1:t.used.length=8)(hk:k<8)(hs:t.set<256)(n:Nat):
 Has ((((w.drewN n).setCell ⟨B,0,none⟩ (.int .i64 (bits .andNot .i64 (t.set:Int) (wrap64 (2^k))))).setCell ⟨B,1+k,none⟩ (.int .i64 0)).setCell ⟨B,9+k,none⟩ (.int .i64 0)) B T
  (cJ ⟨nb t.set (1<<<k),t.used.set k 0,t.idle.set k 0⟩):=by
 have h2:=(((h.drewN n).set 0 (I (nb t.set (1<<<k):Nat))).set (1+k) (I (0:Nat))).set (9+k) (I (0:Nat));rw[ze,wK _ _ _ (by simp[h1,hk]),qj _ _ _ (by simp[h1])]at h2;simp only[List.set_set]at h2;rw[Bv k oM,zb _ _ oM];exact h2
end Go.Proofs.YtdhekhlmdefcnaaGreatDoor
namespace Go.Proofs.YtdhekhlmdefcnaaGreatDoor
end Go.Proofs.YtdhekhlmdefcnaaGreatDoor
