/- Part 4 of the proof. -/
import Derived.Test.YtdhekhlmdefcnaaGreatDoorPart3
import Derived.ChangeMade
import Derived.Test.YtdhekhlmdefcnaaGreatDoorProg
import Derived.KernelRfl
import GoSem.Dispatch
import Derived.Conc.WgGenN2
import Derived.Conc.WgGenDone
import Derived.Conc.WgGenWait
import Derived.Conc.WgLib
import Derived.Orders
set_option maxHeartbeats 16000000
set_option maxRecDepth 1000000
namespace Go
section
variable {p:Prop}
theorem zd7(h:p:=by u_c stepG_seq bC hF;u_c stepG_seq bC hF;u_reg bC hF;u_op bC hF;u_op bC hF;u_c stepG_region_end bC hF;u_cond false bC hF;u_c stepG_skip bC hF;u_c stepG_seq bC hF;u_c stepG_seq bC hF;u_reg bC hF;u_op bC hF;u_op bC hF;u_op bC hF;u_skip bC hF;u_skip bC hF;u_op bC hF;u_op bC hF;u_skip bC hF;u_skip bC hF;u_skip bC hF;u_skip bC hF;u_op bC hF;u_c stepG_region_end bC hF;u_cond false bC hF;u_c stepG_skip bC hF;u_c stepG_seq bC hF;u_c stepG_seq bC hF;u_reg bC hF;u_op bC hF;u_op bC hF;u_op bC hF;u_skip bC hF;u_skip bC hF;u_op bC hF;u_c stepG_region_end bC hF;u_cond true bC hF;u_c stepG_ret' bC hF;refine Goes.stop (λaak h₇=>?_);replace hF:=bC hF h₇;clear h₇;refine dc.act rfl (λaal Iy=>?_);replace hF:=bC hF Iy;clear Iy;refine .Lq (stepG_unwind_entry (v:=.tuple #[]) (evs:=#[mk .enable]) rfl H.f_enable (x_enable_n L) (x_enable_b L) (x_enable_x L) (x_enable_f L) (by simp[Extern.Race.none_]) (by simp[mk]) (by simp[mk])) rfl ?_;refine dc.walk (n:=120) ?_;u_leave0 H.f_add bC hF;exact Goes.stop (λaam Rc=>hT _ (bC hF Rc))):p:=h
theorem zd8(h:p:=by q_vn (.bool false);q_vn (.bool false);q_skip;q_skip;q_skip;q_skip;q_vn (.bool false);q_c stepG_region_end;q_cond false;q_c stepG_skip;q_c stepG_seq;q_c stepG_seq;q_reg;q_vn (.int .i32 (v:Int));q_vn (.bool true);q_vn (.bool true);q_skip;q_skip;q_vn (.bool true);q_c stepG_region_end;q_cond true;q_c stepG_ret';q_enable;q_leave0 H.f_add;q_c stepG_region_end;q_c stepG_end;exact QuitsD.leaveD rfl rfl H.f_done rfl hcm (QuitsD.up hT _)):p:=h
theorem zd9(h:p:=by simp[cntF]at hc⊢;omega):p:=h
theorem zea(h:p:=by u_op hrel hF;u_c stepG_region_end hrel hF;u_cond false hrel hF;u_c stepG_skip hrel hF;u_c stepG_ret' hrel hF;u_leave0 H.f_wait hrel hF;exact Goes.stop (λw₁ h₁=>hS _ (hrel hF h₁))):p:=h
theorem zeb(h:p:=by rw[h1];rfl):p:=h
theorem zec(h:p:=by refine⟨λm hm=>(by cases hm;trivial),λx hx _=>?_⟩;cases w<;>cases s<;>simp[MemAct.ofEvent,MemAct.touch?]at hx):p:=h
theorem zed(h:p:=by simp only[MemAct.ofEvent,MemAct.touch?]at hx;cases hx;exact⟨rfl,a.block,rfl,.inr ⟨rfl,ha⟩⟩):p:=h
theorem zee(h:p:=by cases h):p:=h
theorem zef(h:p:=by simp only[rounds,List.mem_append]at h⊢;exact h.imp (λh=>iha h k) λh=>ihb h k):p:=h
theorem zeg(h:p:=by have hm:=mem_listed he;clear hKx;simp[go_sem,hld]at hm;exact⟨_,hm,ok.bn⟩):p:=h
theorem zeh(h:p:=by exact⟨e1,ops,i,rest,k',o,e2,e3,c,f,a1,a2,by rw[<-hgr.le.sp];exact a3⟩):p:=h
theorem zei(h:p:=by simp[rounds,hx]):p:=h
theorem zej(h:p:=by rw[htag];rfl):p:=h
theorem zek(h:p:=by exact .inr (.inl ⟨_,_,rfl,h⟩)):p:=h
theorem zel(h:p:=by rw[hag];exact h1):p:=h
theorem zem(h:p:=by simp[Act.eval]):p:=h
theorem zen(h:p:=by simpa[ib]using hck):p:=h
theorem zeo(h:p:=by q_enable;q_leave0 H.f_add;q_c stepG_region_end;q_c stepG_end;exact QuitsD.leaveD rfl rfl H.f_done rfl hcm (QuitsD.up hT _)):p:=h
theorem zep(h:p:=by rw[h1];exact aj _):p:=h
theorem zeq(h:p:=by rw[hty];exact⟨_,_,hw.setSt _⟩):p:=h
theorem zer(h:p:=by cases hm):p:=h
theorem zes(h:p:=by simp[Act.eval,stA]):p:=h
theorem zet(h:p:=by rw[hag];exact c1):p:=h
theorem zeu(h:p:=by simp[Act.eval,smA]):p:=h
theorem zev(h:p:=by simp[deafBehind,rd]):p:=h
theorem zew(h:p:=by rw[h1];trivial):p:=h
theorem zex(h:p:=by rw[h1];simp):p:=h
theorem zey(h:p:=by cases e):p:=h
end
end Go
namespace Go.Mx
open Go Go.Conc
open Go.ConcN (Deaf_absent RelBy WgLive fork_knows get_map_set get_map_set_same le_sumTo sumTo sumTo_congr sumTo_le sumTo_upd upd upd_ne upd_same)
open Go.ConcR (KK WgAt g_of_ofEvents loc_of_ofEvent mk rd smA stA wr)
section
variable {G:Geo}{P:aF}{Fin:aG->Prop}{S:cD}{W0:aa}{j0 r0 m:Nat}{gs:Array aG}{w w':aa}{t:Trace}{s:MS}{rm:RT MS}{fl:qL}{D:Nat->WD}{st sm:Int}{Q:Nat->Nat}{sl:Option (Nat×Nat)}
theorem Q5{S:cD}{mk:Mark}(h:(MemAct.mark mk).touch?=none):∀e∈#[ConcR.mk mk],yX S e:=by intro e he;simp at he;subst he;exact .inl h
theorem Fs{S:cD}{a:Addr}(h:S a.block):∀e∈#[rd a],yX S e:=by intro e he;simp at he;subst he;exact zek
theorem Ir{S:cD}{a:Addr}(h:S a.block):∀e∈#[rd a,wr a],yX S e:=by intro e he;simp at he;rcases he with rfl|rfl<;>exact .inr (.inl ⟨_,_,rfl,h⟩)
theorem UT{S:cD}{a:Addr}(h:S a.block):∀e∈semEvents a,yX S e:=by intro e he;simp[semEvents]at he;rcases he with rfl|rfl|rfl|rfl;exact .inl rfl;exact zek;exact zek;exact .inl rfl
theorem Iu{a:Addr}:∀e∈#[rd a,wr a],∀b,e.loc≠.mark (.release b):=by intro e he b;simp at he;rcases he with rfl|rfl<;>simp[rd,wr]
theorem Fv{a:Addr}:∀e∈#[rd a],∀b,e.loc≠.mark (.release b):=by intro e he b;simp at he;subst he;simp[rd]
theorem UU{a:Addr}:∀e∈semEvents a,∀b,e.loc≠.mark (.release b):=by intro e he b;simp[semEvents]at he;rcases he with rfl|rfl|rfl|rfl<;>simp
theorem Mode.ZZ(h:Mode m (dP D) .w3 st sm):sm=0\/(st=0/\sm=1/\∀i,i<m->dP D i=.out):=by
 cases h with
 |opn a _ _ _=>exact a.elim
 |reg _ _=>exact .inl rfl
 |last _ _ _ _=>exact .inl rfl
 |sema a=>exact .inr ⟨rfl,rfl,a⟩
 |fin a _=>rcases a with a|a<;>cases a
theorem Lz(h:RInv G P Fin S W0 j0 r0 m gs w t s rm fl D st sm Q){a:aG}(ha:gs[0]?=some a)(hfl:fl=.run)(hag:a=s.g)(hb:jP G P Fin rm {s with w:=w}):ur G P Fin S W0 j0 r0 gs w sl t (iw j0 m D rm fl Q) 0\/Ip G P Fin S W0 gs w sl t 0:=by
 have hj1:=h.j1;have rt:∀(f:MS->RT MS)(s1:MS),RT.Lt (f s1) (.node f):=λf s1=>⟨s1,rfl⟩;cases rm with
 |leaf=>exact hb.elim
 |node f=>
  obtain⟨hst,hb⟩:=hb;rcases hb with hA|⟨x,hS⟩|hS
  ·have act:=hA w (Rel.refl ..);cases act with
   | @quiet g' w' es h1 h2 h3 h4 h5=>simp only at h1 h2 h3 h4 h5;refine .inl (abD h ha zel (s':={s with g:=g',w:=w'}) hfl rfl rfl h5 (rt ..) (h3.one _) (λ⟨p,q,k⟩=>⟨p,q,pE k (by rw[h3.heap])⟩) (pE h.wg (by rw[h3.heap])) h.mode rfl rfl h.m1 (aj _) (deafBehind_still (λe he=>(h4 e he).loc.1) _) ?_ (gV λe he=>(h4 e he).loc.2));exact Oc h4 h.gk λb hb=>by rw[h3.heap];exact h.hp.base b hb
   | @kF g' h1 h2 h3=>simp only at h1 h2 h3;exact .inl (abD h ha zel (s':={s with g:=g',w:=w,d:=s.d+1}) hfl rfl rfl h3 (rt ..) (One.refl ..) id h.wg h.mode rfl rfl h.m1 (aj _) (by simp[deafBehind,mk]) (kU (Q5 rfl)) (gV (by simp[mk])))
   | @Lq g' h1 h2 h3=>simp only at h1 h2 h3;exact .inl (abD h ha zel (s':={s with g:=g',w:=w,d:=s.d-1}) hfl rfl rfl h3 (rt ..) (One.refl ..) id h.wg h.mode rfl rfl h.m1 (aj _) (by simp[deafBehind,mk]) (kU (Q5 rfl)) (gV (by simp[mk])))
   |add r h1 h2=>simp only at h1 h2;have hm:=h.mode.wh zew;have hwg:=h.wg;rw[hm.1,hm.2.1,h1]at hwg;have hcm:=vY m (dP D);obtain⟨g',c1,c2,c3⟩:=h2 (cnt m (dP D)) (by have:=h.big;omega) hwg;have hone:One G.Wg w _:=One.setCell w (stA G.Wg) (.int .u64 (((cnt m (dP D)+1:Nat):Int)*KK));have hwg':=ConcR.WgAt.setSt hwg (((cnt m (dP D)+1:Nat):Int)*KK);refine .inl (abD h ha zet (s':={s with tag:=.sp (r+1) true,g:=g',w:=_}) hfl rfl rfl c3 (rt ..) hone (λ_=>WgAt.live hwg') hwg' ?_ zeb zeb (λe=>absurd rfl (e _ _)) zep (by simp[deafBehind,rd,wr]) (kU (Ir h.gk.sW)) (gV Iu));exact Mode.opn (tag:=.sp (r+1) true) trivial hm.2.2.1 (λV e=>zey) λV e=>by cases e
   | @go g' child r h1 h2 h3 h4 h5 h6=>simp only at h1 h2 h3 h4 h5 h6;exact .inl (Q4 h ha hfl h1 h2 (by rw[hag];exact h3) rfl h6 (rt ..) h5)
   |close h1 h2 h3=>simp only at h1 h2 h3;exact .inl (Iq h ha hag hfl rfl h1 h2 h3)
   |w1 V h1 h2=>simp only at h1 h2;have hm:=h.mode.wh zew;have hwg:=h.wg;rw[hm.1,hm.2.1,h1]at hwg;have hcm:=vY m (dP D);have hbg:=h.big;obtain⟨g',c1,c2,c3,c4⟩:=h2 (cnt m (dP D)) (hm.2.2.2.1 V h1) oM hwg;by_cases hv:cnt m (dP D)=0;refine .inl (abD h ha zet (s':={s with tag:=.ke,g:=g',w:=w}) hfl rfl rfl (c3 hv) (rt ..) (One.refl ..) id h.wg ?_ zeb zeb (λ_=>h.m1 zex) zep zev (kU (Fs h.gk.sW)) (gV Fv));rw[hm.1,hm.2.1,hv,h1];simpa[pend]using Mode.fin (tag:=.ke) (.inr rfl) (vZ hm.2.2.1 hv);refine .inl (abD h ha zet (s':={s with tag:=.Lp _,g:=g',w:=w}) hfl rfl rfl (c4 hv) (rt ..) (One.refl ..) id h.wg ?_ zeb zeb (λ_=>h.m1 zex) zep zev (kU (Fs h.gk.sW)) (gV Fv));rw[hm.1,hm.2.1,h1];exact Mode.opn (tag:=.Lp (cnt m (dP D))) trivial hm.2.2.1 (λV e=>zey) λV e=>by cases e;exact⟨aj _,oM⟩
   |w2 V h1 h2=>simp only at h1 h2;have hm:=h.mode.wh zew;have hwg:=h.wg;rw[hm.1,hm.2.1,h1]at hwg;have hcm:=vY m (dP D);have hbg:=h.big;have hV:=hm.2.2.2.2 V h1;obtain⟨c1,c2⟩:=h2 (cnt m (dP D)) hV.1 oM hwg;by_cases hv:cnt m (dP D)=V;obtain⟨g',d1,d2,d3⟩:=c1 hv;have hone:One G.Wg w _:=One.setCell w (stA G.Wg) (.int .u64 ((cnt m (dP D):Nat)*KK+1));have hwg':=ConcR.WgAt.setSt hwg ((cnt m (dP D):Nat)*KK+1);exact .inl (abD h ha (by rw[hag];exact d1) (s':={s with tag:=.w3,g:=g',w:=_}) hfl rfl rfl d3 (rt ..) hone (λ_=>WgAt.live hwg') hwg' (Mode.reg hm.2.2.1 oM) zeb zeb (λ_=>h.m1 zex) zep (by simp[deafBehind,rd,wr]) (kU (Ir h.gk.sW)) (gV Iu));obtain⟨g',d1,d2,d3⟩:=c2 hv;refine .inl (abD h ha (by rw[hag];exact d1) (s':={s with tag:=.wa _,g:=g',w:=w}) hfl rfl rfl d3 (rt ..) (One.refl ..) id h.wg ?_ zeb zeb (λ_=>h.m1 zex) zep zev (kU (Fs h.gk.sW)) (gV Fv));rw[hm.1,hm.2.1,h1];exact Mode.opn (tag:=.wa (cnt m (dP D))) trivial hm.2.2.1 (λV e=>by cases e;exact aj _) λV e=>by cases e
   |w4 h1 h2=>simp only at h1 h2;have hm:=h.mode.QY (.inl h1);have hwg:=h.wg;rw[hm.1,hm.2.1]at hwg;obtain⟨g',c1,c2,c3⟩:=h2 hwg;refine .inl (abD h ha zet (s':={s with tag:=.ke,g:=g',w:=w}) hfl rfl rfl c3 (rt ..) (One.refl ..) id hwg (.fin (.inr rfl) hm.2.2) zeb zeb (λ_=>h.m1 zex) zep zev (kU (Fs h.gk.sW)) (gV Fv))
   | @acq g' h1 h2 h3 h4 h5=>simp only at h1 h2 h3 h4 h5;exact .inr (Od h ha h1 h2 (by rw[hag];exact h3) h4 h5)
  ·exact .inl (Lv h ha hag hfl rfl hst hS)
  ·have Sd:=hS w (Rel.refl ..);have htag:s.tag=.w3:=Sd.tag;have hmode:=h.mode;rw[htag]at hmode;rcases hmode.ZZ with hsm|⟨e1,e2,hall⟩;have hwg:=h.wg;rw[hsm]at hwg;have hgo:=Sd.down ⟨st,hwg⟩;simp only at hgo;have hrunT:=runT_crowd_go (P:=P) (sl:=sl) (i:=0) ha (by rw[hag];simpa using hgo);(have hwk:woken P a {s.g with status:=.blocked} w=id:=by funext o;simp[woken]);rw[hwk,Array.map_id]at hrunT;refine .inl ⟨_,_,iw j0 m D (.node f) .blk Q,hrunT,Prod.Lex.right _ (Prod.Lex.right _ (by rw[hfl];simp[qL.num])),m,_,w,sl,s,.node f,.blk,D,st,sm,Q,rfl,?_,rfl⟩;exact D4 h (A9 _ _ _ _) (.blk f rfl rfl rfl hst hS) (λe=>by rw[hsm]at e;cases e) (λe=>zey) (λe=>zey) sM (cB (by rw[h.sz];omega)) λk hk=>bh (Ne.symm hk);have hwg:=h.wg;rw[e1,e2]at hwg;obtain⟨g',c1,c2,c3⟩:=Sd.up hwg;simp only at c1 c2 c3;have hone:One G.Wg w _:=One.setCell w (smA G.Wg) (.int .u32 0);have hwg':=ConcR.WgAt.setSm hwg 0;exact .inl (abD h ha zet (s':={s with tag:=.w4,g:=g',w:=_}) hfl rfl rfl c3 (rt ..) hone (λ_=>WgAt.live hwg') hwg' (.fin (.inl rfl) hall) zej zej (λ_=>h.m1 (by rw[htag];simp)) (by rw[htag];exact aj _) (by simp[deafBehind,semEvents]) (kU (UT h.gk.sW)) (gV UU))
theorem Fw(h:RInv G P Fin S W0 j0 r0 m gs w t s rm fl D st sm Q){i:Nat}(hi:i<m){g:aG}(hg:gs[j0+i]?=some g)(hr:g.status=.running):ur G P Fin S W0 j0 r0 gs w sl t (iw j0 m D rm fl Q) (j0+i):=by
 obtain⟨g2,hg2,hw⟩:=h.wk i hi;rw[hg]at hg2;cases hg2;cases hw with
 |run h1 h2 h3 h4 h5 h6 h7=>
  cases pc:(D i).rk with
  |leaf=>rw[pc]at h6;exact h6.elim
  |node f=>rw[pc]at h6;rcases h6 with⟨hst,h6|h6⟩;exact Im h hi hg pc h1 h2 h4 h5 h7 (h6 w (Rel.refl ..));exact Fq h hi hg pc h2 hst h4 h7 h6
 |eH f h1 h2 h3 h4 h5 h6 h7=>subst h3;simp[parked]at hr
 |out h1 h2 h3=>exact Io h hi hg h1 h2 h3 hr
theorem all_awake(h:RInv G P Fin S W0 j0 r0 m gs w t s rm fl D st sm Q):∀g∈gs,awake g:=by intro g hg;obtain⟨k,hk⟩:=Array.mem_iff_getElem?.1 hg;rcases h.who hk with⟨_,hm⟩|⟨_,_,_,hw⟩|⟨_,_,hq⟩;exact hm.awake;exact hw.awake;exact QuitsD.awake hq
theorem pD.runs{d:WD}{dd:Nat}{g:aG}(h:pD G P d dd g w)(h1:d.pk=false)(h2:d.st.ph≠.out):g.status=.running:=by
 cases h with
 |run _ _ h3 _ _ _ _=>exact h3
 |eH _ _ h3 _ _ _ _ _=>rw[h1]at h3;cases h3
 |out h3 _ _=>exact absurd h3 h2
theorem exists_counted{F:Nat->Ph}:∀{m:Nat},1<=cnt m F->∃i,i<m/\lH (F i)=1
 |0,h=>by simp[cnt,sumTo]at h
 |m+1,h=>by by_cases hc:lH (F m)=1;exact⟨m,oM,hc⟩;(have h0:lH (F m)=0:=by have:=M9 (F m);omega);(have:1<=cnt m F:=by simp only[cnt,sumTo]at h⊢;omega);obtain⟨i,hi,h5⟩:=exists_counted this;exact⟨i,oM,h5⟩
theorem someone_runs(h:RInv G P Fin S W0 j0 r0 m gs w t s rm fl D st sm Q):∃(k:Nat)(g:aG),gs[k]?=some g/\g.status=.running:=by
 obtain⟨a,ha,hma⟩:=h.mn;have XL:∀i,i<m->(D i).pk=false->(D i).st.ph≠.out->∃(k:Nat)(g:aG),gs[k]?=some g/\g.status=.running:=λi hi h1 h2=>by obtain⟨g,hg,hw⟩:=h.wk i hi;exact⟨_,g,hg,hw.runs h1 h2⟩
 cases hma with
 |run h1 h2 h3=>exact⟨0,a,ha,by rw[h2];exact h3.running⟩
 |eH f x h1 h2 h3 h4 h5=>have htag:s.tag=.sd x:=(h5 w (Rel.refl ..)).tag;have hm:=h.m1 (by rw[htag];simp);exact XL 0 oM (h.AW (.inr h1) 0 oM) (by rw[h.opn zej 0 oM];simp)
 |blk f h1 h2 h3 h4 h5=>
  have htag:s.tag=.w3:=(h5 w (Rel.refl ..)).tag;have hpk:∀i,i<m->(D i).pk=false:=h.AW (.inl zej);have hmode:=h.mode;have QZ:=h.sem;rw[htag]at hmode;generalize Z0:jm.w3=tg at hmode;cases hmode with
  |opn c _ _ _=>subst Z0;exact c.elim
  |reg c1 c2=>obtain⟨i,hi,hc⟩:=exists_counted c2;exact XL i hi (hpk i hi) λe=>by have:dP D i=.out:=e;rw[this]at hc;cases hc
  |last L c1 c2 _=>exact XL L c1 (hpk L c1) λe=>by have:dP D L=.out:=e;rw[this]at c2;simp at c2
  |sema _=>have:=QZ rfl;rw[h1]at this;cases this
  |fin c _=>subst Z0;rcases c with c|c<;>cases c
theorem RInv.at(h:RInv G P Fin S W0 j0 r0 m gs w t s rm fl D st sm Q)(d:Nat):RInv G P Fin S W0 j0 r0 m gs (w.at d) t s rm fl D st sm Q:=by have hr:∀M,Rel G M w (w.at d):=λM=>Rel.at G M w d;obtain⟨a,ha,hma⟩:=h.mn;have hp:=h.hp;exact⟨h.gk,h.j1,h.sz,h.rt,⟨a,ha,hma.rely (hr _)⟩,λi hi=>let⟨g,hg,hw⟩:=h.wk i hi;⟨g,hg,hw.rely (hr _)⟩,h.lv,h.tr,h.d0,h.wg,h.mode,h.sem,⟨hp.row,hp.ch,hp.base,hp.sb,hp.own,hp.kF,hp.hd,hp.vU,hp.hall,hp.Fg,hp.w0.trans (hr _)⟩,h.vX,h.rl,h.opn,h.AW,h.Ie,h.m1,h.big⟩
theorem Iw{μ:RT MS×List (Nat×RT WS×Nat)×Nat}{mc:Machine}{t:Trace}(h:RI G P Fin S W0 j0 r0 μ mc t):
 (∃m' ops,stepT P mc=(.next m',ops)/\Na G P Fin S W0 m' (t++ops))\/(∃m' ops μ',stepT P mc=(.next m',ops)/\Ic μ' μ/\RI G P Fin S W0 j0 r0 μ' m' (t++ops)):=by
 obtain⟨m,gs,w,sl,s,rm,fl,D,st,sm,Q,rfl,h,rfl⟩:=h;obtain⟨k,g,d,sl',hg,hrun,hstep⟩:=crowd_pick (P:=P) (w:=w) (sl:=sl) (all_awake h) (someone_runs h);rw[hstep];have h':=h.at d;rcases h'.who hg with⟨rfl,hm⟩|⟨i,hi,rfl,hw⟩|⟨k1,k2,hq⟩
 ·cases hm with
  |run h1 h2 h3=>rcases Lz (sl:=sl') h' hg h1 h2 h3 with⟨m1,ops,μ',e1,e2,e3⟩|⟨m1,ops,e1,e2⟩;exact .inr ⟨m1,ops,μ',e1,e2,e3⟩;exact .inl ⟨m1,ops,e1,e2⟩
  |eH f x h1 h2 h3 h4 h5=>subst h2;simp[parked]at hrun
  |blk f h1 h2 h3 h4 h5=>subst h2;simp at hrun
 ·exact .inr (Fw (sl:=sl') h' hi hg hrun)
 ·exact .inr (Ob (sl:=sl') h' k1 k2 hg hrun)
theorem LA:∀(μ:RT MS×List (Nat×RT WS×Nat)×Nat)(mc:Machine)(t:Trace),RI G P Fin S W0 j0 r0 μ mc t->∃N m' t',runNT P N mc t=(.next m',t')/\Na G P Fin S W0 m' t':=by
 intro μ
 induction μ using Ic.wf.induction with
 |_ μ ih=>intro mc t h;rcases Iw h with⟨m',ops,h1,h2⟩|⟨m',ops,μ',h1,h2,h3⟩;exact⟨1,m',t++ops,by rw[runNT_succ_next h1];rfl,h2⟩;obtain⟨N,m2,t2,k1,k2⟩:=ih μ' h2 m' (t++ops) h3;exact⟨N+1,m2,t2,by rw[runNT_succ_next h1];exact k1,k2⟩
theorem Fx{S0 T0:cD}{n R:Nat}(hc:Calm P S0 T0 n gs w t Q){a:aG}(ha:gs[0]?=some a)(hS:∀b,S b↔S0 b\/b=G.Wg\/b=G.Ch)(UW:ri G S)(hT:¬T0 G.Wg/\¬T0 G.Ch)(hS0:¬S0 G.Wg/\¬S0 G.Ch)
 (hwg:WgAt G.ty G.Wg w 0 0)(hrow:fA G w)(hch:∃s r,w.heap[G.Ch]?=some (.chan 0 #[] false s r false))(hbase:∀b,G.base b->b<w.heap.size)(_:1<=R)(hR:R<2147483647){rm:RT MS}(hb:jP G P Fin rm ⟨.sp R false,0,a,w⟩)(sl:Option (Nat×Nat)):
 ∃N m' t',runNT P N (crowd gs w sl) t=(.next m',t')/\Na G P Fin S w m' t':=by
 have nt:∀i x,touchAt t i=some x->∀b,blk x.loc=some b->b≠G.Wg/\b≠G.Ch:=λi x hx b hb=>by
  refine⟨λe=>?_,λe=>?_⟩<;>subst e
  ·rcases hc.tr.tb i x hx _ hb with k|k;exact hT.1 k;exact hS0.1 k
  ·rcases hc.tr.tb i x hx _ hb with k|k;exact hT.2 k;exact hS0.2 k
 have sh:∀i x,touchAt t i=some x->vT S x.loc->vT S0 x.loc:=λi x hx ⟨b,hb,hSb⟩=>by rcases(hS b).1 hSb with k|k|k;exact⟨b,hb,k⟩;exact absurd k (nt i x hx b hb).1;exact absurd k (nt i x hx b hb).2
 have sh':∀l,vT S0 l->vT S l:=λl ⟨b,hb,k⟩=>⟨b,hb,(hS b).2 (.inl k)⟩;have hlt:∀b,S b->b<w.heap.size:=λb hb=>by rcases(hS b).1 hb with k|rfl|rfl;exact hc.sb b k;exact(az.1 hwg).1;obtain⟨_,_,k⟩:=hch;exact(az.1 k).1
 let D:Nat->WD:=λ_=>⟨default,.leaf,false,0⟩;refine LA (j0:=n) (r0:=t.size) (iw n 0 D rm .run Q) _ _ ⟨0,gs,w,sl,⟨.sp R false,0,a,w⟩,rm,.run,D,0,0,Q,rfl,?_,rfl⟩;refine⟨UW,hc.n1,by rw[hc.sz];rfl,aj _,⟨a,ha,.run rfl rfl hb⟩,λi hi=>oM,hc.lv,?_,hc.d0,hwg,?_,λe=>zey,⟨hrow,hch,hbase,hlt,λi b hi=>oM,λi j b hi=>oM,λi x hi=>oM,λi j x hi=>oM,λx hx=>by simp[sent]at hx,λi x hi=>oM,Rel.refl ..⟩,λi hi=>oM,λi hi=>oM,λ_ i hi=>oM,λ_ i hi=>oM,λe=>zey,λe=>absurd rfl (e R false),by simpa[left]using hR⟩;refine⟨⟨λi op x hi hx hs=>?_,hc.tr.nr,λi op hi=>hc.tr.gs i op hi,λi x hx hm hs=>hc.tr.pl i x hx hm λk=>hs (sh' _ k),λi x hx b hb=>?_⟩,λi x hi hx hm hs k hk hkn=>?_,λi x hi hx=>?_,hc.ho,hc.QS⟩;exact hc.tr.quiet i op x hi hx (sh i x (by rw[touchAt_of hi];exact hx) hs);by_cases e:S b;exact .inr e;refine .inl ⟨?_,e⟩;rcases hc.tr.tb i x hx b hb with k|k;exact hc.tb b k;exact hc.sb b k;(have:k=0:=by omega);subst this;exact hc.kn i x hx hm λk=>hs (sh' _ k);obtain⟨op,ho,_⟩:=touch_of hx;have:=lt_size_of_getElem? ho;omega
 ·have:=Mode.opn (m:=0) (F:=dP D) (tag:=.sp R false) trivial (λi hi=>oM) (λV e=>zey) λV e=>by cases e
  simpa[cnt,sumTo,pend]using this
end
end Go.Mx
namespace Go.Mx
open Go Go.Conc
open Go.ConcN (WgLive)
open Go.ConcR (DC0 KK WgAt mk rd smA stA wr)
section
variable {G:Geo}{P:aF}{Fin:aG->Prop}
theorem nJ.mono{K K':WS->Prop}(hk:∀s,K s->K' s){s:WS}(h:nJ G P K s):nJ G P K' s:=by
 cases h with
 |quiet a b c d e f=>exact .quiet a b c d e (hk _ f)
 |idle a b c d=>exact .idle a b c (hk _ d)
 |store i a b c d e f=>exact .store i a b c d e (hk _ f)
 |rel a b c d e=>exact .rel a b c d (hk _ e)
 |kF a b c d=>exact .kF a b c (hk _ d)
 |d1 a b=>exact .d1 a λv wt h1 h2 h3=>let⟨g',e1,e2,e3⟩:=b v wt h1 h2 h3;⟨g',e1,λk=>⟨(e2 k).1,hk _ (e2 k).2⟩,e3⟩
 |d2 a b=>exact .d2 a λh=>let⟨g',e1,e2,e3⟩:=b h;⟨g',e1,e2,hk _ e3⟩
 |d3 a b=>exact .d3 a λh=>let⟨g',e1,e2,e3⟩:=b h;⟨g',e1,e2,hk _ e3⟩
 |d4 a b c=>exact .d4 a b c
theorem qZ.mono{K K':WS->Prop}(hk:∀s,K s->K' s){s:WS}(h:qZ G P K s):qZ G P K' s:=⟨h.ph,h.step,λi k' a b=>hk _ (h.got i k' a b),hk _ h.shut⟩
theorem mH.mono{K K':MS->Prop}(hk:∀s,K s->K' s){s:MS}(h:mH G P Fin K s):mH G P Fin K' s:=by
 cases h with
 |quiet a b c d e=>exact .quiet a b c d (hk _ e)
 |kF a b c=>exact .kF a b (hk _ c)
 |Lq a b c=>exact .Lq a b (hk _ c)
 |add r a b=>exact .add r a λv h1 h2=>let⟨g',e1,e2,e3⟩:=b v h1 h2;⟨g',e1,e2,hk _ e3⟩
 |go r a b c d e f=>exact .go r a b c d e (hk _ f)
 |close a b c=>exact .close a b λx y h=>let⟨g',e1,e2,e3⟩:=c x y h;⟨g',e1,e2,λv=>hk _ (e3 v)⟩
 |w1 V a b=>exact .w1 V a λv h1 h2 h3=>let⟨g',e1,e2,e3,e4⟩:=b v h1 h2 h3;⟨g',e1,e2,λk=>hk _ (e3 k),λk=>hk _ (e4 k)⟩
 |w2 V a b=>exact .w2 V a λv h1 h2 h3=>⟨λk=>let⟨g',e1,e2,e3⟩:=(b v h1 h2 h3).1 k;⟨g',e1,e2,hk _ e3⟩,λk=>let⟨g',e1,e2,e3⟩:=(b v h1 h2 h3).2 k;⟨g',e1,e2,hk _ e3⟩⟩
 |w4 a b=>exact .w4 a λh=>let⟨g',e1,e2,e3⟩:=b h;⟨g',e1,e2,hk _ e3⟩
 |acq a b c d e=>exact .acq a b c d e
theorem rf.mono{K K':MS->Prop}(hk:∀s,K s->K' s){s:MS}{i:Nat}(h:rf G P K s i):rf G P K' s i:=⟨h.tag,h.lt,h.step,hk _ h.next⟩
theorem xR.mono{K K':MS->Prop}(hk:∀s,K s->K' s){s:MS}(h:xR G P K s):xR G P K' s:=⟨h.tag,h.off,h.down,λk=>let⟨g',e1,e2,e3⟩:=h.up k;⟨g',e1,e2,hk _ e3⟩⟩
def eC(G:Geo)(P:aF)(s:WS):Prop:=∃r,kp G P r s
def dc(G:Geo)(P:aF)(Fin:aG->Prop)(s:MS):Prop:=∃r,jP G P Fin r s
open Classical in
noncomputable def Fy(G:Geo)(P:aF)(s:WS):RT WS:=if h:eC G P s then Classical.choose h else .leaf
open Classical in
noncomputable def Ba(G:Geo)(P:aF)(Fin:aG->Prop)(s:MS):RT MS:=if h:dc G P Fin s then Classical.choose h else .leaf
theorem D5{s:WS}(h:eC G P s):kp G P (Fy G P s) s:=by unfold Fy;rw[dif_pos h];exact Classical.choose_spec h
theorem xT{s:MS}(h:dc G P Fin s):jP G P Fin (Ba G P Fin s) s:=by unfold Ba;rw[dif_pos h];exact Classical.choose_spec h
theorem eC.act{s:WS}(hs:s.g.status=.running)(h:∀w1,Rel G s.M s.w w1->nJ G P (eC G P) {s with w:=w1}):eC G P s:=
 ⟨.node (Fy G P),hs,.inl λw1 hr=>(h w1 hr).mono λ_=>D5⟩
theorem eC.recv{s:WS}(hs:s.g.status=.running)(h:∀w1,Rel G s.M s.w w1->qZ G P (eC G P) {s with w:=w1}):eC G P s:=
 ⟨.node (Fy G P),hs,.inr λw1 hr=>(h w1 hr).mono λ_=>D5⟩
theorem dc.act{s:MS}(hs:s.g.status=.running)(h:∀w1,Rel G (λ_=>False) s.w w1->mH G P Fin (dc G P Fin) {s with w:=w1}):dc G P Fin s:=
 ⟨.node (Ba G P Fin),hs,.inl λw1 hr=>(h w1 hr).mono λ_=>xT⟩
theorem dc.send{s:MS}(hs:s.g.status=.running)(i:Nat)(h:∀w1,Rel G (λ_=>False) s.w w1->rf G P (dc G P Fin) {s with w:=w1} i):dc G P Fin s:=
 ⟨.node (Ba G P Fin),hs,.inr (.inl ⟨i,λw1 hr=>(h w1 hr).mono λ_=>xT⟩)⟩
theorem dc.sema{s:MS}(hs:s.g.status=.running)(h:∀w1,Rel G (λ_=>False) s.w w1->xR G P (dc G P Fin) {s with w:=w1}):dc G P Fin s:=
 ⟨.node (Ba G P Fin),hs,.inr (.inr λw1 hr=>(h w1 hr).mono λ_=>xT)⟩
theorem eC.goes{s:WS}(hp:s.ph≠.out){Stop:aG->aa->Prop}(hst:∀g w,Stop g w->eC G P {s with g:=g,w:=w}):∀{n:Nat}{g:aG}{w:aa},Conc.Goes P false (Rel G s.M) DC0 Stop n g w->eC G P {s with g:=g,w:=w}
 |0,g,w,h=>hst g w (h w (Rel.refl ..))
 |n+1,g,w,h=>by
  rcases h with h|⟨hs,h⟩;exact hst g w (h w (Rel.refl ..))
  ·refine eC.act hs λw1 hr=>?_;have k:=h w1 hr;cases e:stepG P false g w1 with
   |go g' w' es=>rw[e]at k;obtain⟨⟨e1,e2⟩,k2⟩:=k;subst e1 e2;have ih:=eC.goes (s:=s) hp hst k2;(have hrun:g'.status=.running:=by obtain⟨r,hr⟩:=ih;exact kp.running hr);exact .idle hp e hrun ih
   |_=>rw[e]at k;exact k.elim
theorem dc.goes{s:MS}{Stop:aG->aa->Prop}(hst:∀g w,Stop g w->dc G P Fin {s with g:=g,w:=w}):∀{n:Nat}{g:aG}{w:aa},Conc.Goes P true (Rel G (λ_=>False)) DC0 Stop n g w->dc G P Fin {s with g:=g,w:=w}
 |0,g,w,h=>hst g w (h w (Rel.refl ..))
 |n+1,g,w,h=>by
  rcases h with h|⟨hs,h⟩;exact hst g w (h w (Rel.refl ..))
  ·refine dc.act hs λw1 hr=>?_;have k:=h w1 hr;cases e:stepG P true g w1 with
   |go g' w' es=>rw[e]at k;obtain⟨⟨e1,e2⟩,k2⟩:=k;subst e1 e2;have ih:=dc.goes (s:=s) hst k2;(have hrun:g'.status=.running:=by obtain⟨r,hr⟩:=ih;exact jP.running hr);exact .quiet e hrun ⟨rfl,rfl,rfl,rfl⟩ sM ih
   |_=>rw[e]at k;exact k.elim
end
section
variable {P:aF}{S:cD}{L:CS->Prop}
def eO(P:aF)(S:cD)(L:CS->Prop)(s:CS):Prop:=∃r,qE P S L r s
open Classical in
noncomputable def Q6(P:aF)(S:cD)(L:CS->Prop)(s:CS):RT CS:=if h:eO P S L s then Classical.choose h else .leaf
theorem eO.stop{s:CS}(hs:s.g.status=.running)(h:L s):eO P S L s:=⟨.leaf,hs,h⟩
theorem eO.act{s:CS}(hs:s.g.status=.running)(h:∀d,∃g' w' es T',stepG P true s.g (s.w.at d)=.go g' w' es/\(∀e∈es,H9 T' (λ_=>False) e)/\(∀b,s.T b->T' b)/\(∀b,T' b->b<w'.heap.size/\¬S b)/\s.w.heap.size<=w'.heap.size/\eO P S L ⟨g',w',T'⟩):eO P S L s:=
 ⟨.node (Q6 P S L),hs,λd=>let⟨g',w',es,T',h1,h2,h3,h4,h5,h6⟩:=h d;⟨g',w',es,T',h1,h2,h3,h4,h5,by unfold Q6;rw[dif_pos h6];exact Classical.choose_spec h6⟩⟩
end
open Go.Pr
section
variable {P:aF}{ρ:Rn}{Sx:Nat->Nat->Bool}{Q:jk->Prop}
theorem uu(E:Env P ρ Sx){fr fr':Frame}{w w':aa}(hfr:gT P ρ Sx fr fr')(hb:iE fr [])(hw:WR P ρ w w')(hQ:∀s T,Q ⟨s.fr,s.cs,on s.w T⟩->Q s)(h:∀T,∃n Q7 cs2 w2,runN P n (lone fr [c0] (on w T))=.next (lone Q7 cs2 w2)/\Q ⟨Q7,cs2,w2⟩):
 ∃r,jl P Sx Q r ρ ⟨fr,[c0],w⟩ [] fr' [] w':=by
 obtain⟨r,hr⟩:=(XD hQ ⟨fr,[c0],w⟩ h).rk;exact⟨r,hr,rfl,hfr,.nil,hb,hw,E⟩
def qc(f:FuncId)(t:Tmp)(D:ae->Prop)(s:jk):Prop:=s.cs=[c0]/\s.fr.mode=.returning/\s.fr.defers=[]/\s.fr.kind=.normal/\s.fr.fn=f/\D (s.fr.tmps.getD t undef)
theorem abF{f:FuncId}{fn:Func}{args:bw}{t:Tmp}{D:ae->Prop}{w:aa}(hf:P.funcs[f]?=some fn)(hr:fn.results= #[.tmp t])(h:∀T,Calls P f args (on w T) λe _=>∃v,e=.returned v/\D v)(T:Nat->Question->Nat):
 ∃n Q7 cs2 w2,runN P n (lone (Frame.enter P f args .normal) [c0] (on w T))=.next (lone Q7 cs2 w2)/\qc f t D ⟨Q7,cs2,w2⟩:=by
 obtain⟨e,w2,fr,⟨v,rfl,hD⟩,hc,hfn,h1,h2,h3,fn',h4,h5⟩:=h T [c0];obtain⟨n,hn⟩:=hc;refine⟨n,fr,[c0],w2,hn,rfl,h1,h2,h3,hfn,?_⟩;rw[hfn,hf]at h4;cases h4;rw[results_tmp hr]at h5;cases h5;exact hD
theorem qc.on{f:FuncId}{t:Tmp}{D:ae->Prop}(s:jk)(T:Nat->Question->Nat)(h:qc f t D ⟨s.fr,s.cs,Pr.on s.w T⟩):qc f t D s:=h
theorem jl.done{r:Rk}{s:jk}{l l':List Frame}{fr':Frame}{w':aa}{f:FuncId}{fn:Func}{t:Tmp}{D:ae->Prop}(h:jl P Sx Q r ρ s l fr' l' w')(hd:qc f t D s)(hf:P.funcs[f]?=some fn)(hr:fn.results= #[.tmp t]):
 l=[]/\l'=[]/\fr'.mode=.returning/\fr'.defers=[]/\fr'.kind=.normal/\fr'.fn=f/\∃v,D v/\VR ρ v (fr'.tmps.getD t undef):=by
 obtain⟨h1,h2,h3,h4,h5,h6⟩:=hd;have hl:l=[]:=by
  have:=h.cs;rw[h1]at this;cases l with
  |nil=>rfl
  |cons a l=>simp at this
 subst hl;have hres:=h.rest;cases hres;have hm:=h.top.mode;rw[h2]at hm;have hdf:=h.top.defers;rw[h3]at hdf;refine⟨rfl,rfl,?_,?_,h.top.kind.trans h4,h.top.fn.trans h5,_,h6,?_⟩;generalize fr'.mode=md at hm;cases hm;rfl;generalize fr'.defers=ds at hdf;cases hdf;rfl;have hok:=h.top.ok;rw[h5]at hok;have:=h.env.res f fn hok hf (.tmp t) (by rw[hr];simp);exact(h.top.tmps.getD t).1 (by rw[h5];exact this)
theorem D6{main:Bool}{fr c:Frame}{cs:List Frame}{w:aa}{f:FuncId}{fn:Func}{t:Tmp}(h1:fr.mode=.returning)(h2:fr.defers=[])(h3:fr.kind=.normal)(h4:fr.fn=f)(hf:P.funcs[f]?=some fn)(hr:fn.results= #[.tmp t]):
 stepG P main (gr fr (c::cs)) w=.go (gr (c.finish (fr.tmps.getD t undef)) cs) w #[]:=by
 obtain⟨g,tm,td,df,md,kd,rn⟩:=fr;simp only at h1 h2 h3 h4;subst h1 h2 h3 h4;simp[gr,stepG,unwind,doReturn,hf,results_tmp hr,events_results_tmp hr,seen,GStep.after]
theorem GX.Og{σ:Rn}{e e':Event}(h:GX σ e e'){A B:cD}(hA:∀x y,σ.r x y->A y)(hB:∀b,σ.K b\/σ.T b->B b):H9 A B e':=by
 obtain⟨loc,write,sync,low,flat⟩:=h;obtain⟨l',w,s⟩:=e';obtain⟨l,w2,s2⟩:=e;simp only at*;subst write sync;cases loc with
 | @cell a a' ha=>
  have hs:s=false:=flat rfl;subst hs;refine⟨λm hm=>zer,λx hx _=>?_⟩;have hx':x=⟨.cell a',w,.plain⟩:=by cases w<;>simp[MemAct.ofEvent,MemAct.touch?]at hx<;>exact hx.symm
  subst hx';refine⟨rfl,a'.block,rfl,?_⟩;rcases ha.b with⟨k1,k2⟩|k
  ·cases w with
   |false=>exact .inr ⟨rfl,by rw[k2];exact hB _ (.inl k1)⟩
   |true=>exact .inl (hA _ _ (low a rfl rfl))
  ·exact .inl (hA _ _ k)
 | @tab a ha=>
  have hs:s=false:=flat rfl;subst hs;refine⟨λm hm=>zer,λx hx _=>?_⟩;have hx':x=⟨.cell a,w,.plain⟩:=by cases w<;>simp[MemAct.ofEvent,MemAct.touch?]at hx<;>exact hx.symm
  subst hx';refine⟨rfl,a.block,rfl,?_⟩;cases w with
  |false=>exact .inr ⟨rfl,hB _ (.inr ha)⟩
  |true=>exact .inl (hA _ _ (low a rfl rfl))
 | @obj r r' hr=>
  have hs:s=false:=flat rfl;subst hs;refine⟨λm hm=>zer,λx hx _=>?_⟩;have hx':x=⟨.obj r',w,.plain⟩:=by cases w<;>simp[MemAct.ofEvent,MemAct.touch?]at hx<;>exact hx.symm
  subst hx';exact⟨rfl,r',rfl,.inl (hA _ _ hr)⟩
 |ext f=>exact zec
 |room=>exact zec
 |out=>refine⟨λm hm=>zer,λx hx hm=>?_⟩;cases w<;>cases s<;>simp[MemAct.ofEvent,MemAct.touch?]at hx<;>subst hx<;>simp[Loc.isMemory]at hm
theorem eG.Og{σ:Rn}{A B:cD}(hA:∀x y,σ.r x y->A y)(hB:∀b,σ.K b\/σ.T b->B b):∀{l l':List Event},eG σ l l'->∀e∈l',H9 A B e
 |_,_,.nil=>λe he=>by cases he
 |_,_,.cons x y=>λe he=>by
  cases he with
  |head=>exact GX.Og x hA hB
  |tail _ he=>exact eG.Og hA hB y e he
 |_,_,.left r y=>eG.Og hA hB y
theorem ru{w w1 w2:aa}(h:WR P ρ w w1)(hh:∀b,ρ.K b\/ρ.T b\/Own ρ b->w2.heap[b]?=w1.heap[b]?)(hos:w2.os=w1.os)(hsz:w1.heap.size<=w2.heap.size):WR P ρ w w2:=by refine⟨λ{x y} hr=>?_,λx hx hd=>?_,λx hx=>?_,λx hx=>?_,hos.trans h.os,h.CC,aS h.CE hsz⟩;obtain⟨o,o',h1,h2,h3⟩:=h.own hr;exact⟨o,o',h1,(hh y (.inr (.inr ⟨x,hr⟩))).trans h2,h3⟩;obtain⟨c,e,n,h1,h2,h3⟩:=(h.low x hx hd).row;exact⟨c,e,n,h1,(hh x (.inl hx)).trans h2,h3⟩;obtain⟨c,e,c',e',h1,h2,h3⟩:=(h.dead x hx).row;exact⟨c,e,c',e',h1,(hh x (.inl (ρ.dk hx))).trans h2,h3⟩;obtain⟨c,e,fr,c',e',fr',h1,h2,h3⟩:=(h.tab x hx).row;exact⟨c,e,fr,c',e',fr',h1,(hh x (.inr (.inl hx))).trans h2,h3⟩
theorem jl.rely{r:Rk}{s:jk}{l l':List Frame}{fr':Frame}{w1 w2:aa}(h:jl P Sx Q r ρ s l fr' l' w1)(hh:∀b,ρ.K b\/ρ.T b\/Own ρ b->w2.heap[b]?=w1.heap[b]?)(hos:w2.os=w1.os)(hsz:w1.heap.size<=w2.heap.size):jl P Sx Q r ρ s l fr' l' w2:=
 ⟨h.rk,h.cs,h.top,h.rest,h.bot,ru h.wr hh hos hsz,h.env⟩
structure Sep(G:Geo)(M:cD)(w:aa):Prop where
 own:∀b,M b->¬G.base b/\b≠G.Wg/\b≠G.O
 base:∀b,G.base b->b<w.heap.size
 wg:G.Wg<w.heap.size
 o:G.O<w.heap.size
theorem Sep.rely{G:Geo}{M:cD}{w w1:aa}(h:Sep G M w)(hs:w.heap.size<=w1.heap.size):Sep G M w1:=⟨h.own,λb hb=>aT (h.base b hb) hs,aT h.wg hs,aT h.o hs⟩
theorem Sep.grow{G:Geo}{M:cD}{w w1:aa}(h:Sep G M w)(hs:w.heap.size<=w1.heap.size):Sep G (abC M w w1) w1:=by have:=h.rely hs;refine⟨λb hb=>?_,this.base,this.wg,this.o⟩;rcases hb with hb|⟨hb,_⟩;exact h.own b hb;exact⟨λk=>by have:=h.base b k;omega,λk=>by have:=h.wg;omega,λk=>by have:=h.o;omega⟩
theorem Sep.gu{G:Geo}{M:cD}{w w1:aa}(h:Sep G M w)(hg:Gu M w w1):Rel G (λ_=>False) w w1:=
 Rel.gu hg (λb hb=>hb.elim (λk=>⟨h.base b k,λe=>(h.own b e).1 k⟩) λk=>k.elim) (λe=>(h.own _ e).2.1 rfl) λe=>(h.own _ e).2.2 rfl
theorem UX{G:Geo}{H X:cD}{k:Nat}{ext:List Frame}(hQ:∀s,Q s->s.cs≠[]):
 ∀(r:Rk){ρ:Rn}{s:jk}{l l':List Frame}{fr':Frame}{w':aa}{M:cD},(∀s,E9 ρ s->Q s)->jl P Sx Q r ρ s l fr' l' w'->(∀b,ρ.K b\/ρ.T b->G.base b)->(∀y,Own ρ y->M y)->Sep G M w'->
  (∀(σ:Rn)(r1:Rk)(s1:jk)(l1 ig:List Frame)(fc:Frame)(w1':aa)(M1:cD),jl P Sx Q r1 σ s1 l1 fc ig w1'->Q s1->Sep G M1 w1'->Rel G (λ_=>False) w' w1'->eC G P ⟨.run,gr fc (ig++ext),w1',M1,H,X,k⟩)->
  eC G P ⟨.run,gr fr' (l'++ext),w',M,H,X,k⟩:=by
 intro r
 induction r using Rk.wf.induction with
 |_ r ih=>intro ρ s l l' fr' w' M Lj h hB hM hS hC;by_cases hq:Q s;exact hC ρ r s l l' fr' w' M h hq hS (Rel.refl ..);refine eC.act rfl λw1 hr=>?_;simp only at hr;have h1:jl P Sx Q r ρ s l fr' l' w1:=jl.rely h (λb hb=>hr.fix b (hb.elim (λe=>.inl (hB b (.inl e))) λe=>e.elim (λe=>.inl (hB b (.inr e))) λe=>.inr (hM b e))) hr.os hr.size;have hS1:=hS.rely hr.size;obtain⟨r1,σ,s1,l1,fc,ig,w1',es,es',hlt,h2,hst,hgr,hls,qF⟩:=jl.step (ext:=ext) h1 hQ Lj hq (main:=false);have hgu:Gu M w1 w1':=⟨λb hb hn=>qF.heap b hb λe=>hn (hM b e),qF.os,qF.tape,qF.output,qF.size⟩;have hown:∀x y,σ.r x y->abC M w1 w1' y:=λx y hxy=>(hgr.new x y hxy).imp (λe=>hM y ⟨x,e⟩) id;have hB':∀b,σ.K b\/σ.T b->G.base b:=λb hb=>hB b (by rw[hgr.le.K,hgr.le.T]at hb;exact hb);refine .quiet (.inl rfl) hst rfl hgu (λe he=>eG.Og hown hB' hls e (gQ.2 he)) ?_;refine ih r1 hlt (λs2 hs2=>Lj s2 ?_) h2 hB' (λy ⟨x,hxy⟩=>hown x y hxy) (hS1.grow qF.size) λσ2 r2 s2 l2 XM Q8 w2' M2 k1 k2 k3 k4=>hC σ2 r2 s2 l2 XM Q8 w2' M2 k1 k2 k3 ((hr.mono λ_ e=>e.elim).trans ((hS1.gu hgu).trans k4));obtain⟨e1,ops,i,rest,k',o,e2,e3,e4⟩:=hs2;obtain⟨c,f,a1,a2,a3⟩:=e4;exact zeh
theorem Gu.refl(M:cD)(w:aa):Gu M w w:=⟨λ_ _ _=>rfl,rfl,rfl,rfl,aj _⟩
theorem UY{S:cD}{L:CS->Prop}{ext:List Frame}(hQ:∀s,Q s->s.cs≠[]):
 ∀(r:Rk){ρ:Rn}{s:jk}{l l':List Frame}{fr':Frame}{w':aa}{T:cD},(∀s,E9 ρ s->Q s)->jl P Sx Q r ρ s l fr' l' w'->(∀b,ρ.K b\/ρ.T b\/Own ρ b->T b)->(∀b,T b->b<w'.heap.size/\¬S b)->(∀b,S b->b<w'.heap.size)->
  (∀(σ:Rn)(r1:Rk)(s1:jk)(l1 ig:List Frame)(fc:Frame)(w1':aa)(T1:cD),jl P Sx Q r1 σ s1 l1 fc ig w1'->Q s1->(∀b,T1 b->b<w1'.heap.size/\¬S b)->(∀b,σ.K b\/σ.T b\/Own σ b->T1 b)->ρ.Le σ->(∀x y,σ.r x y->ρ.r x y\/w'.heap.size<=y)->Gu (Own ρ) w' w1'->eO P S L ⟨gr fc (ig++ext),w1',T1⟩)->
  eO P S L ⟨gr fr' (l'++ext),w',T⟩:=by
 intro r
 induction r using Rk.wf.induction with
 |_ r ih=>intro ρ s l l' fr' w' T Lj h hB hT hSb hC;by_cases hq:Q s;exact hC ρ r s l l' fr' w' T h hq hT hB (Rn.Le.refl ρ) (λx y e=>.inl e) (Gu.refl ..);refine eO.act rfl λd=>?_;have h1:jl P Sx Q r ρ s l fr' l' (w'.at d):=jl.rely h (λb _=>rfl) rfl (aj _);obtain⟨r1,σ,s1,l1,fc,ig,w1',es,es',hlt,h2,hst,hgr,hls,qF⟩:=jl.step (ext:=ext) h1 hQ Lj hq (main:=true);have hsz:w'.heap.size<=w1'.heap.size:=qF.size;let T1:Nat->Prop:=λb=>T b\/(w'.heap.size<=b/\b<w1'.heap.size);have hown:∀x y,σ.r x y->T1 y:=λx y hxy=>(hgr.new x y hxy).imp (λe=>hB y (.inr (.inr ⟨x,e⟩))) id;(have hB':∀b,σ.K b\/σ.T b\/Own σ b->T1 b:=λb hb=>by rcases hb with hb|hb|⟨x,hb⟩;exact .inl (hB b (.inl (by rw[hgr.le.K]at hb;exact hb)));exact .inl (hB b (.inr (.inl (by rw[hgr.le.T]at hb;exact hb))));exact hown x b hb);(have hT1:∀b,T1 b->b<w1'.heap.size/\¬S b:=λb hb=>by rcases hb with hb|⟨e1,e2⟩;exact⟨aT (hT b hb).1 hsz,(hT b hb).2⟩;exact⟨e2,λe=>by have:=hSb b e;omega⟩);refine⟨_,_,es',T1,hst,λe he=>?_,λb hb=>.inl hb,hT1,hsz,?_⟩;have:=eG.Og (A:=T1) (B:=T1) hown (λb hb=>hB' b (hb.imp id .inl)) hls e (gQ.2 he);refine⟨this.1,λx hx hm=>?_⟩;obtain⟨p1,b,p2,p3⟩:=this.2 x hx hm;exact⟨p1,b,p2,.inl (p3.elim id λe=>e.2)⟩;refine ih r1 hlt (λs2 hs2=>Lj s2 ?_) h2 hB' hT1 (λb hb=>aT (hSb b hb) hsz) λσ2 r2 s2 l2 XM Q8 w2' T2 k1 k2 k3 k4 k5 k6 k7=>hC σ2 r2 s2 l2 XM Q8 w2' T2 k1 k2 k3 k4 (hgr.le.trans k5) (λx y hxy=>?_) ?_;obtain⟨e1,ops,i,rest,k',o,e2,e3,c,f,a1,a2,a3⟩:=hs2;exact zeh;rcases k6 x y hxy with e|e;exact(hgr.new x y e).imp id λe2=>e2.1;exact .inr (aS hsz e);refine⟨λb hb hn=>(k7.old b (aT hb hsz) λ⟨x,hxy⟩=>?_).trans (qF.heap b hb hn),k7.os.trans qF.os,k7.tape.trans qF.tape,k7.output.trans qF.output,aS hsz k7.size⟩;rcases hgr.new x b hxy with e|e;exact hn ⟨x,e⟩;have:w'.heap.size<=b:=e.1;omega
end
end Go.Mx
namespace Go.Pr
open Go
theorem LB{ρ:Rn}:∀{l:List ae},(∀v∈l,VR ρ v v)->LR ρ l l
 |[],_=>.nil
 |_::_,h=>.cons (h _ sM) (LB λv hv=>h v (by simp[hv]))
theorem zQ{info:aw->Option TypeInfo}{d:TypeDesc}{i:TypeInfo}(h:Made.reckon info d=some i):i.methods= #[]:=by
 unfold Made.reckon at h;split at h;all_goals try simp only[bind,Option.bind_eq_some_iff,pure]at h
 all_goals repeat' first
  |(obtain⟨_,_,h⟩:=h)
  |(split at h)
 all_goals first
  |(cases h;rfl)
  |(cases h)
  |skip
 all_goals first
  |rfl
  |(simp only[Option.bind_eq_some_iff]at h;obtain⟨_,_,h⟩:=h;cases h;rfl)
  |skip
 unfold Made.reckonStruct at h;simp only[bind,Option.bind_eq_some_iff,pure]at h;obtain⟨a,_,h⟩:=h;split at h<;>(cases h;rfl)
theorem D7{v:ae}(h:Pl v):∀x∈v.cells.toList,Pl x:=by
 cases v with
 |agg xs=>
  intro x hx ρ;cases h ρ with
  |agg hl=>
   have:∀{l:List ae},LR ρ l l->∀x∈l,VR ρ x x:=by
    intro l
    induction l with
    |nil=>intro _ x hx;cases hx
    |cons a l ih=>
     intro hl x hx;cases hl with
     |cons p q=>
      cases hx with
      |head=>exact p
      |tail _ hx=>exact ih q x hx
   exact this hl x hx
 |_=>intro x hx;simp[Value.cells]at hx;subst hx;exact h
theorem Bb{σ α:Type}(Inv:σ->Prop):∀(l:List α)(s s':σ)(f:α->σ->Option (ForInStep σ)),(∀x s r,f x s=some r->Inv s->Inv r.value)->forIn l s f=some s'->Inv s->Inv s'
 |[],s,s',f,_,h,hi=>by simp only[List.forIn_nil,pure,bq]at h;exact h▸hi
 |x::l,s,s',f,hf,h,hi=>by
  rw[List.forIn_cons]at h;simp only[bind,Option.bind_eq_some_iff]at h;obtain⟨r,h1,h2⟩:=h;have h3:=hf x s r h1 hi;cases r with
  |done b=>simp only[pure,bq]at h2;exact h2▸h3
  |yield b=>exact Bb Inv l b s' f hf h2 h3
theorem LC{info:aw->Option TypeInfo}(hinfo:∀t i v,info t=some i->i.zero=some v->Pl v){f:Field}{i:TypeInfo}(hi:info f.type=some i){z:Option bw}(hz:∀cs,z=some cs->∀x∈cs.toList,Pl x){cs:bw}
 (h:(z.bind λa=>i.zero.bind λb=>some (a++b.cells))=some cs):∀x∈cs.toList,Pl x:=by
 simp only[Option.bind_eq_some_iff,bq]at h;obtain⟨a,h1,b,h2,rfl⟩:=h;intro x hx;rw[cV,List.mem_append]at hx;exact hx.elim (hz a h1 x) (D7 (hinfo _ _ _ hi h2) x)
theorem uP{info:aw->Option TypeInfo}(hinfo:∀t i v,info t=some i->i.zero=some v->Pl v){fs:Array Field}{j:TypeInfo}(h:Made.reckonStruct info fs=some j):∀v,j.zero=some v->Pl v:=by
 unfold Made.reckonStruct at h;simp only[bind,Option.bind_eq_some_iff,pure]at h;obtain⟨a,ha,h⟩:=h;have key:∀cs,a.2.2.2.2.2.2.2.1=some cs->∀x∈cs.toList,Pl x:=by
  rw[<-Array.forIn_toList]at ha;refine Bb (λs:Array Field×Nat×Nat×Nat×Nat×Bool×Bool×Option bw×String=>∀cs,s.2.2.2.2.2.2.2.1=some cs->∀x∈cs.toList,Pl x) fs.toList _ _ _ (λf s r h1 h2=>?_) ha (λcs hcs x hx=>?_)
  ·simp only[Option.bind_eq_some_iff]at h1;obtain⟨i,hi,h1⟩:=h1;repeat' first
    |(cases h1;done)
    |(rw[Option.bind_eq_some_iff]at h1;obtain⟨_,hh,h1⟩:=h1;first|(cases hh;done)|skip)
    |(split at h1)
   all_goals(cases h1;intro cs hcs;first|(cases hcs;done)|exact LC hinfo hi h2 hcs)
  ·cases hcs;simp at hx
 have fin:∀v,(a.2.2.2.2.2.2.2.1.map Value.agg)=some v->Pl v:=λv hv=>by obtain⟨cs,h1,rfl⟩:=bQ.1 hv;exact λρ=>.agg (LB (λx hx=>key cs h1 x hx ρ))
 split at h<;>(cases h;exact fin)
theorem Fz{info:aw->Option TypeInfo}(hinfo:∀t i v,info t=some i->i.zero=some v->Pl v){d:TypeDesc}{j:TypeInfo}(h:Made.reckon info d=some j):∀v,j.zero=some v->Pl v:=by
 unfold Made.reckon at h;split at h
 case h_7=>exact uP hinfo h
 case h_6 n e=>simp only[bind,Option.bind_eq_some_iff,pure]at h;obtain⟨i,hi,s,hs,h⟩:=h;cases h;intro v hv;dsimp only at hv;split at hv;cases hv;split at hv;cases hv;exact λρ=>.agg .nil;obtain⟨z,h1,rfl⟩:=bQ.1 hv;refine λρ=>.agg (LB λx hx=>?_);simp only[Array.toList_flatten,List.mem_flatten,List.mem_map]at hx;obtain⟨l,⟨a,ha,rfl⟩,hx⟩:=hx;(have:a=z.cells:=by simp at ha;exact ha.2);subst this;exact D7 (hinfo _ _ _ hi h1) x hx ρ
 all_goals try simp only[bind,Option.bind_eq_some_iff,pure]at h
 all_goals repeat' first
  |(obtain⟨_,_,h⟩:=h)
  |(split at h)
 all_goals first
  |(cases h;done)
  |(cases h;intro v hv;cases hv;exact λρ=>by constructor)
  |skip
 all_goals try(rw[Option.bind_eq_some_iff]at h;obtain⟨_,_,h⟩:=h;cases h)
 all_goals(intro v hv;simp only[Made.word,bq]at hv;subst hv;exact λρ=>by constructor)
theorem wj{T:Tables}(h0:∀(t:Nat)(i:TypeInfo)(v:ae),T.types[t]?=some i->i.zero=some v->Pl v):∀(f:Nat)(t:aw)(i:TypeInfo)(v:ae),Made.infoAt T f t=some i->i.zero=some v->Pl v
 |0,_,_,_,h,_=>by simp[Made.infoAt]at h
 |f+1,t,i,v,h,hv=>by unfold Made.infoAt at h;split at h;exact h0 t i v h hv;obtain⟨d,_,h⟩:=Option.bind_eq_some_iff.1 h;exact Fz (wj h0 f) h v hv
theorem Bc{P:aF}(h0:∀(t:Nat)(i:TypeInfo)(v:ae),P.types[t]?=some i->i.zero=some v->Pl v)(t:aw)(i:TypeInfo)(v:ae)(h:P.info? t=some i)(hv:i.zero=some v):Pl v:=by unfold Tables.info? at h;split at h;exact h0 t i v h hv;exact wj h0 _ t i v h hv
theorem CQ{P:aF}{t:aw}{i:TypeInfo}(h:P.info? t=some i):P.types[t]?=some i\/i.methods= #[]:=by unfold Tables.info? at h;split at h;exact .inl h;rename_i ht;unfold Made.depth at h;unfold Made.infoAt at h;rw[if_neg ht]at h;obtain⟨d,_,h⟩:=Option.bind_eq_some_iff.1 h;exact .inr (zQ h)
def qd:Nat->ae->Bool
 |0,_=>false
 |n+1,v=>match v with
  |.bool _|.int _ _|.float _ _|.complex _ _ _|.string _|.pointer none|.slice none _ _|.map none|.chan none|.nilFunc|.nilIface=>true
  |.iface _ v=>qd n v
  |.agg xs|.tuple xs=>xs.toList.all (qd n)
  |_=>false
theorem wq{ρ:Rn}:∀{l:List ae},(∀v∈l,VR ρ v v)->LR ρ l l
 |[],_=>.nil
 |_::_,h=>.cons (h _ sM) (wq λv hv=>h v (by simp[hv]))
theorem lJ:∀(n:Nat)(v:ae),qd n v=true->Pl v
 |0,_,h=>by simp[qd]at h
 |n+1,v,h=>λρ=>by unfold qd at h;split at h;(all_goals first|constructor|skip);exact lJ n _ h ρ;exact wq λv hv=>lJ n v (bj.1 h v hv) ρ;exact wq λv hv=>lJ n v (bj.1 h v hv) ρ;cases h
structure Al where
 ok:Nat->Bool
 nm:String->Bool
 K:Nat->Bool
 T:Nat->Bool
 sp:Nat->Bool
 S:Nat->Nat->Bool
section
variable (P:aF)(A:Al)
def fI(S:Nat->Bool):Operand->Bool
 |.tmp t=>!S t
 |.const v=>qd 6 v
 |.global g=>A.K g
 |.func f=>A.ok f
def Z1:Fn->Bool
 |.func f=>A.ok f
 |.method n|.methodOf _ n=>A.nm n
 |.via _ _ f _=>A.ok f
 |.yield _=>false
def FA(S:Nat->Bool)(c:Call):Bool:=c.args.toList.all (fI A S)&&match c.callee with
 |.value f=>fI A S f
 |.invoke r n=>fI A S r&&A.nm n
 |.builtin b=>uK P b c.argTypes
def Ix(S:Nat->Bool):Option Operand->Bool
 |none=>true
 |some x=>fI A S x
def Oh(S:Nat->Bool):Op->Bool
 |.move x|.assign x|.box _ x|.load _ x|.nilCheck x|.unOp _ _ x|.makeInterface _ x|.fieldAddr _ x _|.field _ x _|.typeAssert x _ _ _|.extract x _|.panic x=>fI A S x
 |.pick c a b=>fI A S c&&(fI A S a&&fI A S b)
 |.alloc _=>true
 |.build _ ps|.buildSlice _ _ ps=>ps.toList.all λp=>fI A S p.2
 |.store _ a x=>fI A S a&&fI A S x
 |.binOp _ _ x y _=>fI A S x&&fI A S y
 |.convert s t x=>abL P s t&&fI A S x
 |.makeFunc fn a b=>Z1 A fn&&(a.toList.all (fI A S)&&b.toList.all (fI A S))
 |.makeMap _ r=>Ix A S r
 |.makeSlice _ l c=>fI A S l&&fI A S c
 |.slice _ x lo hi mx=>fI A S x&&(Ix A S lo&&(Ix A S hi&&Ix A S mx))
 |.indexAddr _ x i|.index _ x i=>fI A S x&&fI A S i
 |.lookup t x i _=>qR P t&&(fI A S x&&fI A S i)
 |.mapUpdate t m k x|.insert t m k x=>qR P t&&(fI A S m&&(fI A S k&&fI A S x))
 |.range t x=>ES P t&&fI A S x
 |.next it b=>b&&fI A S it
 |.call c=>FA P A S c
 |.defer c=>FA P A S c&&match c.callee with|.builtin _=>false|_=>true
 |_=>false
def D8(S:Nat->Bool)(o:Oper):Bool:=match o.dst with|some d=>!S d|none=>true
def WI:Op->Bool
 |.call c=>match c.callee with|.builtin .recover=>true|_=>false
 |_=>false
def Z2:Op->Bool
 |.defer _=>true
 |_=>false
def WJ(S:Nat->Bool)(o:Oper):Bool:=match o.op,o.dst with
 |.indexAddr _ (.global g) i,some d=>A.T g&&(fI A S i&&S d)
 |_,_=>false
def WK(S:Nat->Bool)(o:Oper):Bool:=match o.op with
 |.load _ (.tmp _)=>D8 S o
 |.load _ (.global g)=>A.T g&&D8 S o
 |_=>false
def WL(o:Oper):Bool:=match o.op with
 |.call c=>match c.callee with|.value (.func f)=>A.sp f|_=>false
 |_=>false
def LD(S:Nat->Bool)(inl:Bool)(o:Oper):Bool:=
 (Oh P A S o.op&&(D8 S o&&!(inl&&Z2 o.op)))||((!inl&&(WI o.op&&D8 S o))||(WJ A S o||(WK A S o||WL A o)))
def mB(S:Nat->Bool)(inl:Bool):Code->Bool
 |.seq a b=>mB S inl a&&mB S inl b
 |.cond c a b=>fI A S c&&(mB S inl a&&mB S inl b)
 |.block _ c|.loop c|.scope c=>mB S inl c
 |.region _ ops _=>ops.toList.all (LD P A S inl)
 |.rangeFunc g _ _ _=>fI A S g
 |_=>true
end
def rounds:Code->List Code
 |.seq a b|.cond _ a b=>rounds a++rounds b
 |.block _ c|.loop c|.scope c=>rounds c
 |.rangeFunc _ _ a b=>a::b::(rounds a++rounds b)
 |_=>[]
theorem CR:∀{c x y:Code},x∈rounds c->y∈rounds x->y∈rounds c:=by
 intro c
 induction c with
 |seq a b iha ihb=>intro x y h k;exact zef
 |cond _ a b iha ihb=>intro x y h k;exact zef
 |block _ c ih=>intro x y h k;exact ih h k
 |loop c ih=>intro x y h k;exact ih h k
 |scope c ih=>intro x y h k;exact ih h k
 |rangeFunc _ _ a b iha ihb=>intro x y h k;simp only[rounds,List.mem_cons,List.mem_append]at h⊢;rcases h with rfl|rfl|h|h;exact .inr (.inr (.inl k));exact .inr (.inr (.inr k));exact .inr (.inr (.inl (iha h k)));exact .inr (.inr (.inr (ihb h k)))
 |_=>intro x y h k;simp[rounds]at h
structure Fits(P:aF)(A:Al)(ρ:Rn):Prop where
 ok:∀f,ρ.ok f↔A.ok f=true
 nm:∀n,ρ.nm n↔A.nm n=true
 K:∀g,A.K g=true->ρ.K g
 T:∀g,ρ.T g↔A.T g=true
 sp:∀f,ρ.sp f↔A.sp f=true
 cd:∀f c,ρ.cd f c↔∃fn body,A.ok f=true/\P.funcs[f]?=some fn/\fn.body=some body/\c∈rounds body
section
variable {P:aF}{A:Al}{ρ:Rn}
theorem mo(F:Fits P A ρ){S:Nat->Bool}{o:Operand}(h:fI A S o=true):ud ρ S o:=by
 cases o with
 |tmp t=>simpa[fI,ud]using h
 |const v=>exact lJ 6 v h
 |global g=>exact F.K g h
 |func f=>exact(F.ok f).2 h
theorem UZ(F:Fits P A ρ){f:Fn}(h:Z1 A f=true):DL ρ f:=by
 cases f with
 |func f=>exact(F.ok f).2 h
 |method n=>exact(F.nm n).2 h
 |methodOf t n=>exact(F.nm n).2 h
 |via t p f q=>exact(F.ok f).2 h
 |yield l=>cases h
theorem D9(F:Fits P A ρ){S:Nat->Bool}{c:Call}(h:FA P A S c=true):sR P ρ (ud ρ S) c:=by
 unfold FA at h;rw[aV]at h;refine⟨λo ho=>mo F (bj.1 h.1 o ho),?_⟩;have h2:=h.2;obtain⟨ce,args,ats⟩:=c;cases ce with
 |value f=>exact mo F h2
 |invoke r n=>simp only[aV]at h2;exact⟨mo F h2.1,(F.nm _).2 h2.2⟩
 |builtin b=>exact h2
theorem wu(F:Fits P A ρ){S:Nat->Bool}{o:Option Operand}(h:Ix A S o=true):∀y,o=some y->ud ρ S y:=by rintro y rfl;exact mo F h
theorem U0(F:Fits P A ρ){S:Nat->Bool}{o:Op}(h:Oh P A S o=true):Ay P ρ (ud ρ S) o:=by
 have d:∀{x},fI A S x=true->ud ρ S x:=λh=>mo F h;cases o<;>simp only[Oh,aV]at h<;>simp only[Ay];all_goals first
  |exact d h
  |exact⟨d h.1,d h.2.1,d h.2.2⟩
  |exact⟨d h.1,d h.2⟩
  |exact⟨h.1,d h.2⟩
  |exact⟨h.1,d h.2.1,d h.2.2⟩
  |exact⟨h.1,d h.2.1,d h.2.2.1,d h.2.2.2⟩
  |exact λp hp=>d (bj.1 h p hp)
  |exact⟨UZ F h.1,λx hx=>d (bj.1 h.2.1 x hx),λx hx=>d (bj.1 h.2.2 x hx)⟩
  |exact wu F h
  |exact⟨d h.1,wu F h.2.1,wu F h.2.2.1,wu F h.2.2.2⟩
  |exact D9 F h
  |exact⟨D9 F h.1,λb hb=>by have h2:=h.2;rw[hb]at h2;cases h2⟩
  |(cases h;done)
  |skip
theorem wF{S:Nat->Bool}{o:Oper}(h:D8 S o=true):∀d,o.dst=some d->S d=false:=λd hd=>by unfold D8 at h;rw[hd]at h;simpa using h
theorem Oi(F:Fits P A ρ){S:Nat->Bool}{inl:Bool}{o:Oper}(h:LD P A S inl o=true):qa P ρ S inl o:=by unfold LD at h;simp only[cw,aV]at h;rcases h with⟨h1,h2,h3⟩|⟨h1,h2,h3⟩|h|h|h;refine .inl ⟨U0 F h1,wF h2,λhi c hc=>?_⟩;rw[hi,hc]at h3;cases h3;refine .inr (.inl ⟨by simpa using h1,?_,wF h3⟩);unfold WI at h2;split at h2;rename_i c hc;refine⟨c,hc,?_⟩;split at h2;assumption;cases h2;cases h2;refine .inr (.inr (.inl ?_));unfold WJ at h;split at h;rename_i t g i d h1 h2;simp only[aV]at h;exact⟨t,g,i,d,h1,(F.T g).2 h.1,mo F h.2.1,h2,h.2.2⟩;cases h;refine .inr (.inr (.inr (.inl ?_)));unfold WK at h;split at h;rename_i t s h1;exact⟨t,_,h1,.inl ⟨s,rfl⟩,wF h⟩;rename_i t g h1;rw[aV]at h;exact⟨t,_,h1,.inr ⟨g,rfl,(F.T g).2 h.1⟩,wF h.2⟩;cases h;refine .inr (.inr (.inr (.inr ?_)));unfold WL at h;split at h;rename_i c hc;split at h;rename_i f hf;exact⟨c,f,hc,hf,(F.sp f).2 h⟩;cases h;cases h
theorem Ea(F:Fits P A ρ){f:Nat}{S:Nat->Bool}{inl:Bool}:∀{c:Code},(∀x∈rounds c,ρ.cd f x/\∀s,S s=false)->mB P A S inl c=true->fU P ρ f S inl c:=by
 intro c
 induction c with
 |seq a b iha ihb=>intro hr h;simp only[mB,aV]at h;exact⟨iha (λx hx=>hr x zei) h.1,ihb (λx hx=>hr x zei) h.2⟩
 |cond x a b iha ihb=>intro hr h;simp only[mB,aV]at h;exact⟨mo F h.1,iha (λx hx=>hr x zei) h.2.1,ihb (λx hx=>hr x zei) h.2.2⟩
 |block _ c ih=>intro hr h;exact ih hr h
 |loop c ih=>intro hr h;exact ih hr h
 |scope c ih=>intro hr h;exact ih hr h
 |region _ ops _=>intro hr h;exact λo ho=>Oi F (bj.1 h o ho)
 |rangeFunc g ps a b iha ihb=>intro hr h;have ha:=hr a (by simp[rounds]);have hb:=hr b (by simp[rounds]);exact⟨mo F h,ha.2,ha.1,hb.1⟩
 |_=>intro hr h;trivial
def Q9(P:aF)(A:Al)(f:Nat):Bool:=!A.ok f||match P.funcs[f]? with
 |none=>false
 |some fn=>(match fn.body with
  |none=>true
  |some c=>mB P A (A.S f) false c&&(match rounds c with|[]=>true|r=>r.all λx=>mB P A (A.S f) true x))&&
  fn.results.toList.all λr=>match r with|.tmp t=>!A.S f t|.cell a _=>!A.S f a
def WM(P:aF)(A:Al):Bool:=P.types.toList.all λi=>i.methods.toList.all λm=>!A.nm m.name||match m.func with|none=>true|some (f,_)=>A.ok f
def WN(P:aF):Bool:=P.types.toList.all λi=>match i.zero with|none=>true|some v=>qd 8 v
def Nb(P:aF):Bool:=P.follows .staticDataAhead&&P.funcs.toList.all λf=>match f.body with|none=>true|some c=>(readies c).isEmpty
theorem LF(h:Nb P=true)(fr:Frame)(cs:List Frame)(d:Option Dying)(g:Nat)(w:aa):∃o w1 es,early P fr cs d g w=.ended o w1 es:=by
 unfold Nb at h;rw[aV]at h;have hs:P.stepOf g=none:=by
  unfold Program.stepOf;rw[Array.findIdx?_eq_none_iff];intro f hf;have h2:=bj.1 h.2 f (gQ.2 hf);cases hb:f.body with
  |none=>rfl
  |some c=>rw[hb]at h2;have h3:readies c=[]:=List.isEmpty_iff.1 h2;simp[h3]
 unfold early;rw[h.1,hs];exact⟨_,_,_,rfl⟩
theorem U1(F:Fits P A ρ)(hf:(List.range P.funcs.size).all (Q9 P A)=true)(hof:∀f,A.ok f=true->f<P.funcs.size)(hs:∀f,(∃s,A.S f s=true)->∀fn c,P.funcs[f]?=some fn->fn.body=some c->rounds c=[])
 (hm:WM P A=true)(hz:WN P=true)(he:Nb P=true)(hk:KF P ρ)(hx:XF P ρ.ok):Env P ρ A.S:=by
 have key:∀f fn,A.ok f=true->P.funcs[f]?=some fn->(∀c,fn.body=some c->mB P A (A.S f) false c=true/\∀x∈rounds c,mB P A (A.S f) true x=true)/\∀r∈fn.results.toList,match r with|.tmp t=>A.S f t=false|.cell a _=>A.S f a=false:=by
  intro f fn h1 h2;have h3:=bj.1 hf f (bX.2 (hof f h1));unfold Q9 at h3;rw[h1,h2]at h3;simp only[Bool.not_true,Bool.false_or,aV,bj]at h3;refine⟨λc hc=>?_,λr hr=>?_⟩
  ·have h4:=h3.1;rw[hc]at h4;simp only[aV]at h4;refine⟨h4.1,λx hx=>?_⟩;have h5:=h4.2;cases hr:rounds c with
   |nil=>rw[hr]at hx;cases hx
   |cons y l=>rw[hr]at h5 hx;exact bj.1 h5 x hx
  ·have h4:=h3.2 r hr;cases r with
   |tmp t=>simpa using h4
   |cell a _=>simpa using h4
 have XN:∀f fn c,A.ok f=true->P.funcs[f]?=some fn->fn.body=some c->∀x,x∈rounds c->∀s,A.S f s=false:=λf fn c h1 h2 h3 x hx s=>by
  cases e:A.S f s with
  |false=>rfl
  |true=>rw[hs f ⟨s,e⟩ fn c h2 h3]at hx;cases hx
 refine⟨⟨λρ t i v hi hv=>?_⟩,hk,hx,λn hn t i m f q hi hm' hf'=>?_,λf fn c h1 h2 h3=>?_,λf c hc=>?_,λf fn h1 h2=>(key f fn ((F.ok f).1 h1) h2).2,λf h=>hof f ((F.ok f).1 h),LF he⟩
 ·refine Bc (λt i v hi hv=>?_) t i v hi hv ρ;have h4:=bj.1 hz i (by
   rw[az]at hi;obtain⟨h,rfl⟩:=hi;simp)
  rw[hv]at h4;exact lJ 8 v h4
 ·rcases CQ hi with hi|hi
  ·have h4:=bj.1 hm i (by
    rw[az]at hi;obtain⟨h,rfl⟩:=hi;simp)
   have h5:=bj.1 h4 m (by simpa using Array.mem_of_find?_eq_some hm');have h6:(m.name==n)=true:=Array.find?_some (p:=λx:Method=>x.name==n) hm';rw[beq_iff_eq]at h6;rw[h6,(F.nm n).1 hn,hf']at h5;exact(F.ok f).2 (by simpa using h5)
  ·rw[hi]at hm';simp at hm'
 ·have h1':=(F.ok f).1 h1;exact Ea F (λx hx=>⟨(F.cd f x).2 ⟨fn,c,h1',h2,h3,hx⟩,XN f fn c h1' h2 h3 x hx⟩) ((key f fn h1' h2).1 c h3).1
 ·obtain⟨fn,body,h1,h2,h3,h4⟩:=(F.cd f c).1 hc;refine⟨XN f fn body h1 h2 h3 c h4,Ea F (λx hx=>?_) (((key f fn h1 h2).1 body h3).2 c h4)⟩;have hx':=CR h4 hx;exact⟨(F.cd f x).2 ⟨fn,body,h1,h2,h3,hx'⟩,XN f fn body h1 h2 h3 x hx'⟩
end
end Go.Pr
namespace Go.Mx
open Go Go.Pr Go.Proofs Go.Proofs.Tryz
def okF(f:Nat):Bool:=(Nat.ble 3 f&&Nat.ble f 5)||((Nat.ble 7 f&&Nat.ble f 9)||((Nat.ble 14 f&&Nat.ble f 20)||((Nat.ble 39 f&&Nat.ble f 53)||((Nat.ble 59 f&&Nat.ble f 188)||(Nat.beq f 202||(Nat.beq f 203||(Nat.beq f 209||(Nat.beq f 212||(Nat.beq f 214||(Nat.beq f 215||(Nat.beq f 223||Nat.beq f 226)))))))))))
def FC:Nat->Nat->Bool
 |92,20=>true|92,41=>true|127,10=>true|177,11=>true|178,11=>true|_,_=>false
def alw(main:Bool):Al where
 ok f:=okF f&&(main||Nat.ble 5 f)
 nm n:=["Kind", "Elem", "Implements", "AssignableTo", "As", "Unwrap"].contains n
 K g:=Nat.beq g 0||(Nat.beq g 3||(Nat.beq g 4||(Nat.beq g 5||Nat.beq g 9)))
 T g:=Nat.beq g 1||(Nat.beq g 2||(Nat.beq g 6||(Nat.beq g 7||Nat.beq g 8)))
 sp f:=main&&Nat.beq f 6
 S:=FC
theorem Z4:(List.range prog.funcs.size).all (Q9 prog (alw false))=true:=kR
theorem Z5:∀m,WM prog (alw m)=true
 |true=>kR
 |false=>kR
theorem WO:WN prog=true:=kR
theorem Z7:Nb prog=true:=kR
theorem U2:prog.funcs.size=240:=kR
theorem FE:prog.globals.size=9:=kR
theorem Z8:prog.globals.findIdx? (·.name== "internal/bytealg.MaxLen")=some 3:=kR
noncomputable def Oj(f:Nat):Bool:=match(prog.funcs[f]?).bind (·.body)with
 |none=>true
 |some c=>(rounds c).isEmpty
theorem Nc:Oj 92=true/\Oj 127=true/\Oj 177=true/\Oj 178=true:=⟨kR,kR,kR,kR⟩
theorem Nd{f:Nat}(h:okF f=true):f<240:=by unfold okF at h;simp only[cw,aV,Nat.ble_eq,Nat.beq_eq]at h;omega
def Ra(f:Nat):Bool:=[50,51,52,67,85,86,87,123,158,188,202,203,209,212,214,215].contains f
noncomputable def Rb(f:Nat):Bool:=!okF f||match prog.funcs[f]? with
 |none=>true
 |some fn=>!(fn.name== "runtime.NumGoroutine")&&(fn.body.isSome||Ra f)
theorem XO:(List.range 240).all Rb=true:=kR
theorem XP{ρ:Rn}{xs xs':bw}(hx:AR ρ xs xs'):VR ρ (xs.getD 0 (.tuple #[])) (xs'.getD 0 (.tuple #[])):=by
 obtain⟨xs⟩:=xs;obtain⟨xs'⟩:=xs';have hx:LR ρ xs xs':=hx;cases hx with
 |nil=>exact .tuple .nil
 |cons x _=>exact x
def XE(P:aF)(ok:cD)(fn:Func):Prop:=match Extern.findNext fn with
 |some e=>∀(ρ:Rn)(xs xs':bw),ρ.ok=ok->KF P ρ->AR ρ xs xs'->aP P iu ρ (e xs) (e xs')
 |none=>match Extern.find fn with
  |some e=>∀(ρ:Rn)(xs xs':bw),ρ.ok=ok->KF P ρ->AR ρ xs xs'->aP P cI ρ (e xs) (e xs')
  |none=>True
theorem abv{P:aF}{ok:cD}{fn:Func}{e:bw->Sem ae}(h1:Extern.findNext fn=none)(h2:Extern.find fn=some e)(h:∀(ρ:Rn)(xs xs':bw),KF P ρ->AR ρ xs xs'->aP P cI ρ (e xs) (e xs')):XE P ok fn:=by unfold XE;rw[h1];dsimp only;rw[h2];exact λρ xs xs' _ k x=>h ρ xs xs' k x
theorem XQ{P:aF}{ok:cD}{fn:Func}(h1:Extern.findNext fn=none)(h2:Extern.find fn=none):XE P ok fn:=by
 unfold XE;rw[h1];dsimp only;rw[h2]
 trivial
section
variable {ok:cD}
theorem pfT:PF prog:=⟨λρ t i v hi hv=>Bc (λt i v hi hv=>by
 have h4:=bj.1 WO i (by
  rw[az]at hi;obtain⟨h,rfl⟩:=hi;simp)
 rw[hv]at h4;exact lJ 8 v h4) t i v hi hv ρ⟩
theorem Z9:XE prog ok Tryz.f50:=abv (e:=λargs=>Extern.ReflectliteValue.unpack (args.getD 0 (.tuple #[]))) kR kR λρ xs xs' hk hx=>D1 (ρ:=ρ) hk (XP hx)
theorem aaa:XE prog ok Tryz.f51:=abv (e:=Extern.ReflectliteValue.methodAny (Extern.ReflectliteValue.valueError "reflectlite.Value.Type" 0) λt _ _ _=>Extern.ReflectliteType.toType t) kR kR λρ xs xs' hk hx=>Fb hk (λσ l=>fZ _ _) (λσ t a a' n k l _=>xP (hk.mono l) t) hx
theorem aab:XE prog ok Tryz.f52:=abv (e:=Extern.ReflectliteValue.method (Extern.ReflectliteValue.valueError "reflectlite.Value.IsNil" 0) Extern.ReflectliteValue.isNil) kR kR λρ xs xs' hk hx=>uO hk (λσ l=>fZ _ _) (λσ t a a' n k l ha=>N8 t ha n k) hx
theorem aac:XE prog ok Tryz.f67:=abv (e:=Extern.AbiNoEscape.same) kR kR λρ xs xs' hk hx=>Hr hx
theorem aad:XE prog ok Tryz.f85:=abv (e:=Extern.ReflectliteType.typeOf) kR kR λρ xs xs' hk hx=>N6 hk hx
theorem aae:XE prog ok Tryz.f86:=abv (e:=Extern.ReflectliteValue.method (Extern.ReflectliteValue.valueError "reflectlite.Value.Elem" 0) Extern.ReflectliteValue.elem) kR kR λρ xs xs' hk hx=>uO hk (λσ l=>fZ _ _) (λσ t a a' n k l ha=>QR (hk.mono l) t ha n k) hx
theorem aaf:XE prog ok Tryz.f87:=abv (e:=Extern.ReflectliteValue.set) kR kR λρ xs xs' hk hx=>UK hk hx
theorem XR:XE prog ok Tryz.f123:=abv (e:=Extern.BytealgIndex.index) kR kR λρ xs xs' hk hx=>Hs hk hx
theorem XS:XE prog ok Tryz.f158:=abv (e:=Extern.BytealgIndexByte.indexByte) kR kR λρ xs xs' hk hx=>E0 hx
theorem XT:XE prog ok Tryz.f188:=abv (e:=Extern.BytealgMakeNoZero.makeNoZero Tryz.f188.params Tryz.f188.resultTypes) kR kR λρ xs xs' hk hx=>CK pfT hk _ _ hx
theorem XU:XE prog ok Tryz.f202:=XQ kR kR
theorem XV:XE prog ok Tryz.f203:=abv (e:=Extern.ReflectliteType.abiMethod λt=>do pure (.int .u8 (<-Extern.Rtype.kind t))) kR kR λρ xs xs' hk hx=>Fa hk (λσ t l=>Ln t) hx
theorem XW:XE prog ok Tryz.f209:=abv (e:=Extern.ReflectliteValue.method (pure (.int .u8 0)) λ_ _ _ k=>pure (.int .u8 (Int.ofNat k))) kR kR λρ xs xs' hk hx=>uO hk (λσ l=>aB (.int .u8 0)) (λσ t a a' n k l ha=>aB (.int .u8 (Int.ofNat k))) hx
theorem XX:XE prog ok Tryz.f212:=abv (e:=Extern.ReflectliteType.relation "AssignableTo" Extern.ReflectliteType.assignableTo) kR kR λρ xs xs' hk hx=>yR hk _ AK hx
theorem XY:XE prog ok Tryz.f214:=abv (e:=Extern.ReflectliteType.method Extern.ReflectliteType.elem) kR kR λρ xs xs' hk hx=>Lm hk (λσ t l=>QP (hk.mono l) t) hx
theorem XZ:XE prog ok Tryz.f215:=abv (e:=Extern.ReflectliteType.relation "Implements" Extern.ReflectliteType.implements_) kR kR λρ xs xs' hk hx=>yR hk _ zO hx
theorem xfT(h:∀f,ok f->okF f=true):XF prog ok:=by
 intro f fn hf ho;have h1:=h f ho;have h2:=bj.1 XO f (bX.2 (Nd h1));unfold Rb at h2;rw[h1,hf]at h2;simp only[Bool.not_true,Bool.false_or,aV]at h2;refine⟨by simpa using h2.1,λhb=>?_⟩;have h3:=h2.2;have hbs:fn.body.isSome=false:=by cases hh:fn.body<;>simp_all
 rw[hbs,Bool.false_or]at h3;unfold Ra at h3;simp only[List.contains_cons,List.contains_nil,cw,beq_iff_eq,Bool.or_false]at h3;show XE prog ok fn;rcases h3 with rfl|rfl|rfl|rfl|rfl|rfl|rfl|rfl|rfl|rfl|rfl|rfl|rfl|rfl|rfl|rfl;obtain rfl:=bJ (func50.symm.trans hf);exact Z9;obtain rfl:=bJ (func51.symm.trans hf);exact aaa;obtain rfl:=bJ (func52.symm.trans hf);exact aab;obtain rfl:=bJ (func67.symm.trans hf);exact aac;obtain rfl:=bJ (func85.symm.trans hf);exact aad;obtain rfl:=bJ (func86.symm.trans hf);exact aae;obtain rfl:=bJ (func87.symm.trans hf);exact aaf;obtain rfl:=bJ (func123.symm.trans hf);exact XR;obtain rfl:=bJ (func158.symm.trans hf);exact XS;obtain rfl:=bJ (func188.symm.trans hf);exact XT;obtain rfl:=bJ (func202.symm.trans hf);exact XU;obtain rfl:=bJ (func203.symm.trans hf);exact XV;obtain rfl:=bJ (func209.symm.trans hf);exact XW;obtain rfl:=bJ (func212.symm.trans hf);exact XX;obtain rfl:=bJ (func214.symm.trans hf);exact XY;obtain rfl:=bJ (func215.symm.trans hf);exact XZ
end
end Go.Mx
namespace Go.Pr
open Go
theorem rv{P:aF}(t:aw):P.underlying t=(P.info? (P.underlyingId t)).map (·.desc):=by
 unfold Program.underlying Program.underlyingId;cases h:P.info? t with
 |none=>simp[h]
 |some i=>obtain⟨d⟩:=i;cases d<;>simp[h]
theorem Bd{P:aF}{e:aw}{d:TypeDesc}(h:P.underlying e=some d)(hs:∀fs,d≠.struct fs)(ha:∀n t,d≠.array n t)(hi:d≠.int .u8):bare P e:=by
 intro k off n u hn hu;have hne:¬P.underlyingId e=P.underlyingId u:=λhe=>by rw[rv,he,<-rv,hu]at h;exact hi (bJ h).symm
 have hfit:∀D,sameLayout P D e u=false:=by
  intro D;cases D with
  |zero=>rfl
  |succ D=>unfold sameLayout;rw[h,hu];(have:(P.underlyingId e==P.underlyingId u)=false:=by simpa using hne);rw[this,Bool.false_or];(cases d<;>first|rfl|skip);rename_i k;cases k<;>first|rfl|exact absurd rfl hi
 have hrow:∀D n,rowAt P (sameLayout P P.depth · u) D e k off n=false:=by
  intro D n;cases D with
  |zero=>rfl
  |succ D=>unfold rowAt;simp only[hfit,h,Bool.and_false,Bool.false_or];split;rfl;cases d<;>first|exact absurd rfl (hs _)|exact absurd rfl (ha _ _)|simp
 cases hD:P.depth with
 |zero=>rfl
 |succ D=>unfold liesAt;rw[hu];simp only[Bool.or_false];exact hrow _ _
end Go.Pr
namespace Go.Mx
open Go Go.Conc Go.Conc.Lib Go.ConcN.Gen Go.ConcR.Gen Go.RowKit
open Go.ConcN (WgLive st_flag st_waiters)
open Go.ConcR (DC0 KK WgAt mk rd smA stA wgBlock wr)
section
variable {G:Geo}{P:aF}{Fin:aG->Prop}{L:WgLink}
theorem dc.walk{tag:jm}{d n:Nat}{g:aG}{w:aa}(h:Conc.Goes P true (Rel G λ_=>False) DC0 (λg w=>dc G P Fin ⟨tag,d,g,w⟩) n g w):dc G P Fin ⟨tag,d,g,w⟩:=
 dc.goes (s:=⟨tag,d,g,w⟩) (λ_ _ k=>k) h
theorem ag{M:cD}{w w1:aa}(h:WgLive G.ty G.Wg w)(r:Rel G M w w1):WgLive G.ty G.Wg w1:=r.live h
theorem abG{w:aa}(h:WgLive G.ty G.Wg w):∃v,w.cell? ⟨G.Wg,1,none⟩=some v:=let⟨_,_,h⟩:=h;⟨_,h.cellSm⟩
theorem dc.step1{tag:jm}{d:Nat}{g:aG}{w:aa}(_:g.status=.running)(h:(stepG P true g w).goes λg' w' es=>g'.status=.running/\Same w w'/\(∀e∈es,Ia G e)/\dc G P Fin ⟨tag,d,g',w'⟩):mH G P Fin (dc G P Fin) ⟨tag,d,g,w⟩:=by
 cases e:stepG P true g w with
 |go g' w' es=>rw[e]at h;exact .quiet e h.1 h.2.1 h.2.2.1 h.2.2.2
 |_=>rw[e]at h;exact h.elim
variable {b₀:Frame}{a₀:Act}{ops₀:Array Oper}{i₀:Nat}{rest₀:List Nat}{k₀:List Item}{cs:List Frame}
theorem X6(H:WgLib P L)(hty:G.ty=L.tWg){r:Nat}
 {F:aa->Prop}(hFl:∀{w},F w->WgLive G.ty G.Wg w)(bC:∀{w w1},F w->Rel G (λ_=>False) w w1->F w1)(hFs:∀{w} v,F w->WgLive G.ty G.Wg (w.setCell (stA G.Wg) v)->F (w.setCell (stA G.Wg) v))
 (hT:∀w,F w->dc G P Fin ⟨.sp (r+1) true,0,Conc.G (b₀.at (a₀.put ((ops₀[i₀]?).bind (·.dst)) (.tuple #[])) (.inRegion ops₀ rest₀::k₀)) cs,w⟩)(w:aa)(hF:F w):
 dc G P Fin ⟨.sp (r+1) false,0,Conc.G ((base L.add).at {tmps:=#[pT G.Wg 0,.int .i64 1]++Array.replicate ((addFn L).ntmps-2) undef,defers:=[]} [.code (body_add L)]) (b₀.at a₀ (.inRegion ops₀ (i₀::rest₀)::k₀)::cs),w⟩:=by
 lib_facts
 refine dc.walk (n:=40) ?_;simp only[body_add,addFn,br];walk_nrm;u_c stepG_seq bC hF;u_cond true bC hF;u_c stepG_seq bC hF;u_c stepG_seq bC hF;u_reg bC hF;u_op bC hF;u_op bC hF;u_c stepG_region_end bC hF;u_cond false bC hF;u_c stepG_skip bC hF;u_c stepG_seq bC hF;u_reg bC hF;refine Goes.stop (λw₁ h₁=>?_);replace hF:=bC hF h₁;clear h₁;refine dc.act rfl (λw₂ h₂=>?_);replace hF:=bC hF h₂;clear h₂;refine .kF (stepG_mark0 .disable sM rfl rfl (by k_ne) rfl H.f_disable (x_disable_n L) (x_disable_b L) (x_disable_x L) (x_disable_f L)) rfl ?_;refine dc.walk (n:=80) ?_;walk_nrm;u_c stepG_region_end bC hF;u_reg bC hF;u_defer bC hF;u_c stepG_region_end bC hF;u_c stepG_seq bC hF;u_reg bC hF;u_op bC hF;u_c stepG_region_end bC hF;u_c stepG_seq bC hF;u_c stepG_seq bC hF;u_reg bC hF;u_bub bC hF;u_c stepG_region_end bC hF;u_cond false bC hF;u_c stepG_skip bC hF;u_c stepG_seq bC hF;u_reg bC hF;u_op bC hF;u_op bC hF;u_op bC hF;u_op bC hF;u_op bC hF;u_op bC hF;u_call H.f_uAdd (nm_uAdd L) uAddFn bC hF;u_c stepG_seq bC hF;u_reg bC hF;u_op bC hF;u_c stepG_region_end bC hF;u_c stepG_seq bC hF;u_reg bC hF;u_op bC hF;u_op bC hF;u_op bC hF;u_op bC hF;refine Goes.stop (λw₃ h₃=>?_);replace hF:=bC hF h₃;clear h₃;refine dc.act rfl (λw₄ h₄=>?_);replace hF:=bC hF h₄;clear h₄;refine .add r rfl (λv hv hw=>?_);simp only[hty]at hw;have e3:((base L.add).at ⟨#[],[]⟩ []:Frame).kind=.normal:=rfl;rcases Nat.eq_zero_or_pos v with rfl|hvp
 ·replace hw:WgAt L.tWg G.Wg w₄ 0 0:=by simpa using hw
  have z:(((0+1:Nat):Int))*KK=KK:=sM;rw[z];have e0:IntKind.u64.wrap (0+4294967296)=KK:=dC;refine⟨_,(stepG_add_atomic rfl rfl (by k_ne) rfl H.f_addU64 (x_addU64_n L) (x_addU64_b L) (x_addU64_x L) .u64 (x_addU64_f L) rfl rfl hw.cellSt (hw.thaw 0)).trans (by rw[e0];rfl),rfl,?_⟩;replace hF:=hFs (.int .u64 KK) hF zeq;clear hw;simp only[KK]at hF⊢;refine dc.walk (n:=120) ?_;walk_nrm;u_op bC hF;u_c stepG_region_end bC hF;u_c stepG_ret' bC hF;u_leave1 H.f_uAdd bC hF;u_op bC hF;u_c stepG_region_end bC hF;u_c stepG_seq bC hF;u_c stepG_seq bC hF;u_reg bC hF;u_op bC hF;u_op bC hF;u_op bC hF;u_op bC hF;u_skip bC hF;u_skip bC hF;u_op bC hF;u_c stepG_region_end bC hF;u_cond false bC hF;u_c stepG_skip bC hF;u_c stepG_seq bC hF;u_reg bC hF;u_op bC hF;u_op bC hF;u_op bC hF;u_op bC hF;u_c stepG_region_end bC hF;u_c stepG_seq bC hF;u_reg bC hF;u_op bC hF;u_op bC hF;u_op bC hF;u_op bC hF;u_c stepG_region_end bC hF;u_c stepG_seq bC hF;u_c stepG_seq bC hF;u_reg bC hF;u_op bC hF;u_op bC hF;u_op bC hF;u_op bC hF;u_op bC hF;u_op bC hF;u_op bC hF;u_op bC hF;u_op bC hF;u_op bC hF;u_c stepG_region_end bC hF;u_cond true bC hF;u_reg bC hF;u_op bC hF;u_op bC hF;u_op bC hF;u_conv H.underlying_tPU32 H.room_tU32 (abG (hFl hF)).choose_spec bC hF;refine Goes.stop (λw₅ h₅=>?_);replace hF:=bC hF h₅;clear h₅;refine dc.act rfl (λw₆ h₆=>?_);replace hF:=bC hF h₆;clear h₆;refine dc.step1 rfl ?_;rw[stepG_markAt .read sM rfl rfl (by k_ne) rfl H.f_raceRead (x_raceRead_n L) (x_raceRead_b L) (x_raceRead_x L) (x_raceRead_f L) (ad:=⟨G.Wg,1,none⟩) zem];simp only[goes_go];refine⟨rfl,⟨rfl,rfl,rfl,rfl⟩,λe he=>?_,?_⟩;rw[Array.mem_singleton]at he;subst he;exact .inr ⟨_,rfl,.inl rfl⟩;refine dc.walk (n:=120) ?_;walk_nrm;u_c stepG_region_end bC hF;exact zd7
 ·obtain⟨V,hV⟩:∃V:Int,V=(v:Int)+1:=⟨_,rfl⟩;obtain⟨Z,hZ⟩:∃Z:Int,Z=V*KK:=⟨_,rfl⟩;have eS:IntKind.u64.wrap ((v:Int)*KK+4294967296)=Z:=by rw[IntKind.wrap_u64,hZ,hV];simp only[KK];omega
  rw[show((v+1:Nat):Int)*KK=Z from by rw[hZ,hV];simp];have a1:Z/4294967296=V:=by rw[hZ];simp only[KK];omega
  have b1:bits .and .u64 Z 2147483648=0:=by rw[hZ,hV];have:=st_flag (v+1) 0 oM oM;simpa[KK]using this
  have b2:bits .and .u64 Z 2147483647=0:=by rw[hZ,hV];have:=st_waiters (v+1) 0 oM oM;simpa[KK]using this
  have c1:IntKind.i32.wrap V=V:=by rw[IntKind.wrap_i32];omega
  have hV1:1<V:=oM;have hV2:V<2147483648:=oM;have q1:(V==1)=false:=by simp;omega
  have q2:decide (V=1)=false:=decide_eq_false oM;have q3:decide (V<0)=false:=decide_eq_false oM;have q4:decide (0<V)=true:=decide_eq_true oM;have q5:(V==0)=false:=by simp;omega
  have q6:decide (V=0)=false:=decide_eq_false oM;refine⟨_,(stepG_add_atomic rfl rfl (by k_ne) rfl H.f_addU64 (x_addU64_n L) (x_addU64_b L) (x_addU64_x L) .u64 (x_addU64_f L) rfl rfl hw.cellSt (hw.thaw 0)).trans (by rw[eS];rfl),rfl,?_⟩;replace hF:=hFs (.int .u64 Z) hF zeq;clear hw hZ hV eS;refine dc.walk (n:=120) ?_;walk_nrm;u_op bC hF;u_c stepG_region_end bC hF;u_c stepG_ret' bC hF;u_leave1 H.f_uAdd bC hF;u_op bC hF;u_c stepG_region_end bC hF;u_c stepG_seq bC hF;u_c stepG_seq bC hF;u_reg bC hF;u_op bC hF;u_op bC hF;u_op bC hF;u_op bC hF;u_skip bC hF;u_skip bC hF;u_op bC hF;u_c stepG_region_end bC hF;u_cond false bC hF;u_c stepG_skip bC hF;u_c stepG_seq bC hF;u_reg bC hF;u_op bC hF;u_op bC hF;u_op bC hF;u_op bC hF;u_c stepG_region_end bC hF;u_c stepG_seq bC hF;u_reg bC hF;u_op bC hF;u_op bC hF;u_op bC hF;u_op bC hF;u_c stepG_region_end bC hF;u_c stepG_seq bC hF;u_c stepG_seq bC hF;u_reg bC hF;u_op bC hF;u_op bC hF;u_op bC hF;u_op bC hF;u_op bC hF;u_op bC hF;u_op bC hF;u_op bC hF;u_op bC hF;u_op bC hF;u_c stepG_region_end bC hF;u_cond false bC hF;u_c stepG_skip bC hF;exact zd7
end
section
variable {G:Geo}{P:aF}{L:WgLink}{M Iz IA:cD}{κ:Nat}
theorem eC.walk{p:Ph}(hp:p≠.out){n:Nat}{g:aG}{w:aa}(h:Conc.Goes P false (Rel G M) DC0 (λg w=>eC G P ⟨p,g,w,M,Iz,IA,κ⟩) n g w):eC G P ⟨p,g,w,M,Iz,IA,κ⟩:=
 eC.goes (s:=⟨p,g,w,M,Iz,IA,κ⟩) hp (λ_ _ k=>k) h
theorem ry{w:aa}(h:WgLive G.ty G.Wg w):∃v,w.cell? ⟨G.Wg,0,none⟩=some v:=let⟨_,_,h⟩:=h;⟨_,h.cellSt⟩
theorem QuitsD.more{n d:Nat}{g:aG}(h:QuitsD P n d g):QuitsD P (n+1) d g:=by
 induction n generalizing d g with
 |zero=>exact .inl h
 |succ n ih=>exact h.imp id λ⟨h1,g',es,h2,h3,h4⟩=>⟨h1,g',es,h2,h3,ih h4⟩
theorem QuitsD.up{n d:Nat}{g:aG}(h:QuitsD P n d g):∀k,QuitsD P (n+k) d g
 |0=>h
 |k+1=>Mx.QuitsD.more (Mx.QuitsD.up h k)
theorem U3(H:WgLib P L)(hty:G.ty=L.tWg){c:Frame}{cs:List Frame}{qt:Nat}(hcm:c.mode=.returning)(hT:QuitsD P qt 0 (Conc.G c cs))(U4:∀i,Iz i->IA i)(w:aa)(hF:WgLive G.ty G.Wg w):
 eC G P ⟨.shut,Conc.G ((baseD L.done).at {tmps:=#[pT G.Wg 0]++Array.replicate ((doneFn L).ntmps-1) undef,defers:=[]} [.code (body_done L)]) (c::cs),w,M,Iz,IA,κ⟩:=by
 lib_facts
 refine eC.walk sM (n:=60) ?_;simp only[body_done,doneFn,br];walk_nrm;u_reg ag hF;u_op ag hF;u_in ag hF;refine goes_call rfl rfl (by k_ne) rfl H.f_add (nm_add L) rfl ⟨by u_nil,?_⟩
 walk_nrmf addFn
 u_c stepG_seq ag hF;u_cond true ag hF;u_c stepG_seq ag hF;u_c stepG_seq ag hF;u_reg ag hF;u_op ag hF;u_op ag hF;u_c stepG_region_end ag hF;u_cond true ag hF;u_reg ag hF;u_op ag hF;u_conv H.underlying_tWgP H.room_tWg (ry hF).choose_spec ag hF;refine Goes.stop (λw₁ h₁=>?_);replace hF:=ag hF h₁;clear h₁;refine eC.act rfl (λw₂ h₂=>?_);replace hF:=ag hF h₂;clear h₂;refine .rel rfl U4 (stepG_markAt .releaseMerge sM rfl rfl (by k_ne) rfl H.f_relMerge (x_relMerge_n L) (x_relMerge_b L) (x_relMerge_x L) (x_relMerge_f L) zes) rfl ?_;refine eC.walk sM (n:=60) ?_;walk_nrm;u_c stepG_region_end ag hF;u_c stepG_seq ag hF;u_reg ag hF;refine Goes.stop (λw₁ h₁=>?_);replace hF:=ag hF h₁;clear h₁;refine eC.act rfl (λw₂ h₂=>?_);replace hF:=ag hF h₂;clear h₂;refine .kF rfl (stepG_mark0 .disable sM rfl rfl (by k_ne) rfl H.f_disable (x_disable_n L) (x_disable_b L) (x_disable_x L) (x_disable_f L)) rfl ?_;refine eC.walk sM (n:=80) ?_;walk_nrm;u_c stepG_region_end ag hF;u_reg ag hF;u_defer ag hF;u_c stepG_region_end ag hF;u_c stepG_seq ag hF;u_reg ag hF;u_op ag hF;u_c stepG_region_end ag hF;u_c stepG_seq ag hF;u_c stepG_seq ag hF;u_reg ag hF;u_bub ag hF;u_c stepG_region_end ag hF;u_cond false ag hF;u_c stepG_skip ag hF;u_c stepG_seq ag hF;u_reg ag hF;u_op ag hF;u_op ag hF;u_op ag hF;u_op ag hF;u_op ag hF;u_op ag hF;u_call H.f_uAdd (nm_uAdd L) uAddFn ag hF;u_c stepG_seq ag hF;u_reg ag hF;u_op ag hF;u_c stepG_region_end ag hF;u_c stepG_seq ag hF;u_reg ag hF;u_op ag hF;u_op ag hF;u_op ag hF;u_op ag hF;refine Goes.stop (λw₃ h₃=>?_);replace hF:=ag hF h₃;clear h₃;refine eC.act rfl (λw₄ h₄=>?_);clear h₄ hF;refine .d1 rfl (λv wt hwt hv hw=>?_);simp only[hty]at hw;obtain⟨Z,hZ⟩:∃Z:Int,Z=(v:Int)*KK+(wt:Int):=⟨_,rfl⟩;have eS:IntKind.u64.wrap (((v+1:Nat):Int)*KK+(wt:Int)+18446744069414584320)=Z:=by rw[IntKind.wrap_u64,hZ];simp only[KK];omega
 rw[<-hZ];refine⟨_,(stepG_add_atomic rfl rfl (by k_ne) rfl H.f_addU64 (x_addU64_n L) (x_addU64_b L) (x_addU64_x L) .u64 (x_addU64_f L) rfl rfl hw.cellSt (hw.thaw 0)).trans (by rw[eS];rfl),λhv1=>⟨rfl,?_⟩,λhv1=>?_⟩
 ·obtain⟨rfl,rfl⟩:=hv1;obtain rfl:Z=1:=by rw[hZ];simp
  have hF:WgLive G.ty G.Wg (w₄.setCell (stA G.Wg) (.int .u64 1)):=by rw[hty];exact⟨_,_,hw.setSt _⟩
  clear hw hZ eS hv hwt;refine eC.walk sM (n:=160) ?_;walk_nrm;u_op ag hF;u_c stepG_region_end ag hF;u_c stepG_ret' ag hF;u_leave1 H.f_uAdd ag hF;u_op ag hF;u_c stepG_region_end ag hF;u_c stepG_seq ag hF;u_c stepG_seq ag hF;u_reg ag hF;u_op ag hF;u_op ag hF;u_op ag hF;u_op ag hF;u_skip ag hF;u_skip ag hF;u_op ag hF;u_c stepG_region_end ag hF;u_cond false ag hF;u_c stepG_skip ag hF;u_c stepG_seq ag hF;u_reg ag hF;u_op ag hF;u_op ag hF;u_op ag hF;u_op ag hF;u_c stepG_region_end ag hF;u_c stepG_seq ag hF;u_reg ag hF;u_op ag hF;u_op ag hF;u_op ag hF;u_op ag hF;u_c stepG_region_end ag hF;u_c stepG_seq ag hF;u_c stepG_seq ag hF;u_reg ag hF;u_op ag hF;u_op ag hF;u_op ag hF;u_op ag hF;u_op ag hF;u_skip ag hF;u_skip ag hF;u_skip ag hF;u_skip ag hF;u_op ag hF;u_c stepG_region_end ag hF;u_cond false ag hF;u_c stepG_skip ag hF;u_c stepG_seq ag hF;u_c stepG_seq ag hF;u_reg ag hF;u_op ag hF;u_op ag hF;u_c stepG_region_end ag hF;u_cond false ag hF;u_c stepG_skip ag hF;u_c stepG_seq ag hF;u_c stepG_seq ag hF;u_reg ag hF;u_op ag hF;u_op ag hF;u_op ag hF;u_op ag hF;u_op ag hF;u_op ag hF;u_op ag hF;u_skip ag hF;u_skip ag hF;u_skip ag hF;u_skip ag hF;u_op ag hF;u_c stepG_region_end ag hF;u_cond false ag hF;u_c stepG_skip ag hF;u_c stepG_seq ag hF;u_c stepG_seq ag hF;u_reg ag hF;u_op ag hF;u_op ag hF;u_op ag hF;u_op ag hF;u_op ag hF;u_op ag hF;u_c stepG_region_end ag hF;u_cond false ag hF;u_c stepG_skip ag hF;u_c stepG_seq ag hF;u_c stepG_seq ag hF;u_reg ag hF;u_op ag hF;u_op ag hF;u_op ag hF;u_call H.f_uLoad (nm_uLoad L) uLoadFn ag hF;u_c stepG_seq ag hF;u_reg ag hF;u_op ag hF;u_c stepG_region_end ag hF;u_c stepG_seq ag hF;u_reg ag hF;u_op ag hF;u_op ag hF;u_op ag hF;refine Goes.stop (λw₁ h₁=>?_);replace hF:=ag hF h₁;clear h₁;refine eC.act rfl (λw₂ h₂=>?_);replace hF:=ag hF h₂;clear h₂;refine .d2 rfl (λhw=>?_);simp only[hty]at hw;refine⟨_,stepG_load_atomic (v:=1) rfl rfl (by k_ne) rfl H.f_loadU64 (x_loadU64_n L) (x_loadU64_b L) (x_loadU64_x L) .u64 (x_loadU64_f L) rfl hw.cellSt,rfl,?_⟩;clear hw;refine eC.walk sM (n:=160) ?_;walk_nrm;u_op ag hF;u_c stepG_region_end ag hF;u_c stepG_ret' ag hF;u_leave1 H.f_uLoad ag hF;u_op ag hF;u_op ag hF;u_c stepG_region_end ag hF;u_cond false ag hF;u_c stepG_skip ag hF;u_c stepG_seq ag hF;u_reg ag hF;u_op ag hF;u_op ag hF;u_op ag hF;u_call H.f_uStore (nm_uStore L) uStoreFn ag hF;u_reg ag hF;u_op ag hF;u_op ag hF;u_op ag hF;u_op ag hF;refine Goes.stop (λw₃ h₃=>?_);replace hF:=ag hF h₃;clear h₃;refine eC.act rfl (λw₄ h₄=>?_);clear h₄ hF;refine .d3 rfl (λhw=>?_);simp only[hty]at hw;refine⟨_,stepG_store_atomic rfl rfl (by k_ne) rfl H.f_storeU64 (x_storeU64_n L) (x_storeU64_b L) (x_storeU64_x L) (x_storeU64_f L) rfl rfl hw.cellSt (hw.thaw 0),rfl,?_⟩;have hF:WgLive G.ty G.Wg (w₄.setCell (stA G.Wg) (.int .u64 0)):=by rw[hty];exact⟨_,_,hw.setSt _⟩
  clear hw;refine eC.walk sM (n:=160) ?_;walk_nrm;u_c stepG_region_end ag hF;u_c stepG_end ag hF;u_leave0 H.f_uStore ag hF;u_c stepG_region_end ag hF;u_c stepG_seq ag hF;u_c stepG_seq ag hF;u_reg ag hF;u_op ag hF;u_c stepG_region_end ag hF;u_cond false ag hF;u_c stepG_skip ag hF;u_c stepG_block ag hF;u_c stepG_loop ag hF;u_c stepG_seq ag hF;u_c stepG_seq ag hF;u_reg ag hF;u_op ag hF;u_op ag hF;u_c stepG_region_end ag hF;u_cond true ag hF;u_c stepG_skip ag hF;u_c stepG_seq ag hF;u_c stepG_block ag hF;u_reg ag hF;u_op ag hF;u_op ag hF;u_op ag hF;refine Goes.stop (λw₁ h₁=>?_);clear h₁ hF;refine eC.act rfl (λw₂ h₂=>?_);clear h₂;refine .d4 rfl (mayWake_entry rfl rfl H.f_semrelease (x_semrelease_b L)) (λhw=>?_);simp only[hty]at hw;refine⟨_,(stepG_semrelease (n:=0) rfl rfl (by k_ne) rfl H.f_semrelease (x_semrelease_n L) (x_semrelease_b L) (x_semrelease_x L) (x_semrelease_f L) zeu hw.cellSm (hw.thaw 1)).trans rF,?_⟩;clear hw;refine⟨qt+40,?_⟩;walk_nrm;q_c stepG_region_end;q_c stepG_inBlock;q_reg;(refine QuitsD.value ?_ rfl rfl (by k_ne) (λw=>?_) (λw=>?_) ?_;rotate_left;(go_simp;(try w_num);rfl);(simp[go_sem, *]);walk_nrm);(refine QuitsD.value ?_ rfl rfl (by k_ne) (λw=>?_) (λw=>?_) ?_;rotate_left;(go_simp;(try w_num);rfl);(simp[go_sem, *]);walk_nrm);(refine QuitsD.value ?_ rfl rfl (by k_ne) (λw=>?_) (λw=>?_) ?_;rotate_left;(go_simp;(try w_num);rfl);(simp[go_sem, *]);walk_nrm);q_c stepG_region_end;q_c stepG_inLoop;q_c stepG_seq;q_c stepG_seq;q_reg;(refine QuitsD.value ?_ rfl rfl (by k_ne) (λw=>?_) (λw=>?_) ?_;rotate_left;(go_simp;(try w_num);rfl);(simp[go_sem, *]);walk_nrm);(refine QuitsD.value ?_ rfl rfl (by k_ne) (λw=>?_) (λw=>?_) ?_;rotate_left;(go_simp;(try w_num);rfl);(simp[go_sem, *]);walk_nrm);q_c stepG_region_end;q_cond false;q_exit;q_c stepG_end;exact zeo
 ·have a1:Z/4294967296=(v:Int):=by rw[hZ];simp only[KK];omega
  have a2:0<=Z/\Z<9223372036854775808:=by rw[hZ];simp only[KK];omega
  have b1:bits .and .u64 Z 2147483648=0:=by rw[hZ];have:=st_flag v wt oM oM;simpa[KK]using this
  have b2:bits .and .u64 Z 2147483647=(wt:Int):=by rw[hZ];have:=st_waiters v wt oM oM;simpa[KK]using this
  clear hw eS;refine⟨qt+120,?_⟩;rcases Nat.eq_zero_or_pos v with rfl|hvp<;>(obtain rfl|rfl:wt=0\/wt=1:=oM)
  ·(obtain rfl:Z=0:=by rw[hZ];simp);clear hZ a1 a2 b1 b2;walk_nrm;q_val (.int .u64 0);q_c stepG_region_end;q_c stepG_ret';q_leave1 H.f_uAdd;q_val (.int .u64 0);q_c stepG_region_end;q_c stepG_seq;q_c stepG_seq;q_reg;q_val (.int .u64 0);q_val (.int .u64 0);q_val (.bool false);q_val (.bool false);q_skip;q_skip;q_val (.bool false);q_c stepG_region_end;q_cond false;q_c stepG_skip;q_c stepG_seq;q_reg;q_val (.int .u64 0);q_val (.int .u64 0);q_val (.int .i32 0);q_val (.int .i32 0);q_c stepG_region_end;q_c stepG_seq;q_reg;q_val (.int .u64 0);q_val (.int .u64 0);q_val (.int .u32 0);q_val (.int .u32 0);q_c stepG_region_end;q_c stepG_seq;q_c stepG_seq;q_reg;q_val (.bool true);q_val (.int .i64 (-1));q_val (.bool false);q_val (.bool false);q_val (.bool false);q_skip;q_skip;q_skip;q_skip;q_val (.bool false);q_c stepG_region_end;q_cond false;q_c stepG_skip;q_c stepG_seq;q_c stepG_seq;q_reg;q_val (.int .i32 0);q_val (.bool false);q_c stepG_region_end;q_cond false;q_c stepG_skip;q_c stepG_seq;q_c stepG_seq;q_reg;q_val (.int .u32 0);q_val (.bool false);q_val (.bool false);q_skip;q_skip;q_val (.bool false);q_val (.bool false);q_skip;q_skip;q_skip;q_skip;q_val (.bool false);q_c stepG_region_end;q_cond false;q_c stepG_skip;q_c stepG_seq;q_c stepG_seq;q_reg;q_val (.int .i32 0);q_val (.bool false);q_val (.bool false);q_val (.int .u32 0);q_val (.bool true);q_val (.bool true);q_c stepG_region_end;q_cond true;q_c stepG_ret';exact zeo
  ·exact absurd ⟨rfl,rfl⟩ hv1
  ·clear hZ;replace b2:bits .and .u64 Z 2147483647=0:=b2;walk_nrm;q_vn (.int .u64 Z);q_c stepG_region_end;q_c stepG_ret';q_leave1 H.f_uAdd;q_vn (.int .u64 Z);q_c stepG_region_end;q_c stepG_seq;q_c stepG_seq;q_reg;q_vn (.int .u64 Z);q_vn (.int .u64 0);q_vn (.bool false);q_vn (.bool false);q_skip;q_skip;q_vn (.bool false);q_c stepG_region_end;q_cond false;q_c stepG_skip;q_c stepG_seq;q_reg;q_vn (.int .u64 Z);q_vn (.int .u64 (v:Int));q_vn (.int .i32 (v:Int));q_vn (.int .i32 (v:Int));q_c stepG_region_end;q_c stepG_seq;q_reg;q_vn (.int .u64 Z);q_vn (.int .u64 0);q_vn (.int .u32 0);q_vn (.int .u32 0);q_c stepG_region_end;q_c stepG_seq;q_c stepG_seq;q_reg;q_vn (.bool true);q_vn (.int .i64 (-1));q_vn (.bool false);q_vn (.bool false);q_vn (.bool false);q_skip;q_skip;q_skip;q_skip;q_vn (.bool false);q_c stepG_region_end;q_cond false;q_c stepG_skip;q_c stepG_seq;q_c stepG_seq;q_reg;q_vn (.int .i32 (v:Int));q_vn (.bool false);q_c stepG_region_end;q_cond false;q_c stepG_skip;q_c stepG_seq;q_c stepG_seq;q_reg;q_vn (.int .u32 0);q_vn (.bool false);q_vn (.bool false);q_skip;q_skip;exact zd8
  ·clear hZ;replace b2:bits .and .u64 Z 2147483647=1:=b2;walk_nrm;q_vn (.int .u64 Z);q_c stepG_region_end;q_c stepG_ret';q_leave1 H.f_uAdd;q_vn (.int .u64 Z);q_c stepG_region_end;q_c stepG_seq;q_c stepG_seq;q_reg;q_vn (.int .u64 Z);q_vn (.int .u64 0);q_vn (.bool false);q_vn (.bool false);q_skip;q_skip;q_vn (.bool false);q_c stepG_region_end;q_cond false;q_c stepG_skip;q_c stepG_seq;q_reg;q_vn (.int .u64 Z);q_vn (.int .u64 (v:Int));q_vn (.int .i32 (v:Int));q_vn (.int .i32 (v:Int));q_c stepG_region_end;q_c stepG_seq;q_reg;q_vn (.int .u64 Z);q_vn (.int .u64 1);q_vn (.int .u32 1);q_vn (.int .u32 1);q_c stepG_region_end;q_c stepG_seq;q_c stepG_seq;q_reg;q_vn (.bool true);q_vn (.int .i64 (-1));q_vn (.bool false);q_vn (.bool false);q_vn (.bool false);q_skip;q_skip;q_skip;q_skip;q_vn (.bool false);q_c stepG_region_end;q_cond false;q_c stepG_skip;q_c stepG_seq;q_c stepG_seq;q_reg;q_vn (.int .i32 (v:Int));q_vn (.bool false);q_c stepG_region_end;q_cond false;q_c stepG_skip;q_c stepG_seq;q_c stepG_seq;q_reg;q_vn (.int .u32 1);q_vn (.bool true);q_vn (.bool true);q_vn (.int .i64 (-1));q_vn (.bool false);exact zd8
end
section
variable {G:Geo}{P:aF}{Fin:aG->Prop}{L:WgLink}{b₀:Frame}{a₀:Act}{ops₀:Array Oper}{i₀:Nat}{rest₀:List Nat}{k₀:List Item}{cs:List Frame}
def Rf(P:aF)(g1 g:aG):Prop:=
 ∀(R:aa->aa->Prop)(Stop:aG->aa->Prop)(F:aa->Prop),(∀{w w1},F w->R w w1->F w1)->(∀w,F w->Stop g1 w)->∀w,F w->Conc.Goes P true R DC0 Stop 40 g w
theorem LG(H:WgLib P L)(hty:G.ty=L.tWg)(Nf:∀g,Rf P (Conc.G (b₀.at (a₀.put ((ops₀[i₀]?).bind (·.dst)) (.tuple #[])) (.inRegion ops₀ rest₀::k₀)) cs) g->Fin g):∀(V:Nat)(T:bw)(w:aa),T.size=84->T[0]?=some (pT G.Wg 0)->WgLive G.ty G.Wg w->
 dc G P Fin ⟨.wa V,1,Conc.G ((base L.wait).at ⟨T,[]⟩ [.code (L7 L),.inLoop (L7 L),.inBlock 0]) (b₀.at a₀ (.inRegion ops₀ (i₀::rest₀)::k₀)::cs),w⟩:=by
 intro V
 induction V using Nat.strongRecOn with
 |_ V ih=>
  intro T w hT84 t0 hF
  lib_facts
  obtain⟨v0,v1,v2,v3,v4,v5,v6,v7,v8,v9,v10,v11,v12,v13,v14,v15,v16,v17,v18,v19,v20,v21,v22,v23,v24,v25,v26,v27,v28,v29,v30,v31,v32,v33,v34,v35,v36,v37,v38,v39,v40,v41,v42,v43,v44,v45,v46,v47,v48,v49,v50,v51,v52,v53,v54,v55,v56,v57,v58,v59,v60,v61,v62,v63,v64,v65,v66,v67,v68,v69,v70,v71,v72,v73,v74,v75,v76,v77,v78,v79,v80,v81,v82,v83,rfl⟩:=array84 T hT84;simp only[ba,bf,bq]at t0;subst t0;refine dc.walk (n:=30) ?_;simp only[L7,body_wait,waitFn,br];u_c stepG_block ag hF;u_c stepG_seq ag hF;u_reg ag hF;u_op ag hF;u_op ag hF;u_op ag hF;u_call H.f_uLoad (nm_uLoad L) uLoadFn ag hF;u_c stepG_seq ag hF;u_reg ag hF;u_op ag hF;u_c stepG_region_end ag hF;u_c stepG_seq ag hF;u_reg ag hF;u_op ag hF;u_op ag hF;u_op ag hF;refine Goes.stop (λw₁ h₁=>?_);replace hF:=ag hF h₁;clear h₁;refine dc.act rfl (λw₂ h₂=>?_);replace hF:=ag hF h₂;clear h₂;refine .w1 V rfl (λv hvV hv hw=>?_);simp only[hty]at hw;rcases Nat.eq_zero_or_pos v with rfl|hvp
  ·(replace hw:WgAt L.tWg G.Wg w₂ 0 0:=by simpa using hw);refine⟨_,stepG_load_atomic (v:=0) rfl rfl (by k_ne) rfl H.f_loadU64 (x_loadU64_n L) (x_loadU64_b L) (x_loadU64_x L) .u64 (x_loadU64_f L) rfl hw.cellSt,rfl,λ_=>?_,λh=>absurd rfl h⟩;clear hw ih;refine dc.walk (n:=90) ?_;walk_nrm;u_op ag hF;u_c stepG_region_end ag hF;u_c stepG_ret' ag hF;u_leave1 H.f_uLoad ag hF;u_op ag hF;u_c stepG_region_end ag hF;u_c stepG_seq ag hF;u_reg ag hF;u_op ag hF;u_op ag hF;u_op ag hF;u_op ag hF;u_c stepG_region_end ag hF;u_c stepG_seq ag hF;u_reg ag hF;u_op ag hF;u_op ag hF;u_op ag hF;u_op ag hF;u_c stepG_region_end ag hF;u_c stepG_seq ag hF;u_c stepG_seq ag hF;u_reg ag hF;u_op ag hF;u_op ag hF;u_c stepG_region_end ag hF;u_cond true ag hF;u_c stepG_seq ag hF;u_cond true ag hF;u_c stepG_seq ag hF;u_reg ag hF;refine Goes.stop (λw₁ h₁=>?_);replace hF:=ag hF h₁;clear h₁;refine dc.act rfl (λw₂ h₂=>?_);replace hF:=ag hF h₂;clear h₂;refine .Lq (stepG_mark0 .enable sM rfl rfl (by k_ne) rfl H.f_enable (x_enable_n L) (x_enable_b L) (x_enable_x L) (x_enable_f L)) rfl ?_;refine dc.walk (n:=90) ?_;walk_nrm;u_c stepG_region_end ag hF;u_reg ag hF;u_op ag hF;u_conv H.underlying_tWgP H.room_tWg (ry hF).choose_spec ag hF;refine Goes.stop (λw₁ h₁=>?_);replace hF:=ag hF h₁;clear h₁;refine dc.act rfl (λw₂ h₂=>?_);replace hF:=ag hF h₂;clear h₂;refine .acq rfl rfl (stepG_markAt .acquire sM rfl rfl (by k_ne) rfl H.f_acquire (x_acquire_n L) (x_acquire_b L) (x_acquire_x L) (x_acquire_f L) zes) rfl (Nf _ ?_);clear hF;intro R Stop F hrel hS w hF;walk_nrm;u_c stepG_region_end hrel hF;u_c stepG_seq hrel hF;u_c stepG_seq hrel hF;u_reg hrel hF;u_op hrel hF;u_op hrel hF;u_op hrel hF;u_op hrel hF;u_op hrel hF;u_op hrel hF;u_op hrel hF;u_op hrel hF;u_skip hrel hF;u_skip hrel hF;exact zea
  ·obtain⟨S,hS⟩:∃S:Int,(v:Int)*KK=S:=⟨_,rfl⟩;(have a1:S/4294967296=(v:Int):=by rw[<-hS];simp only[KK];omega);(have b1:bits .and .u64 S 2147483648=0:=by rw[<-hS];have:=st_flag v 0 oM oM;simpa[KK]using this);(have b2:bits .and .u64 S 2147483647=0:=by rw[<-hS];have:=st_waiters v 0 oM oM;simpa[KK]using this);(have c1:IntKind.i32.wrap (v:Int)=(v:Int):=by rw[IntKind.wrap_i32];omega);(have w1:IntKind.u64.wrap (S+1)=S+1:=by rw[IntKind.wrap_u64,<-hS];simp only[KK];omega);have q3:decide ((v:Int)<0)=false:=decide_eq_false oM;have q4:decide (0<(v:Int))=true:=decide_eq_true oM;(have q5:((v:Int)==0)=false:=by simp;omega);have q6:decide ((v:Int)=0)=false:=decide_eq_false oM;rw[hS]at hw;refine⟨_,stepG_load_atomic (v:=S) rfl rfl (by k_ne) rfl H.f_loadU64 (x_loadU64_n L) (x_loadU64_b L) (x_loadU64_x L) .u64 (x_loadU64_f L) rfl hw.cellSt,rfl,λh0=>absurd h0 oM,λ_=>?_⟩;clear hw;refine dc.walk (n:=90) ?_;walk_nrm;u_op ag hF;u_c stepG_region_end ag hF;u_c stepG_ret' ag hF;u_leave1 H.f_uLoad ag hF;u_op ag hF;u_c stepG_region_end ag hF;u_c stepG_seq ag hF;u_reg ag hF;u_op ag hF;u_op ag hF;u_op ag hF;u_op ag hF;u_c stepG_region_end ag hF;u_c stepG_seq ag hF;u_reg ag hF;u_op ag hF;u_op ag hF;u_op ag hF;u_op ag hF;u_c stepG_region_end ag hF;u_c stepG_seq ag hF;u_c stepG_seq ag hF;u_reg ag hF;u_op ag hF;u_op ag hF;u_c stepG_region_end ag hF;u_cnd false ag hF;u_c stepG_skip ag hF;u_c stepG_seq ag hF;u_reg ag hF;u_op ag hF;u_op ag hF;u_op ag hF;u_op ag hF;u_op ag hF;u_op ag hF;u_call H.f_uCas (nm_uCas L) uCasFn ag hF;u_c stepG_seq ag hF;u_reg ag hF;u_op ag hF;u_c stepG_region_end ag hF;u_c stepG_seq ag hF;u_reg ag hF;u_op ag hF;u_op ag hF;u_op ag hF;u_op ag hF;u_op ag hF;refine Goes.stop (λw₁ h₁=>?_);replace hF:=ag hF h₁;clear h₁;refine dc.act rfl (λw₂ h₂=>?_);replace hF:=ag hF h₂;clear h₂;refine .w2 v rfl (λv' hv1 hv' hw=>⟨λe=>?_,λe=>?_⟩)
   ·subst e;simp only[hty]at hw;rw[hS]at hw⊢;refine⟨_,(stepG_cas_hit (v:=S) (n:=S+1) rfl rfl (by k_ne) rfl H.f_casU64 (x_casU64_n L) (x_casU64_b L) (x_casU64_x L) .u64 (x_casU64_f L) rfl rfl rfl hw.cellSt (hw.thaw 0)).trans rF,rfl,?_⟩;(replace hF:WgLive G.ty G.Wg (w₂.setCell (stA G.Wg) (.int .u64 (S+1))):=zeq);clear hw ih;refine dc.walk (n:=90) ?_;walk_nrm;u_op ag hF;u_c stepG_region_end ag hF;u_c stepG_ret' ag hF;u_leave1 H.f_uCas ag hF;u_c stepG_region_end ag hF;u_cond true ag hF;u_c stepG_seq ag hF;u_c stepG_seq ag hF;u_reg ag hF;u_op ag hF;u_op ag hF;u_op ag hF;u_op ag hF;u_c stepG_region_end ag hF;u_cond true ag hF;u_reg ag hF;u_op ag hF;u_op ag hF;u_op ag hF;u_conv H.underlying_tPU32 H.room_tU32 (abG hF).choose_spec ag hF;refine Goes.stop (λw₁ h₁=>?_);replace hF:=ag hF h₁;clear h₁;refine dc.act rfl (λw₂ h₂=>?_);replace hF:=ag hF h₂;clear h₂;refine dc.step1 rfl ?_;rw[stepG_markAt .write sM rfl rfl (by k_ne) rfl H.f_raceWrite (x_raceWrite_n L) (x_raceWrite_b L) (x_raceWrite_x L) (x_raceWrite_f L) (ad:=⟨G.Wg,1,none⟩) (by simp[Act.eval]<;>rfl)];simp only[goes_go];refine⟨rfl,⟨rfl,rfl,rfl,rfl⟩,λex hex=>?_,?_⟩;rw[Array.mem_singleton]at hex;subst hex;exact .inr ⟨⟨G.Wg,1,none⟩,rfl,.inr rfl⟩;refine dc.walk (n:=90) ?_;walk_nrm;u_c stepG_region_end ag hF;u_c stepG_seq ag hF;u_reg ag hF;u_op ag hF;u_c stepG_region_end ag hF;u_c stepG_seq ag hF;u_c stepG_seq ag hF;u_reg ag hF;u_op ag hF;u_op ag hF;u_op ag hF;u_op ag hF;u_skip ag hF;u_op ag hF;u_c stepG_region_end ag hF;u_cond false ag hF;u_c stepG_skip ag hF;u_c stepG_seq ag hF;u_reg ag hF;u_op ag hF;u_op ag hF;u_op ag hF;u_op ag hF;refine Goes.stop (λw₃ h₃=>?_);replace hF:=ag hF h₃;clear h₃;refine dc.sema rfl (λw₄ h₄=>?_);replace hF:=ag hF h₄;clear h₄;refine⟨rfl,rfl,λ⟨st,hw⟩=>stepG_semacquire_wait rfl rfl rfl H.f_semacquire (x_semacquire_n L) (x_semacquire_b L) (x_semacquire_x L) (x_semacquire_f L) zeu (hty▸hw).cellSm,λhf=>?_⟩;simp only[hty]at hf;refine⟨_,(stepG_semacquire (n:=1) rfl rfl (by k_ne) rfl H.f_semacquire (x_semacquire_n L) (x_semacquire_b L) (x_semacquire_x L) (x_semacquire_f L) zeu hf.cellSm (by k_ne) (hf.thaw 1)).trans rF,rfl,?_⟩;(replace hF:WgLive G.ty G.Wg (w₄.setCell (smA G.Wg) (.int .u32 0)):=by rw[hty];exact⟨_,_,hf.setSm 0⟩);clear hf;refine dc.walk (n:=90) ?_;walk_nrm;u_c stepG_region_end ag hF;u_c stepG_seq ag hF;u_reg ag hF;u_op ag hF;u_op ag hF;u_op ag hF;u_call H.f_uLoad (nm_uLoad L) uLoadFn ag hF;u_c stepG_seq ag hF;u_reg ag hF;u_op ag hF;u_c stepG_region_end ag hF;u_c stepG_seq ag hF;u_reg ag hF;u_op ag hF;u_op ag hF;u_op ag hF;refine Goes.stop (λw₁ h₁=>?_);replace hF:=ag hF h₁;clear h₁;refine dc.act rfl (λw₂ h₂=>?_);replace hF:=ag hF h₂;clear h₂;refine .w4 rfl (λhw=>?_);simp only[hty]at hw;refine⟨_,stepG_load_atomic (v:=0) rfl rfl (by k_ne) rfl H.f_loadU64 (x_loadU64_n L) (x_loadU64_b L) (x_loadU64_x L) .u64 (x_loadU64_f L) rfl hw.cellSt,rfl,?_⟩;clear hw;refine dc.walk (n:=90) ?_;walk_nrm;u_op ag hF;u_c stepG_region_end ag hF;u_c stepG_ret' ag hF;u_leave1 H.f_uLoad ag hF;u_op ag hF;u_op ag hF;u_c stepG_region_end ag hF;u_c stepG_seq ag hF;u_cond true ag hF;u_c stepG_seq ag hF;u_reg ag hF;refine Goes.stop (λw₁ h₁=>?_);replace hF:=ag hF h₁;clear h₁;refine dc.act rfl (λw₂ h₂=>?_);replace hF:=ag hF h₂;clear h₂;refine .Lq (stepG_mark0 .enable sM rfl rfl (by k_ne) rfl H.f_enable (x_enable_n L) (x_enable_b L) (x_enable_x L) (x_enable_f L)) rfl ?_;refine dc.walk (n:=90) ?_;walk_nrm;u_c stepG_region_end ag hF;u_reg ag hF;u_op ag hF;u_conv H.underlying_tWgP H.room_tWg (ry hF).choose_spec ag hF;refine Goes.stop (λw₁ h₁=>?_);replace hF:=ag hF h₁;clear h₁;refine dc.act rfl (λw₂ h₂=>?_);replace hF:=ag hF h₂;clear h₂;refine .acq rfl rfl (stepG_markAt .acquire sM rfl rfl (by k_ne) rfl H.f_acquire (x_acquire_n L) (x_acquire_b L) (x_acquire_x L) (x_acquire_f L) zes) rfl (Nf _ ?_);clear hF;intro R Stop F hrel hS w hF;walk_nrm;u_c stepG_region_end hrel hF;u_c stepG_seq hrel hF;u_c stepG_seq hrel hF;u_reg hrel hF;exact zea
   ·simp only[hty]at hw;refine⟨_,stepG_cas_miss (v:=(v':Int)*KK) (old:=S) (n:=S+1) rfl rfl (by k_ne) rfl H.f_casU64 (x_casU64_n L) (x_casU64_b L) (x_casU64_x L) .u64 (x_casU64_f L) rfl rfl rfl hw.cellSt (hw.thaw 0) (by rw[<-hS];simp only[KK];omega),rfl,?_⟩;clear hw;refine dc.walk (n:=90) ?_;walk_nrm;u_op ag hF;u_c stepG_region_end ag hF;u_c stepG_ret' ag hF;u_leave1 H.f_uCas ag hF;u_c stepG_region_end ag hF;u_cond false ag hF;u_c stepG_skip ag hF;u_c stepG_inBlock ag hF;u_c stepG_inLoop ag hF;refine Goes.stop (λw₃ h₃=>?_);exact ih v' oM _ _ sM sM (ag hF h₃)
theorem U5(H:WgLib P L)(hty:G.ty=L.tWg)(Nf:∀g,Rf P (Conc.G (b₀.at (a₀.put ((ops₀[i₀]?).bind (·.dst)) (.tuple #[])) (.inRegion ops₀ rest₀::k₀)) cs) g->Fin g)(V:Nat)(w:aa)(hF:WgLive G.ty G.Wg w):
 dc G P Fin ⟨.wa V,0,Conc.G ((base L.wait).at {tmps:=#[pT G.Wg 0]++Array.replicate ((waitFn L).ntmps-1) undef,defers:=[]} [.code (body_wait L)]) (b₀.at a₀ (.inRegion ops₀ (i₀::rest₀)::k₀)::cs),w⟩:=by
 lib_facts
 refine dc.walk (n:=30) ?_;have hh:=LG (b₀:=b₀) (a₀:=a₀) (ops₀:=ops₀) (i₀:=i₀) (rest₀:=rest₀) (k₀:=k₀) (cs:=cs) H hty Nf V;simp only[L7,body_wait,waitFn,br]at hh⊢;walk_nrm;u_c stepG_seq ag hF;u_cond true ag hF;u_reg ag hF;refine Goes.stop (λw₁ h₁=>?_);replace hF:=ag hF h₁;clear h₁;refine dc.act rfl (λw₂ h₂=>?_);replace hF:=ag hF h₂;clear h₂;refine .kF (stepG_mark0 .disable sM rfl rfl (by k_ne) rfl H.f_disable (x_disable_n L) (x_disable_b L) (x_disable_x L) (x_disable_f L)) rfl ?_;refine dc.walk (n:=90) ?_;walk_nrm;u_c stepG_region_end ag hF;u_c stepG_block ag hF;u_c stepG_loop ag hF;refine Goes.stop (λw₃ h₃=>?_);exact hh _ _ sM sM (ag hF h₃)
end
end Go.Mx
namespace Go.Proofs
abbrev Tryz.link:Go.Conc.Lib.WgLink:={add:=10,done:=12,wait:=13,relMerge:=21,disable:=22,enable:=23,inBubble:=24,associate:=25,fatal:=26,uOr:=27,uAdd:=28,raceRead:=29,uLoad:=30,uStore:=31,disassociate:=32,semrelease:=33,acquire:=34,isAssociated:=35,uCas:=36,raceWrite:=37,semacquire:=38,orU64:=54,addU64:=55,loadU64:=56,storeU64:=57,casU64:=58,tWgP:=68,tUP:=70,tAssoc:=71,tWg:=45,tAU:=42,tU64:=40,tUint:=47,tU32:=43,tPU32:=75,tPAU:=107,tPU64:=109,tNoCopy:=37,tANoCopy:=38,tAlign64:=39}
theorem Tryz.LH:Go.Conc.Lib.WgLib prog Tryz.link:=
 ⟨func10,func12,func13,func21,func22,func23,func24,func25,func26,func27,func28,func29,func30,func31,func32,func33,func34,func35,func36,func37,func38,func54,func55,func56,func57,func58,underlying68,Tryz.runUnderlying68,Tryz.sizeOf68,Tryz.isAgg68,Tryz.zeroValue68,underlying70,Tryz.runUnderlying70,Tryz.sizeOf70,Tryz.isAgg70,Tryz.zeroValue70,underlying71,Tryz.runUnderlying71,Tryz.sizeOf71,Tryz.isAgg71,Tryz.zeroValue71,underlying45,Tryz.runUnderlying45,Tryz.sizeOf45,Tryz.isAgg45,Tryz.zeroValue45,underlying42,Tryz.runUnderlying42,Tryz.sizeOf42,Tryz.isAgg42,Tryz.zeroValue42,underlying40,Tryz.runUnderlying40,Tryz.sizeOf40,Tryz.isAgg40,Tryz.zeroValue40,underlying47,Tryz.runUnderlying47,Tryz.sizeOf47,Tryz.isAgg47,Tryz.zeroValue47,underlying43,Tryz.runUnderlying43,Tryz.sizeOf43,Tryz.isAgg43,Tryz.zeroValue43,underlying75,Tryz.runUnderlying75,Tryz.sizeOf75,Tryz.isAgg75,Tryz.zeroValue75,underlying107,Tryz.runUnderlying107,Tryz.sizeOf107,Tryz.isAgg107,Tryz.zeroValue107,underlying109,Tryz.runUnderlying109,Tryz.sizeOf109,Tryz.isAgg109,Tryz.zeroValue109,underlying0,Tryz.runUnderlying0,Tryz.sizeOf0,Tryz.isAgg0,Tryz.zeroValue0,underlying3,Tryz.runUnderlying3,Tryz.sizeOf3,Tryz.isAgg3,Tryz.zeroValue3,underlying4,Tryz.runUnderlying4,Tryz.sizeOf4,Tryz.isAgg4,Tryz.zeroValue4,underlying9,Tryz.runUnderlying9,Tryz.sizeOf9,Tryz.isAgg9,Tryz.zeroValue9,underlying20,Tryz.runUnderlying20,Tryz.sizeOf20,Tryz.isAgg20,Tryz.zeroValue20,underlying21,Tryz.runUnderlying21,Tryz.sizeOf21,Tryz.isAgg21,Tryz.zeroValue21,kR,kR⟩
end Go.Proofs
namespace Go.Mx
open Go Go.Conc Go.Conc.Lib Go.ConcN.Gen Go.ConcR.Gen Go.Pr Go.Proofs Go.Proofs.Tryz Go.RowKit
open Go.ConcN (WgLive)
open Go.ConcR (DC0 KK WgAt mk rd smA stA wr)
structure Dat where
 bn:Nat
 bt:Nat
 bo:Nat
 ta:Option Addr
 tc:Nat
 txt:Nat->ay
 ρ:Rn
 wL:aa
structure MK(G:Geo)(D:Dat)(w:aa):Prop where
 nx:w.cell? ⟨D.bn,0,none⟩=some (.chan (some G.Ch))
 tx:w.cell? ⟨D.bt,0,none⟩=some (.slice D.ta G.N D.tc)
 ot:w.cell? ⟨D.bo,0,none⟩=some (.slice (some ⟨G.O,0,none⟩) G.N G.N)
 el:∀i,i<G.N->∃a,D.ta=some a/\G.base a.block/\w.cell? (a.add i)=some (.string (D.txt i))
 live:WgLive G.ty G.Wg w
 row:fA G w
 wr:WR prog D.ρ D.wL w
 sz:∀b,G.base b->b<w.heap.size
structure kW(G:Geo)(D:Dat):Prop where
 bn:G.base D.bn
 bt:G.base D.bt
 bo:G.base D.bo
 low:∀b,D.ρ.K b\/D.ρ.T b->G.base b
 r:∀x y,¬D.ρ.r x y
 n:G.N<=4611686018427387904
theorem nL{G:Geo}{M:cD}{w w1:aa}(r:Rel G M w w1){a:Addr}(h:G.base a.block):w1.cell? a=w.cell? a:=by unfold World.cell?;rw[r.fix a.block (.inl h)]
theorem MK.rely{G:Geo}{D:Dat}{M:cD}{w w1:aa}(ok:kW G D)(h:MK G D w)(r:Rel G M w w1):MK G D w1 where
 nx:=(nL r ok.bn).trans h.nx
 tx:=(nL r ok.bt).trans h.tx
 ot:=(nL r ok.bo).trans h.ot
 el i hi:=by
  obtain⟨a,h1,h2,h3⟩:=h.el i hi
  exact⟨a,h1,h2,(nL r (by rw[Pr.add_block];exact h2)).trans h3⟩
 live:=r.live h.live
 row:=r.row h.row
 wr:=ru h.wr (λb hb=>r.fix b (by
  rcases hb with hb|hb|⟨x,hb⟩
  ·exact .inl (ok.low b (.inl hb))
  ·exact .inl (ok.low b (.inr hb))
  ·exact absurd hb (ok.r x b))) r.os r.size
 sz b hb:=aT (h.sz b hb) r.size
theorem MK.sep{G:Geo}{D:Dat}{w:aa}(h:MK G D w):Sep G (λ_=>False) w:=by refine⟨λb hb=>hb.elim,h.sz,?_,?_⟩;obtain⟨st,sm,h⟩:=h.live;exact World.block_lt_of_cell? w _ h.cellSt;obtain⟨cs,h1,_⟩:=h.row;exact(az.1 h1).1
noncomputable def FH:Code:=Tryz.f11.body.getD .skip
noncomputable def bot:Frame:={(default:Frame)with fn:=prog.funcs.size,defers:=[],mode:=.panicking [goexitEntry]}
def call11(G:Geo)(D:Dat):Deferred:={target:=.fn (.func 11) #[pT G.Wg 0,pT D.bn 0,pT D.bt 0,pT D.bo 0],args:=#[]}
theorem LI(G:Geo)(D:Dat)(w:aa):stepG prog false (born prog (call11 G D)) w=
 .go (Conc.G ((baseD 11).at ⟨#[pT G.Wg 0,pT D.bn 0,pT D.bt 0,pT D.bo 0]++Array.replicate 13 undef,[]⟩ [.code FH]) [bot]) w #[]:=by
 simp[born,call11,stepG,unwind,callDeferred,invoke,callFunc,func11,Tryz.f11,seen,GStep.after,Conc.G,Frame.enter,Frame.at,baseD,bot,FH]
theorem LJ(T:bw):QuitsD prog 2 0 (Conc.G {(baseD 11).at ⟨T,[]⟩ []with mode:=.returning} [bot]):=by refine QuitsD.ctl (g':=Conc.G bot []) rfl (λw=>?_) ?_;simp[Conc.G,stepG,unwind,doReturn,results,Frame.at,baseD,bot,func11,Tryz.f11,seen,GStep.after,goexitEntry];refine QuitsD.ctl (g':={Conc.G bot []with status:=.finished}) rfl (λw=>?_) ⟨rfl,rfl⟩;simp[Conc.G,stepG,unwind,bot,goexitEntry,Frame.catches];rfl
section
variable {G:Geo}{D:Dat}{H X M:cD}{k:Nat}
theorem abH(M:cD)(w:aa):abC M w w=M:=by funext b;exact propext ⟨λh=>h.elim id λ⟨h1,h2⟩=>oM,.inl⟩
theorem eC.read{P:aF}{p:Ph}{g:aG}{w:aa}(hp:p=.run\/p=.shut)(hs:g.status=.running)(h:∀w1,Rel G M w w1->(stepG P false g w1).goes λg' w' es=>w'=w1/\g'.status=.running/\(∀e∈es,∃a:Addr,e=⟨.cell a,false,false⟩/\G.base a.block)/\eC G P ⟨p,g',w1,M,H,X,k⟩):eC G P ⟨p,g,w,M,H,X,k⟩:=by
 refine eC.act hs λw1 hr=>?_;have h:=h w1 hr;cases e:stepG P false g w1 with
 |go g' w' es=>rw[e]at h;obtain⟨rfl,h2,h3,h4⟩:=h;refine .quiet hp e h2 (Gu.refl ..) (λe he=>?_) (by rw[abH];exact h4);obtain⟨a,rfl,ha⟩:=h3 e he;refine⟨λm hm=>zer,λx hx _=>?_⟩;exact zed
 |_=>rw[e]at h;exact h.elim
end
theorem IB{P:aF}{main:Bool}{b:Frame}{a:Act}{k:List Item}{cs:List Frame}{w:aa}{id:Nat}{ops:Array Oper}:
 stepG P main (Conc.G (b.at a (.code (.region id ops true)::k)) cs) w=
  .go (Conc.G (b.at a (.inRegion ops (Region.schedule (P.follows .mixedOrders) ops (w.tape w.drawn (.order b.fn id)))::k)) cs) {w with drawn:=w.drawn+1} #[]:=by
 simp[Conc.G,stepG,stepG.exec,Frame.at,choose,Sem.run,Question.forced,Question.cut]
abbrev lin(ops:Array Oper)(n t:Nat)(l:Array Bool):List Nat:=Region.linearise.go .any ops n t l []
theorem Ol(ops:Array Oper)(n t:Nat)(l:Array Bool):(Region.ready .any ops l=[]/\lin ops (n+1) t l=[])\/∃i t',i∈Region.ready .any ops l/\lin ops (n+1) t l=i::lin ops n t' (l.setIfInBounds i true):=by
 have e:lin ops (n+1) t l=match(Region.ready .any ops l)[t %(Region.ready .any ops l).length]? with
  |some i=>Region.linearise.go .any ops n (t/(Region.ready .any ops l).length) (l.setIfInBounds i true) [i]
  |none=>[].reverse:=rfl
 cases hi:(Region.ready .any ops l)[t %(Region.ready .any ops l).length]? with
 |none=>
  rw[hi]at e;refine .inl ⟨?_,e⟩;cases hr:Region.ready .any ops l with
  |nil=>rfl
  |cons x xs=>rw[hr]at hi;have hlt:t %(x::xs).length<(x::xs).length:=Nat.mod_lt _ sM;simp at hi;simp at hlt;omega
 |some i=>rw[hi]at e;refine .inr ⟨i,t/(Region.ready .any ops l).length,aR hi,?_⟩;exact e.trans (linearise_go_acc .any ops n _ _ [i])
noncomputable def kr:Array Oper:=match Tryz.f11.body with
 |some (.seq _ (.seq _ (.block _ (.loop (.seq _ (.seq _ (.block _ (.seq _ (.region _ ops _)))))))))=>ops
 |_=>#[]
def ib(b0 b1 b2 b3 b4 b5 b6 b7 b8:Bool):Nat->Bool
 |0=>!b0|1=>!b1|2=>!b2|3=>!b3|4=>!b4&&(b2&&b3)|5=>!b5&&b4|6=>!b6&&b5|7=>!b7&&(b0&&b1)|8=>!b8&&(b6&&b7)|_=>false
noncomputable def okR(b0 b1 b2 b3 b4 b5 b6 b7 b8:Bool):Bool:=match Region.ready .any kr #[b0,b1,b2,b3,b4,b5,b6,b7,b8]with
 |[]=>b0&&b1&&b2&&b3&&b4&&b5&&b6&&b7&&b8
 |r=>r.all (ib b0 b1 b2 b3 b4 b5 b6 b7 b8)
theorem Rg:∀b0 b1 b2 b3 b4 b5 b6 b7 b8,okR b0 b1 b2 b3 b4 b5 b6 b7 b8=true:=by decide+kernel
def cntF(b0 b1 b2 b3 b4 b5 b6 b7 b8:Bool):Nat:=(!b0).toNat+(!b1).toNat+(!b2).toNat+(!b3).toNat+(!b4).toNat+(!b5).toNat+(!b6).toNat+(!b7).toNat+(!b8).toNat
section
variable {P:aF}{main:Bool}{b:Frame}{a:Act}{kk:List Item}{cs:List Frame}{w:aa}{ops:Array Oper}{i:Nat}{rest:List Nat}{o:Oper}
theorem mS{f:FuncId}{fn:Func}{c:Code}{args:Array Operand}{ats:Array aw}
 (ho:ops[i]?=some o)(hw:Region.wanted o (yielded ops a.tmps)=true)(hk:b.kind≠.early)(hop:o.op=.call {callee:=.value (.func f),args,argTypes:=ats})
 (hf:P.funcs[f]?=some fn)(hname:(fn.name== "runtime.NumGoroutine")=false)(hb:fn.body=some c){xs:bw}(hx:args.map a.eval=xs):
 stepG P main (Conc.G (b.at a (.inRegion ops (i::rest)::kk)) cs) w=.go (Conc.G (Frame.enter P f xs .normal) (b.at a (.inRegion ops (i::rest)::kk)::cs)) w #[]:=by
 have hb':fn.body.isNone=false:=by rw[hb];rfl
 subst hx;rw[stepG_enter ho hw hk (run_call_body hop hf hname hb')];have:listed P b.fn a o w= #[]:=by unfold listed;rw[events_call_body hop hf hname hb'];exact seen_none P _
 rw[this]
theorem CU{x y:Operand}(ho:ops[i]?=some o)(hw:Region.wanted o (yielded ops a.tmps)=true)(hk:b.kind≠.early)(hop:o.op=.store 9 x y)
 {ad:Addr}{v:ay}{u:ae}(hx:a.eval x=.pointer (some ad))(hy:a.eval y=.string v)(hc:w.cell? ad=some u)(hz:w.frozen? ad=false)(hq:(prog.funcs[b.fn]?).any (·.norace)=false):
 stepG prog main (Conc.G (b.at a (.inRegion ops (i::rest)::kk)) cs) w=.go (Conc.G (b.at (a.put o.dst undef) (.inRegion ops rest::kk)) cs) (w.setCell ad (.string v)) #[⟨.cell ad,true,false⟩]:=by
 have hr:(execOp a.eval o).run prog w=.ok .skip (w.setCell ad (.string v)):=by unfold execOp;simp only[hop,hx,hy];simp[go_sem,stored,hc,hz]
 have he:(execOp a.eval o).events prog w #[]= #[⟨.cell ad,true,false⟩]:=by unfold execOp;simp only[hop,hx,hy];have h9:=events_store prog w #[] ad (.string v) .plain rfl;simp[go_sem,h9,hc,hz]
 rw[stepG_none ho hw hk hr];unfold listed;rw[he,seen_eq hq sM]
end
theorem U6:(prog.funcs[(baseD 11).fn]?).any (·.norace)=false:=kR
theorem nm8:(Tryz.f8.name== "runtime.NumGoroutine")=false:=kR
theorem Om{G:Geo}{w:aa}(h:fA G w){i:Nat}(hi:i<G.N):∃u,w.cell? (dE G i)=some u/\w.frozen? (dE G i)=false:=by obtain⟨cs,h1,h2⟩:=h;exact⟨cs[i]'oM,by simp[World.cell?,dE,h1,h2,hi],by simp[World.frozen?,dE,h1]⟩
theorem bU{G:Geo}{D:Dat}{M:cD}{w w1:aa}(ok:kW G D)(h:Sep G M w/\MK G D w)(r:Rel G M w w1):Sep G M w1/\MK G D w1:=⟨h.1.rely r.size,h.2.rely ok r⟩
theorem MK.quiet{G:Geo}{D:Dat}{w w1:aa}(ok:kW G D)(h:MK G D w)(r:Rel G (λ_=>False) w w1):MK G D w1:=h.rely ok r
theorem MK.store{G:Geo}{D:Dat}{w:aa}(ok:kW G D)(hO:¬G.base G.O)(hWO:G.Wg≠G.O)(h:MK G D w){i:Nat}(_:i<G.N)(v:ae):MK G D (w.setCell (dE G i) v):=by
 have hr:Rel G (λ_=>False) w (w.setCell (dE G i) v):=by have hA:=aside_setCell w (dE G i) v;refine⟨λb hb=>hA.block b (λe=>?_),λ⟨st,sm,hl⟩=>⟨st,sm,hl.of_block (hA.block G.Wg hWO)⟩,λ⟨cs,h1,h2⟩=>?_,hA.os,hA.tape,hA.output,Nat.le_of_eq hA.size.symm⟩;subst e;exact hb.elim hO id;refine⟨cs.setIfInBounds i v,?_,by simpa using h2⟩;show(w.setCell ⟨G.O,i,none⟩ v).heap[G.O]?=_;rw[setCell_eq_setRow w G.O i cs _ (0,0) _ h1,setRow_heap w G.O _ _ _ _ h1]
 exact h.quiet ok hr
section
variable {G:Geo}{D:Dat}{H X:cD}{κ ii:Nat}
theorem aan(ok:kW G D){Sx:Nat->Nat->Bool}(E:Env prog D.ρ Sx)(hok:D.ρ.ok 8)(hsp:∀f,¬D.ρ.sp f)(ans:Nat->ay)(Be:∀i,G.ans i=.string (ans i))
 (hS:∀i,i<G.N->∀T,Calls prog 8 #[.string (D.txt i)] (on D.wL T) λe _=>∃v,e=.returned v/\v=.string (ans i))(gO:¬G.base G.O)(gW:G.Wg≠G.O)(hi:ii<G.N)(hH:H ii){K:List Item}{ds:List Deferred}
 (hE:∀(v6 v7 v8 v9 v10 v11 v12 v13 v14 v15 v16:ae)(M:cD)(w:aa),Sep G M w/\MK G D w->eC G prog ⟨.run,Conc.G ((baseD 11).at ⟨#[pT G.Wg 0,pT D.bn 0,pT D.bt 0,pT D.bo 0,.int .i64 ii,.chan (some G.Ch),v6,v7,v8,v9,v10,v11,v12,v13,v14,v15,v16],ds⟩ (.inRegion kr []::K)) [bot],w,M,H,λj=>X j\/j=ii,κ⟩):
 ∀(n t:Nat)(b0 b1 b2 b3 b4 b5 b6 b7 b8:Bool)(v6 v7 v8 v9 v10 v11 v12 v13 v14 v15 v16:ae)(X' M:cD)(w:aa),cntF b0 b1 b2 b3 b4 b5 b6 b7 b8<=n->
  (b0=true->v9=.slice (some ⟨G.O,0,none⟩) G.N G.N)->(b1=true->v10=.int .i64 ii)->(b2=true->v11=.slice D.ta G.N D.tc)->(b3=true->v12=.int .i64 ii)->
  (b4=true->∃a,D.ta=some a/\v13=.pointer (some (a.add ii)))->(b5=true->v14=.string (D.txt ii))->(b6=true->v15=.string (ans ii))->(b7=true->v16=.pointer (some (dE G ii)))->
  (b8=true->X'=λj=>X j\/j=ii)->(b8=false->X'=X)->Sep G M w/\MK G D w->
  eC G prog ⟨.run,Conc.G ((baseD 11).at ⟨#[pT G.Wg 0,pT D.bn 0,pT D.bt 0,pT D.bo 0,.int .i64 ii,.chan (some G.Ch),v6,v7,v8,v9,v10,v11,v12,v13,v14,v15,v16],ds⟩ (.inRegion kr (lin kr n t #[b0,b1,b2,b3,b4,b5,b6,b7,b8])::K)) [bot],w,M,H,X',κ⟩:=by
 intro n
 induction n with
 |zero=>
  intro t b0 b1 b2 b3 b4 b5 b6 b7 b8 v6 v7 v8 v9 v10 v11 v12 v13 v14 v15 v16 X' M w hc h0 h1 h2 h3 h4 h5 h6 h7 h8 h8' hF;have hb:b8=true:=by cases b8;simp[cntF]at hc;rfl
  rw[h8 hb];exact hE _ _ _ _ _ _ _ _ _ _ _ M w hF
 |succ n ih=>
  intro t b0 b1 b2 b3 b4 b5 b6 b7 b8 v6 v7 v8 v9 v10 v11 v12 v13 v14 v15 v16 X' M w hc h0 h1 h2 h3 h4 h5 h6 h7 h8 h8' hF;have Bf:=Rg b0 b1 b2 b3 b4 b5 b6 b7 b8;unfold okR at Bf;rcases Ol kr n t #[b0,b1,b2,b3,b4,b5,b6,b7,b8]with⟨hr,hl⟩|⟨i,t',hi',hl⟩;rw[hl];rw[hr]at Bf;(have hb:b8=true:=by simp at Bf;exact Bf.2);rw[h8 hb];exact hE _ _ _ _ _ _ _ _ _ _ _ M w hF
  ·rw[hl];have hck:ib b0 b1 b2 b3 b4 b5 b6 b7 b8 i=true:=by
    cases hr:Region.ready .any kr #[b0,b1,b2,b3,b4,b5,b6,b7,b8]with
    |nil=>rw[hr]at hi';cases hi'
    |cons x xs=>rw[hr]at Bf hi';exact bj.1 Bf i hi'
   clear Bf hl hi';have hi0:(0:Int)<=(ii:Int):=oM;have hilt:(ii:Int)<(G.N:Int):=oM;obtain⟨rest,hrest⟩:∃rest,rest=lin kr n t' (Array.setIfInBounds #[b0,b1,b2,b3,b4,b5,b6,b7,b8] i true):=⟨_,rfl⟩;rw[<-hrest];have ih':=ih t';clear ih
   match i,hck with
   |0,hck=>
    (obtain rfl:b0=false:=zen);refine eC.read (.inl rfl) rfl (λw1 hr=>?_);replace hF:=bU ok hF hr;simp only[kr,Tryz.f11];refine goes_oper_k rfl rfl (by k_ne) (λKx hKx=>?_);have hld:=hF.2.ot;go_simp;refine hKx _ _ ⟨rfl,rfl,λe he=>?_,?_⟩
    ·have hm:=mem_listed he;clear ih' hE hKx E hS;simp[go_sem, *]at hm;exact⟨_,hm,ok.bo⟩
    ·clear hKx Kx;subst hrest;exact ih' true b1 b2 b3 b4 b5 b6 b7 b8 _ _ _ _ _ _ _ _ _ _ _ X' M w1 zd9 (λ_=>rfl) h1 h2 h3 h4 h5 h6 h7 h8 h8' hF
   |1,hck=>(obtain rfl:b1=false:=zen);simp only[kr,Tryz.f11];refine eC.walk sM (n:=3) ?_;u_op (bU ok) hF;refine Goes.stop (λw1 hr=>?_);replace hF:=bU ok hF hr;subst hrest;exact ih' b0 true b2 b3 b4 b5 b6 b7 b8 _ _ _ _ _ _ _ _ _ _ _ X' M w1 zd9 h0 (λ_=>rfl) h2 h3 h4 h5 h6 h7 h8 h8' hF
   |2,hck=>
    (obtain rfl:b2=false:=zen);refine eC.read (.inl rfl) rfl (λw1 hr=>?_);replace hF:=bU ok hF hr;simp only[kr,Tryz.f11];refine goes_oper_k rfl rfl (by k_ne) (λKx hKx=>?_);have hld:=hF.2.tx;go_simp;refine hKx _ _ ⟨rfl,rfl,λe he=>?_,?_⟩
    ·have hm:=mem_listed he;clear ih' hE hKx E hS;simp[go_sem, *]at hm;exact⟨_,hm,ok.bt⟩
    ·clear hKx Kx;subst hrest;exact ih' b0 b1 true b3 b4 b5 b6 b7 b8 _ _ _ _ _ _ _ _ _ _ _ X' M w1 zd9 h0 h1 (λ_=>rfl) h3 h4 h5 h6 h7 h8 h8' hF
   |3,hck=>(obtain rfl:b3=false:=zen);simp only[kr,Tryz.f11];refine eC.walk sM (n:=3) ?_;u_op (bU ok) hF;refine Goes.stop (λw1 hr=>?_);replace hF:=bU ok hF hr;subst hrest;exact ih' b0 b1 b2 true b4 b5 b6 b7 b8 _ _ _ _ _ _ _ _ _ _ _ X' M w1 zd9 h0 h1 h2 (λ_=>rfl) h4 h5 h6 h7 h8 h8' hF
   |4,hck=>(obtain⟨rfl,rfl,rfl⟩:b4=false/\b2=true/\b3=true:=zen);obtain rfl:=h2 rfl;obtain rfl:=h3 rfl;obtain⟨a,ha,-,-⟩:=hF.2.el ii hi;rw[ha];simp only[kr,Tryz.f11];refine eC.walk sM (n:=3) ?_;u_op (bU ok) hF;refine Goes.stop (λw1 hr=>?_);replace hF:=bU ok hF hr;subst hrest;exact ih' b0 b1 true true true b5 b6 b7 b8 _ _ _ _ _ _ _ _ _ _ _ X' M w1 zd9 h0 h1 (λ_=>by rw[ha]) h3 (λ_=>⟨_,ha,rfl⟩) h5 h6 h7 h8 h8' hF
   |5,hck=>
    (obtain⟨rfl,rfl⟩:b5=false/\b4=true:=zen);obtain⟨a,ha,rfl⟩:=h4 rfl;refine eC.read (.inl rfl) rfl (λw1 hr=>?_);replace hF:=bU ok hF hr;simp only[kr,Tryz.f11];refine goes_oper_k rfl rfl (by k_ne) (λKx hKx=>?_);obtain⟨a',ha',hab,hel⟩:=hF.2.el ii hi;(obtain rfl:a=a':=by rw[ha]at ha';exact bJ ha');go_simp;refine hKx _ _ ⟨rfl,rfl,λe he=>?_,?_⟩
    ·have hm:=mem_listed he;clear ih' hE hKx E hS;simp[go_sem, *]at hm;exact⟨_,hm,(by rw[Pr.add_block];exact hab)⟩
    ·clear hKx Kx;subst hrest;exact ih' b0 b1 b2 b3 true true b6 b7 b8 _ _ _ _ _ _ _ _ _ _ _ X' M w1 zd9 h0 h1 h2 h3 h4 (λ_=>rfl) h6 h7 h8 h8' hF
   |6,hck=>(obtain⟨rfl,rfl⟩:b6=false/\b5=true:=zen);obtain rfl:=h5 rfl;simp only[kr,Tryz.f11];refine eC.act rfl (λw1 hr=>?_);replace hF:=bU ok hF hr;clear hr;refine .idle sM (mS (xs:=#[.string (D.txt ii)]) rfl rfl (by k_ne) rfl func8 nm8 rfl zem) rfl ?_;generalize hcf:(baseD 11).at _ (Item.inRegion _ (6::rest)::K)=c11;show eC G prog ⟨.run,gr (Frame.enter prog 8 #[.string (D.txt ii)] .normal) ([]++[c11,bot]),w1,M,H,X',κ⟩;obtain⟨r,hse⟩:=uu (Q:=qc 8 2 (λv=>v=.string (ans ii))) E (Pr.vQ (kind:=.normal) E hok (xs:=#[.string (D.txt ii)]) (xs':=#[.string (D.txt ii)]) (.cons (.string _) .nil) (.inl rfl)) ⟨rfl,rfl⟩ hF.2.wr (λs T=>qc.on s T) (λT=>abF func8 rfl (hS ii hi) T);refine UX (λs hs e=>by rw[hs.1]at e;cases e) r (λs hs=>?_) hse ok.low (λy hy=>absurd hy.choose_spec (ok.r _ _)) hF.1 (λσ r1 s1 l1 ig fc w1' M1 k1 k2 k3 k4=>?_);obtain⟨e1,ops,i,rest,k',o,e2,e3,c,f,a1,a2,a3⟩:=hs;exact absurd a3 (hsp f);obtain⟨-,rfl,q1,q2,q3,q4,v,rfl,q5⟩:=Go.Mx.jl.done k1 k2 func8 rfl;refine eC.act rfl (λw2 hr2=>?_);refine .idle sM (D6 q1 q2 q3 q4 func8 rfl) rfl ?_;generalize fc.tmps.getD 2 undef=u at q5;(have hu:u=.string (ans ii):=by cases q5;rfl);subst hu;have hF2:Sep G M1 w2/\MK G D w2:=bU ok ⟨k3,hF.2.quiet ok k4⟩ hr2;clear hF k1 k2 k3 k4 hr2 q1 q2 q3 q4 q5;show eC G prog ⟨.run,Conc.G (c11.finish (.string (ans ii))) [bot],w2,M1,H,X',κ⟩;rw[<-hcf,Frame.finish_at];subst hrest;exact ih' b0 b1 b2 b3 b4 true true b7 b8 _ _ _ _ _ _ _ _ _ _ _ X' M1 w2 (by simp[cntF]at hc⊢;omega) h0 h1 h2 h3 h4 h5 (λ_=>rfl) h7 h8 h8' hF2
   |7,hck=>(obtain⟨rfl,rfl,rfl⟩:b7=false/\b0=true/\b1=true:=zen);obtain rfl:=h0 rfl;obtain rfl:=h1 rfl;simp only[kr,Tryz.f11];refine eC.walk sM (n:=3) ?_;u_op (bU ok) hF;refine Goes.stop (λw1 hr=>?_);replace hF:=bU ok hF hr;subst hrest;exact ih' true true b2 b3 b4 b5 b6 true b8 _ _ _ _ _ _ _ _ _ _ _ X' M w1 zd9 h0 h1 h2 h3 h4 h5 h6 (λ_=>rfl) h8 h8' hF
   |8,hck=>(obtain⟨rfl,rfl,rfl⟩:b8=false/\b6=true/\b7=true:=zen);obtain rfl:=h6 rfl;obtain rfl:=h7 rfl;obtain rfl:=h8' rfl;simp only[kr,Tryz.f11];refine eC.act rfl (λw1 hr=>?_);replace hF:=bU ok hF hr;clear hr;obtain⟨u,hu1,hu2⟩:=Om hF.2.row hi;refine .store ii rfl hH hi (by rw[Be];exact CU rfl rfl (by k_ne) rfl rfl rfl hu1 hu2 U6) rfl ?_;subst hrest;refine ih' b0 b1 b2 b3 b4 b5 true true true _ _ _ _ _ _ _ _ _ _ _ _ M _ zd9 h0 h1 h2 h3 h4 h5 h6 h7 (λ_=>rfl) (λh=>by cases h) ⟨?_,?_⟩;exact hF.1.rely sM;exact hF.2.store ok gO gW hi _
end
noncomputable def Rh:Code:=match Tryz.f11.body with
 |some (.seq _ (.seq _ (.block _ (.loop c))))=>c
 |_=>.skip
theorem U7:prog.follows .mixedOrders=true:=kR
section
variable {G:Geo}{D:Dat}{H X M:cD}{κ:Nat}
noncomputable def gL(G:Geo)(D:Dat)(v4 v6 v7 v8 v9 v10 v11 v12 v13 v14 v15 v16:ae):aG:=
 Conc.G ((baseD 11).at ⟨#[pT G.Wg 0,pT D.bn 0,pT D.bt 0,pT D.bo 0,v4,.chan (some G.Ch),v6,v7,v8,v9,v10,v11,v12,v13,v14,v15,v16],[dcall 12 #[pT G.Wg 0]]⟩ [.code Rh,.inLoop Rh,.inBlock 0]) [bot]
theorem X7(ok:kW G D)(hty:G.ty=45)(hz:G.z=.int .i64 0){Sx:Nat->Nat->Bool}(E:Env prog D.ρ Sx)(hok:D.ρ.ok 8)(hsp:∀f,¬D.ρ.sp f)(ans:Nat->ay)(Be:∀i,G.ans i=.string (ans i))
 (hS:∀i,i<G.N->∀T,Calls prog 8 #[.string (D.txt i)] (on D.wL T) λe _=>∃v,e=.returned v/\v=.string (ans i))(gO:¬G.base G.O)(gW:G.Wg≠G.O):
 ∀(κ:Nat)(v4 v6 v7 v8 v9 v10 v11 v12 v13 v14 v15 v16:ae)(H X M:cD)(w:aa),(∀i,H i->X i)->Sep G M w/\MK G D w->eC G prog ⟨.run,gL G D v4 v6 v7 v8 v9 v10 v11 v12 v13 v14 v15 v16,w,M,H,X,κ⟩:=by
 intro κ
 induction κ using Nat.strongRecOn with
 |_ κ ih=>
  intro v4 v6 v7 v8 v9 v10 v11 v12 v13 v14 v15 v16 H X M w U4 hF;refine eC.walk sM (n:=10) ?_;simp only[gL,Rh,Tryz.f11];u_c stepG_seq (bU ok) hF;u_reg (bU ok) hF;refine Goes.stop (λw1 h1=>?_);replace hF:=bU ok hF h1;clear h1;refine eC.recv rfl (λw2 h2=>?_);replace hF:=bU ok hF h2;clear h2;refine⟨rfl,?_,λi k' hk hi=>?_,?_⟩
  ·rw[hz,stepG_comm (cases:=#[rcase G.Ch (.int .i64 0)]) (blocking:=true) (shape:=.recv true) (w':=w2) rfl rfl (by k_ne) (by simp[go_sem,rcase])];simp[Conc.G,listed,go_sem,seen]
  ·simp only at hk;simp only[served_G];refine eC.walk sM (n:=30) ?_;walk_nrm;simp only[recvd];u_op (bU ok) hF;u_c stepG_region_end (bU ok) hF;u_c stepG_seq (bU ok) hF;u_cond true (bU ok) hF;u_c stepG_skip (bU ok) hF;u_c stepG_block (bU ok) hF;u_c stepG_seq (bU ok) hF;u_reg (bU ok) hF;u_op (bU ok) hF;u_op (bU ok) hF;u_c stepG_region_end (bU ok) hF;refine Goes.stop (λw1 h1=>?_);replace hF:=bU ok hF h1;clear h1;refine eC.act rfl (λw3 h3=>?_);replace hF:=bU ok hF h3;clear h3;refine .quiet (.inl rfl) IB rfl ⟨λ_ _ _=>rfl,rfl,rfl,rfl,aj _⟩ sM ?_;have e9:abC M w3 {w3 with drawn:=w3.drawn+1}=M:=abH M w3;rw[e9];(have aao:∀t,Region.schedule (prog.follows .mixedOrders) kr t=lin kr 9 t #[false,false,false,false,false,false,false,false,false]:=λt=>by rw[U7];rfl);have hF3:Sep G M {w3 with drawn:=w3.drawn+1}/\MK G D {w3 with drawn:=w3.drawn+1}:=bU ok hF ⟨λ_ _=>rfl,id,id,rfl,rfl,rfl,aj _⟩;generalize {w3 with drawn:=w3.drawn+1}=w4 at hF3⊢;generalize w3.tape w3.drawn _=tq;show eC G prog ⟨.run,Conc.G ((baseD 11).at _ (.inRegion kr (Region.schedule (prog.follows .mixedOrders) kr tq)::_)) [bot],w4,M,_,X,k'⟩;rw[aao];refine aan (H:=λj=>H j\/j=i) (X:=X) ok E hok hsp ans Be hS gO gW hi (.inr rfl) (λv6 v7 v8 v9 v10 v11 v12 v13 v14 v15 v16 M w hF=>?_) 9 tq _ _ _ _ _ _ _ _ _ _ _ _ _ _ _ _ _ _ _ _ X M w4 (by simp[cntF]) (λh=>zee) (λh=>zee) (λh=>zee) (λh=>zee) (λh=>zee) (λh=>zee) (λh=>zee) (λh=>zee) (λh=>zee) (λ_=>rfl) hF3;refine eC.walk sM (n:=10) ?_;u_c stepG_region_end (bU ok) hF;u_c stepG_inBlock (bU ok) hF;u_c stepG_inLoop (bU ok) hF;refine Goes.stop (λw1 h1=>?_);exact ih k' oM _ _ _ _ _ _ _ _ _ _ _ _ _ _ M w1 (λj hj=>hj.imp (U4 j) id) (bU ok hF h1)
  ·simp only[served_G];rw[hz];refine eC.walk sM (n:=30) ?_;walk_nrm;simp only[recvd];u_op (bU ok) hF;u_c stepG_region_end (bU ok) hF;u_c stepG_seq (bU ok) hF;u_cond false (bU ok) hF;u_exit (bU ok) hF;u_c stepG_end (bU ok) hF;u_in (bU ok) hF;rw[stepG_unwind_enter rfl func12 (nm_done Tryz.link) rfl];simp only[goes_go];refine⟨by u_nil,?_⟩;refine Goes.stop (λw1 h1=>?_);replace hF:=bU ok hF h1;exact U3 (L:=Tryz.link) Tryz.LH hty rfl (LJ _) U4 w1 hF.2.live
theorem X8(ok:kW G D)(hty:G.ty=45)(hz:G.z=.int .i64 0){Sx:Nat->Nat->Bool}(E:Env prog D.ρ Sx)(hok:D.ρ.ok 8)(hsp:∀f,¬D.ρ.sp f)(ans:Nat->ay)(Be:∀i,G.ans i=.string (ans i))
 (hS:∀i,i<G.N->∀T,Calls prog 8 #[.string (D.txt i)] (on D.wL T) λe _=>∃v,e=.returned v/\v=.string (ans i))(gO:¬G.base G.O)(gW:G.Wg≠G.O)(κ:Nat)(w:aa)(hF:Sep G (λ_=>False) w/\MK G D w):
 eC G prog ⟨.run,born prog (call11 G D),w,λ_=>False,λ_=>False,λ_=>False,κ⟩:=by
 refine eC.act rfl (λw1 h1=>?_);replace hF:=bU ok hF h1;clear h1;refine .idle sM (LI G D w1) rfl ?_;refine eC.walk sM (n:=10) ?_;simp only[FH,Tryz.f11,br];walk_nrm;u_c stepG_seq (bU ok) hF;u_reg (bU ok) hF;u_defer (bU ok) hF;u_c stepG_region_end (bU ok) hF;u_c stepG_seq (bU ok) hF;u_reg (bU ok) hF;refine Goes.stop (λw2 h2=>?_);replace hF:=bU ok hF h2;clear h2;refine eC.read (.inl rfl) rfl (λw3 hr=>?_);replace hF:=bU ok hF hr;clear hr;refine goes_oper_k rfl rfl (by k_ne) (λKx hKx=>?_);have hld:=hF.2.nx;go_simp;refine hKx _ _ ⟨rfl,rfl,λe he=>?_,?_⟩
 ·have hm:=mem_listed he;clear hKx E hS;simp[go_sem, *]at hm;exact⟨_,hm,ok.bn⟩
 ·clear hKx Kx;refine eC.walk sM (n:=10) ?_;u_c stepG_region_end (bU ok) hF;u_c stepG_block (bU ok) hF;u_c stepG_loop (bU ok) hF;refine Goes.stop (λw4 h4=>?_);exact X7 ok hty hz E hok hsp ans Be hS gO gW κ _ _ _ _ _ _ _ _ _ _ _ _ _ _ _ w4 (λ_ h=>h) (bU ok hF h4)
end
theorem mq(T:bw)(h:T.size=43):∃v0 v1 v2 v3 v4 v5 v6 v7 v8 v9 v10 v11 v12 v13 v14 v15 v16 v17 v18 v19 v20 v21 v22 v23 v24 v25 v26 v27 v28 v29 v30 v31 v32 v33 v34 v35 v36 v37 v38 v39 v40 v41 v42:ae,T= #[v0,v1,v2,v3,v4,v5,v6,v7,v8,v9,v10,v11,v12,v13,v14,v15,v16,v17,v18,v19,v20,v21,v22,v23,v24,v25,v26,v27,v28,v29,v30,v31,v32,v33,v34,v35,v36,v37,v38,v39,v40,v41,v42]:=by
 obtain⟨l⟩:=T
 match l,h with
 |v0::v1::v2::v3::v4::v5::v6::v7::v8::v9::v10::v11::v12::v13::v14::v15::v16::v17::v18::v19::v20::v21::v22::v23::v24::v25::v26::v27::v28::v29::v30::v31::v32::v33::v34::v35::v36::v37::v38::v39::v40::v41::v42::[],_=>exact⟨v0,v1,v2,v3,v4,v5,v6,v7,v8,v9,v10,v11,v12,v13,v14,v15,v16,v17,v18,v19,v20,v21,v22,v23,v24,v25,v26,v27,v28,v29,v30,v31,v32,v33,v34,v35,v36,v37,v38,v39,v40,v41,v42,rfl⟩
section
variable {P:aF}{main:Bool}{b:Frame}{a:Act}{kk:List Item}{cs:List Frame}{w:aa}{ops:Array Oper}{i:Nat}{rest:List Nat}{o:Oper}
theorem IC{x:Operand}{ats:Array aw}(ho:ops[i]?=some o)(hw:Region.wanted o (yielded ops a.tmps)=true)(hk:b.kind≠.early)(hop:o.op=.call {callee:=.builtin .close,args:=#[x],argTypes:=ats})
 {c cap s r:Nat}{buf:bw}{tm:Bool}(hx:a.eval x=.chan (some c))(hc:w.heap[c]?=some (.chan cap buf false s r tm))(hq:(P.funcs[b.fn]?).any (·.norace)=false):
 stepG P main (Conc.G (b.at a (.inRegion ops (i::rest)::kk)) cs) w=.go (Conc.G (b.at (a.put o.dst (.tuple #[])) (.inRegion ops rest::kk)) cs) {w with heap:=w.heap.setIfInBounds c (.chan cap buf true s r tm)} #[⟨.obj c,false,true⟩,⟨.obj c,true,true⟩]:=by
 simp only[Act.eval,aU]at hx;have hr:(execOp a.eval o).run P w=.ok (.value (.tuple #[])) {w with heap:=w.heap.setIfInBounds c (.chan cap buf true s r tm)}:=by unfold execOp;simp only[hop];simp[go_sem,hx,run_close_open _ _ hc]
 have he:(execOp a.eval o).events P w #[]= #[⟨.obj c,false,true⟩,⟨.obj c,true,true⟩]:=by unfold execOp;simp only[hop];simp[go_sem,hx,events_close_open _ _ hc]
 rw[stepG_value ho hw hk hr];unfold listed;rw[he,seen_eq hq (by intro e he f;simp only[List.mem_toArray,List.mem_cons,List.not_mem_nil,or_false]at he;rcases he with rfl|rfl<;>simp)]
end
theorem CV{P:aF}{main:Bool}{b:Frame}{a:Act}{k:List Item}{cs:List Frame}{w:aa}{ops:Array Oper}{i:Nat}{rest:List Nat}{o:Oper}{d:Deferred}{w':aa}{f:Fn}{c:bw}(ho:ops[i]?=some o)(hw:Region.wanted o (yielded ops a.tmps)=true)
 (hk:b.kind≠.early)(hr:(execOp a.eval o).run P w=.ok (.spawn d) w')(hd:d.target=.fn f c)(he:(execOp a.eval o).events P w #[]= #[]):
 stepG P main (Conc.G (b.at a (.inRegion ops (i::rest)::k)) cs) w=.spawn (Conc.G (b.at (a.put o.dst undef) (.inRegion ops rest::k)) cs) (born P d) w' #[]:=by
 rw[stepG_spawn ho hw hk hr hd];unfold listed;rw[he,seen_none]
theorem X9:(prog.funcs[(base 6).fn]?).any (·.norace)=false:=kR
section
variable {G:Geo}{D:Dat}{Fin:aG->Prop}
theorem dc.read{P:aF}{tag:jm}{d:Nat}{g:aG}{w:aa}(hs:g.status=.running)(h:∀w1,Rel G (λ_=>False) w w1->(stepG P true g w1).goes λg' w' es=>w'=w1/\g'.status=.running/\(∀e∈es,∃a:Addr,e=⟨.cell a,false,false⟩/\G.base a.block)/\dc G P Fin ⟨tag,d,g',w1⟩):dc G P Fin ⟨tag,d,g,w⟩:=by
 refine dc.act hs λw1 hr=>?_;have h:=h w1 hr;cases e:stepG P true g w1 with
 |go g' w' es=>rw[e]at h;obtain⟨rfl,h2,h3,h4⟩:=h;refine .quiet e h2 ⟨rfl,rfl,rfl,rfl⟩ (λe he=>?_) h4;obtain⟨a,rfl,ha⟩:=h3 e he;refine .inl ⟨λm hm=>zer,λx hx _=>?_⟩;exact zed
 |_=>rw[e]at h;exact h.elim
noncomputable def rz:Code:=Tryz.f6.body.getD .skip
def lp(c:Code):Code:=match c with|.seq _ (.block _ (.loop c))=>c|_=>.skip
def fR(c:Code):Code:=match c with|.seq _ b=>b|_=>.skip
def jQ(c:Code):Code:=match c with|.seq a _=>a|_=>.skip
def rA(c:Code):Array Oper:=match c with|.region _ ops _=>ops|_=>#[]
noncomputable def r6:Code:=fR (fR (fR (fR (fR rz))))
noncomputable def U9:Code:=lp (jQ r6)
noncomputable def s6:Code:=fR r6
noncomputable def Va:Code:=lp (jQ s6)
noncomputable def c6:Code:=fR s6
noncomputable def w6:Code:=fR c6
noncomputable def e6:Code:=fR w6
structure TS(G:Geo)(D:Dat)(R:Nat)(T:bw):Prop where
 size:T.size=43
 t1:T[1]?=some (.int .i64 R)
 t2:T[2]?=some (pT D.bt 0)
 t6:T[6]?=some (pT D.bo 0)
 t7:T[7]?=some (pT D.bn 0)
 t8:T[8]?=some (pT G.Wg 0)
def rB(D:Dat)(cs:List Frame)(g:aG):Prop:=∃T:bw,T.size=43/\T[6]?=some (pT D.bo 0)/\Rf prog (Conc.G ((base 6).at ⟨T,[]⟩ (.inRegion (rA (jQ w6)) []::[.code e6])) cs) g
section
variable {cs:List Frame}
theorem MK.wg{w:aa}(ok:kW G D)(gB:¬G.base G.Wg)(gW:G.Wg≠G.O)(h:MK G D w)(v:ae)(hl:WgLive G.ty G.Wg (w.setCell (stA G.Wg) v)):MK G D (w.setCell (stA G.Wg) v):=by have hA:=aside_setCell w (stA G.Wg) v;refine h.rely (M:=λ_=>False) ok ⟨λb hb=>hA.block b (λe=>?_),λ_=>hl,λ⟨cs,h1,h2⟩=>⟨cs,(hA.block G.O (λe=>gW e.symm)).trans h1,h2⟩,hA.os,hA.tape,hA.output,Nat.le_of_eq hA.size.symm⟩;subst e;exact hb.elim gB id
theorem Vb(ok:kW G D)(hty:G.ty=45)(gB:¬G.base G.Wg)(_:¬G.base G.O)(gW:G.Wg≠G.O){R:Nat}(hR:R<=16)(hw:∀w,MK G D w->eC G prog ⟨.run,born prog (call11 G D),w,λ_=>False,λ_=>False,λ_=>False,G.N⟩)
 (hsend:∀T w,TS G D R T->MK G D w->dc G prog (rB D cs) ⟨.sd 0,0,Conc.G ((base 6).at ⟨T,[]⟩ [.code s6]) cs,w⟩):
 ∀(r j:Nat)(T:bw)(w:aa),j+r=R->TS G D R T->T[26]?=some (.int .i64 R)->T[27]?=some (.int .i64 j)->MK G D w->
  dc G prog (rB D cs) ⟨gU r,0,Conc.G ((base 6).at ⟨T,[]⟩ [.code U9,.inLoop U9,.inBlock 0,.code s6]) cs,w⟩:=by
 intro r
 induction r with
 |zero=>intro j T w hj hT t26 t27 hF;obtain rfl:j=R:=oM;obtain⟨hs,t1,t2,t6,t7,t8⟩:=hT;obtain⟨v0,v1,v2,v3,v4,v5,v6,v7,v8,v9,v10,v11,v12,v13,v14,v15,v16,v17,v18,v19,v20,v21,v22,v23,v24,v25,v26,v27,v28,v29,v30,v31,v32,v33,v34,v35,v36,v37,v38,v39,v40,v41,v42,rfl⟩:=mq T hs;simp only[ba,aY,bf,bq]at t1 t2 t6 t7 t8 t26 t27;subst t1 t2 t6 t7 t8 t26 t27;have hnl:¬((j:Int)<(j:Int)):=oM;refine dc.walk (n:=30) ?_;simp only[U9,r6,rz,Tryz.f6,br,fR,jQ,lp];generalize hs6:s6=sc;u_c stepG_seq (MK.rely ok) hF;u_reg (MK.rely ok) hF;u_op (MK.rely ok) hF;u_c stepG_region_end (MK.rely ok) hF;u_c stepG_seq (MK.rely ok) hF;u_cond false (MK.rely ok) hF;u_exit (MK.rely ok) hF;refine Goes.stop (λw1 h1=>?_);subst hs6;exact hsend _ w1 ⟨sM,sM,sM,sM,sM,sM⟩ (hF.rely ok h1)
 |succ r ih=>
  intro j T w hj hT t26 t27 hF;obtain⟨hs,t1,t2,t6,t7,t8⟩:=hT;obtain⟨v0,v1,v2,v3,v4,v5,v6,v7,v8,v9,v10,v11,v12,v13,v14,v15,v16,v17,v18,v19,v20,v21,v22,v23,v24,v25,v26,v27,v28,v29,v30,v31,v32,v33,v34,v35,v36,v37,v38,v39,v40,v41,v42,rfl⟩:=mq T hs;simp only[ba,aY,bf,bq]at t1 t2 t6 t7 t8 t26 t27;subst t1 t2 t6 t7 t8 t26 t27;have hlt:(j:Int)<(R:Int):=oM;have hwr:IntKind.i64.wrap ((j:Int)+1)=((j+1:Nat):Int):=by rw[IntKind.wrap_i64];omega
  refine dc.walk (n:=30) ?_;simp only[U9,r6,rz,Tryz.f6,br,fR,jQ,lp];generalize hs6:s6=sc;u_c stepG_seq (MK.rely ok) hF;u_reg (MK.rely ok) hF;u_op (MK.rely ok) hF;u_c stepG_region_end (MK.rely ok) hF;u_c stepG_seq (MK.rely ok) hF;u_cond true (MK.rely ok) hF;u_c stepG_skip (MK.rely ok) hF;u_c stepG_seq (MK.rely ok) hF;u_c stepG_block (MK.rely ok) hF;u_c stepG_seq (MK.rely ok) hF;u_reg (MK.rely ok) hF;u_in (MK.rely ok) hF;refine goes_call rfl rfl (by k_ne) rfl func10 (nm_add Tryz.link) rfl ⟨by u_nil,?_⟩;refine Goes.stop (λw1 h1=>?_);replace hF:=hF.rely ok h1;clear h1;show dc G prog (rB D cs) ⟨.sp (r+1) false,0,_,w1⟩;simp only[Act.eval,List.map_toArray,List.map_cons,List.map_nil];have f1:∀{w},MK G D w->WgLive G.ty G.Wg w:=λh=>h.live;have f2:∀{w w1},MK G D w->Rel G (λ_=>False) w w1->MK G D w1:=λh r=>h.rely ok r;have f3:∀{w} v,MK G D w->WgLive G.ty G.Wg (w.setCell (stA G.Wg) v)->MK G D (w.setCell (stA G.Wg) v):=λv h hl=>h.wg ok gB gW v hl;refine X6 (F:=MK G D) (L:=Tryz.link) Tryz.LH hty f1 f2 f3 (λw hF=>?_) w1 hF;refine dc.walk (n:=30) ?_;walk_nrm;u_c stepG_region_end (MK.rely ok) hF;u_reg (MK.rely ok) hF;have Ri:∀(xs:bw)(w:aa)(es:Array Event),(Instr.makeFunc (.func 11) #[] xs).events prog w es=es:=λ_ _ _=>rfl;u_op (MK.rely ok) hF;clear Ri;refine Goes.stop (λw2 h2=>?_);replace hF:=hF.rely ok h2;clear h2;refine dc.act rfl (λw3 h3=>?_);replace hF:=hF.rely ok h3;clear h3;try walk_nrm
  refine .go (child:=born prog (call11 G D)) r rfl rfl (CV (d:=call11 G D) (w':=w3) (f:=.func 11) (c:=#[pT G.Wg 0,pT D.bn 0,pT D.bt 0,pT D.bo 0]) rfl rfl (by k_ne) (by simp[go_sem,call11,Deferred.ofValue]) rfl (by simp[go_sem,Deferred.ofValue])) rfl (hw w3 hF) ?_;refine dc.walk (n:=30) ?_;walk_nrm;u_c stepG_region_end (MK.rely ok) hF;u_c stepG_inBlock (MK.rely ok) hF;u_reg (MK.rely ok) hF;u_op (MK.rely ok) hF;u_op (MK.rely ok) hF;u_c stepG_region_end (MK.rely ok) hF;u_c stepG_inLoop (MK.rely ok) hF;refine Goes.stop (λw4 h4=>?_);subst hs6;refine ih (j+1) _ w4 oM ⟨sM,sM,sM,sM,sM,sM⟩ sM sM (hF.rely ok h4)
end
end
section
variable {G:Geo}{D:Dat}{Fin:aG->Prop}{cs:List Frame}{R:Nat}
theorem Vd(ok:kW G D)(hz:G.zs=.tuple #[])(hN:G.N<=50)
 (hclose:∀T w,TS G D R T->MK G D w->dc G prog (rB D cs) ⟨.sd G.N,0,Conc.G ((base 6).at ⟨T,[]⟩ [.code c6]) cs,w⟩):
 ∀(r i:Nat)(T:bw)(w:aa),i+r=G.N->TS G D R T->T[33]?=some (.int .i64 G.N)->T[34]?=some (.int .i64 i)->MK G D w->
  dc G prog (rB D cs) ⟨.sd i,0,Conc.G ((base 6).at ⟨T,[]⟩ [.code Va,.inLoop Va,.inBlock 2,.code c6]) cs,w⟩:=by
 intro r
 induction r with
 |zero=>intro i T w hj hT t33 t34 hF;obtain⟨hs,t1,t2,t6,t7,t8⟩:=hT;obtain⟨v0,v1,v2,v3,v4,v5,v6,v7,v8,v9,v10,v11,v12,v13,v14,v15,v16,v17,v18,v19,v20,v21,v22,v23,v24,v25,v26,v27,v28,v29,v30,v31,v32,v33,v34,v35,v36,v37,v38,v39,v40,v41,v42,rfl⟩:=mq T hs;obtain rfl:i=G.N:=oM;simp only[ba,aY,bf,bq]at t1 t2 t6 t7 t8 t33 t34;subst t1 t2 t6 t7 t8 t33 t34;have hnl:¬((G.N:Int)<(G.N:Int)):=oM;refine dc.walk (n:=30) ?_;simp only[Va,s6,r6,rz,Tryz.f6,br,fR,jQ,lp];generalize hs6:c6=sc;u_c stepG_seq (MK.rely ok) hF;u_reg (MK.rely ok) hF;u_op (MK.rely ok) hF;u_c stepG_region_end (MK.rely ok) hF;u_c stepG_seq (MK.rely ok) hF;u_cond false (MK.rely ok) hF;u_exit (MK.rely ok) hF;refine Goes.stop (λw1 h1=>?_);subst hs6;exact hclose _ w1 ⟨sM,sM,sM,sM,sM,sM⟩ (hF.rely ok h1)
 |succ r ih=>
  intro i T w hj hT t33 t34 hF;obtain⟨hs,t1,t2,t6,t7,t8⟩:=hT;obtain⟨v0,v1,v2,v3,v4,v5,v6,v7,v8,v9,v10,v11,v12,v13,v14,v15,v16,v17,v18,v19,v20,v21,v22,v23,v24,v25,v26,v27,v28,v29,v30,v31,v32,v33,v34,v35,v36,v37,v38,v39,v40,v41,v42,rfl⟩:=mq T hs;simp only[ba,aY,bf,bq]at t1 t2 t6 t7 t8 t33 t34;subst t1 t2 t6 t7 t8 t33 t34;have hlt:(i:Int)<(G.N:Int):=oM;have hwr:IntKind.i64.wrap ((i:Int)+1)=((i+1:Nat):Int):=by rw[IntKind.wrap_i64];omega
  refine dc.walk (n:=30) ?_;simp only[Va,s6,r6,rz,Tryz.f6,br,fR,jQ,lp];generalize hs6:c6=sc;u_c stepG_seq (MK.rely ok) hF;u_reg (MK.rely ok) hF;u_op (MK.rely ok) hF;u_c stepG_region_end (MK.rely ok) hF;u_c stepG_seq (MK.rely ok) hF;u_cond true (MK.rely ok) hF;u_c stepG_skip (MK.rely ok) hF;u_c stepG_seq (MK.rely ok) hF;u_c stepG_block (MK.rely ok) hF;u_c stepG_seq (MK.rely ok) hF;u_reg (MK.rely ok) hF;u_op (MK.rely ok) hF;u_op (MK.rely ok) hF;u_c stepG_region_end (MK.rely ok) hF;u_reg (MK.rely ok) hF;refine Goes.stop (λw1 h1=>?_);replace hF:=hF.rely ok h1;clear h1;refine dc.read rfl (λw2 hr=>?_);replace hF:=hF.rely ok hr;clear hr;refine goes_oper_k rfl rfl (by k_ne) (λKx hKx=>?_);have hld:=hF.nx;go_simp;refine hKx _ _ ⟨rfl,rfl,λe he=>?_,?_⟩;exact zeg;clear hKx Kx hld;refine dc.walk (n:=30) ?_;try walk_nrm
  u_op (MK.rely ok) hF;refine Goes.stop (λw3 h3=>?_);replace hF:=hF.rely ok h3;clear h3;refine dc.send rfl i (λw4 h4=>?_);replace hF:=hF.rely ok h4;clear h4;refine⟨rfl,oM,?_,?_⟩
  ·rw[hz,stepG_comm (cases:=#[scase G.Ch (.int .i64 i) (.tuple #[])]) (blocking:=true) (shape:=.send) (w':=w4) rfl rfl (by k_ne) (by simp[go_sem,scase])];simp[Conc.G,listed,go_sem,seen]
  ·simp only[served_G];refine dc.walk (n:=30) ?_;(try walk_nrm);u_c stepG_region_end (MK.rely ok) hF;u_c stepG_inBlock (MK.rely ok) hF;u_reg (MK.rely ok) hF;u_op (MK.rely ok) hF;u_op (MK.rely ok) hF;u_c stepG_region_end (MK.rely ok) hF;u_c stepG_inLoop (MK.rely ok) hF;refine Goes.stop (λw5 h5=>?_);subst hs6;exact ih (i+1) _ w5 oM ⟨sM,sM,sM,sM,sM,sM⟩ sM sM (hF.rely ok h5)
theorem Ya(ok:kW G D)(hz:G.zs=.tuple #[])(hN:G.N<=50)
 (hclose:∀T w,TS G D R T->MK G D w->dc G prog (rB D cs) ⟨.sd G.N,0,Conc.G ((base 6).at ⟨T,[]⟩ [.code c6]) cs,w⟩)(T:bw)(w:aa)(hT:TS G D R T)(hF:MK G D w):
 dc G prog (rB D cs) ⟨.sd 0,0,Conc.G ((base 6).at ⟨T,[]⟩ [.code s6]) cs,w⟩:=by
 obtain⟨hs,t1,t2,t6,t7,t8⟩:=hT;obtain⟨v0,v1,v2,v3,v4,v5,v6,v7,v8,v9,v10,v11,v12,v13,v14,v15,v16,v17,v18,v19,v20,v21,v22,v23,v24,v25,v26,v27,v28,v29,v30,v31,v32,v33,v34,v35,v36,v37,v38,v39,v40,v41,v42,rfl⟩:=mq T hs;simp only[ba,aY,bf,bq]at t1 t2 t6 t7 t8;subst t1 t2 t6 t7 t8;have hall:=Vd (R:=R) ok hz hN hclose G.N 0;refine dc.walk (n:=30) ?_;simp only[s6,r6,rz,Tryz.f6,br,fR];u_c stepG_seq (MK.rely ok) hF;u_c stepG_seq (MK.rely ok) hF;u_reg (MK.rely ok) hF;refine Goes.stop (λw1 h1=>?_);replace hF:=hF.rely ok h1;clear h1;refine dc.read rfl (λw2 hr=>?_);replace hF:=hF.rely ok hr;clear hr;refine goes_oper_k rfl rfl (by k_ne) (λKx hKx=>?_);have hld:=hF.tx;go_simp;refine hKx _ _ ⟨rfl,rfl,λe he=>?_,?_⟩
 ·have hm:=mem_listed he;clear hKx;simp[go_sem,hld]at hm;exact⟨_,hm,ok.bt⟩
 clear hKx Kx hld;refine dc.walk (n:=30) ?_;try walk_nrm
 u_op (MK.rely ok) hF;u_op (MK.rely ok) hF;u_c stepG_region_end (MK.rely ok) hF;u_c stepG_block (MK.rely ok) hF;u_c stepG_loop (MK.rely ok) hF;refine Goes.stop (λw5 h5=>?_);exact hall _ w5 oM ⟨sM,sM,sM,sM,sM,sM⟩ sM sM (hF.rely ok h5)
theorem Ve(ok:kW G D)(hty:G.ty=45)(gC:G.Wg≠G.Ch)(T:bw)(w:aa)(hT:TS G D R T)(hF:MK G D w):dc G prog (rB D cs) ⟨.sd G.N,0,Conc.G ((base 6).at ⟨T,[]⟩ [.code c6]) cs,w⟩:=by
 obtain⟨hs,t1,t2,t6,t7,t8⟩:=hT;obtain⟨v0,v1,v2,v3,v4,v5,v6,v7,v8,v9,v10,v11,v12,v13,v14,v15,v16,v17,v18,v19,v20,v21,v22,v23,v24,v25,v26,v27,v28,v29,v30,v31,v32,v33,v34,v35,v36,v37,v38,v39,v40,v41,v42,rfl⟩:=mq T hs;simp only[ba,aY,bf,bq]at t1 t2 t6 t7 t8;subst t1 t2 t6 t7 t8;refine dc.walk (n:=30) ?_;simp only[c6,s6,r6,rz,Tryz.f6,br,fR];u_c stepG_seq (MK.rely ok) hF;u_reg (MK.rely ok) hF;refine Goes.stop (λw1 h1=>?_);replace hF:=hF.rely ok h1;clear h1;refine dc.read rfl (λw2 hr=>?_);replace hF:=hF.rely ok hr;clear hr;refine goes_oper_k rfl rfl (by k_ne) (λKx hKx=>?_);have hld:=hF.nx;go_simp;refine hKx _ _ ⟨rfl,rfl,λe he=>?_,?_⟩;exact zeg;clear hKx Kx hld;try walk_nrm
 refine dc.act rfl (λw3 h3=>?_);replace hF:=hF.rely ok h3;clear h3;refine .close rfl rfl (λa b hch=>?_);refine⟨_,IC rfl rfl (by k_ne) rfl zem hch X9,rfl,λv=>?_⟩;have hl:WgLive G.ty G.Wg {w3 with heap:=w3.heap.setIfInBounds G.Ch (.chan 0 #[] true a b false)}:=by obtain⟨st,sm,h⟩:=hF.live;exact⟨st,sm,h.of_block (bh (Ne.symm gC))⟩
 generalize {w3 with heap:=w3.heap.setIfInBounds G.Ch (.chan 0 #[] true a b false)}=w4 at hl⊢;clear hF hch;refine dc.walk (n:=30) ?_;try walk_nrm
 u_c stepG_region_end ag hl;u_c stepG_seq ag hl;u_reg ag hl;u_in ag hl;refine goes_call rfl rfl (by k_ne) rfl func13 (nm_wait Tryz.link) rfl ⟨by u_nil,?_⟩;refine Goes.stop (λw5 h5=>?_);replace hl:=ag hl h5;clear h5;simp only[Act.eval,List.map_toArray,List.map_cons,List.map_nil];refine U5 (L:=Tryz.link) Tryz.LH hty (λg hg=>?_) v w5 hl;exact⟨_,by simp,by simp,hg⟩
end
section
variable {G:Geo}{D:Dat}{cs:List Frame}{R:Nat}
theorem Yb{R:Nat}(h:1<=R):gU R=.sp R false:=by unfold gU;rw[if_neg oM]
theorem Vf(ok:kW G D)(hty:G.ty=45)(hz:G.z=.int .i64 0)(hzs:G.zs=.tuple #[])(hN:G.N<=50)(gB:¬G.base G.Wg)(gO:¬G.base G.O)(gW:G.Wg≠G.O)(gC:G.Wg≠G.Ch)(xM:1<=R)(hR:R<=16)
 {Sx:Nat->Nat->Bool}(E:Env prog D.ρ Sx)(hok:D.ρ.ok 8)(hsp:∀f,¬D.ρ.sp f)(ans:Nat->ay)(Be:∀i,G.ans i=.string (ans i))
 (hS:∀i,i<G.N->∀T,Calls prog 8 #[.string (D.txt i)] (on D.wL T) λe _=>∃v,e=.returned v/\v=.string (ans i))
 (T:bw)(w:aa)(hT:TS G D R T)(hF:MK G D w):dc G prog (rB D cs) ⟨.sp R false,0,Conc.G ((base 6).at ⟨T,[]⟩ [.code r6]) cs,w⟩:=by
 have h0:=Vb (cs:=cs) ok hty gB gO gW hR (λw hF=>X8 ok hty hz E hok hsp ans Be hS gO gW G.N w ⟨hF.sep,hF⟩) (λT w hT hF=>Ya ok hzs hN (λT w hT hF=>Ve ok hty gC T w hT hF) T w hT hF) R 0;rw[Yb xM]at h0;obtain⟨hs,t1,t2,t6,t7,t8⟩:=hT;obtain⟨v0,v1,v2,v3,v4,v5,v6,v7,v8,v9,v10,v11,v12,v13,v14,v15,v16,v17,v18,v19,v20,v21,v22,v23,v24,v25,v26,v27,v28,v29,v30,v31,v32,v33,v34,v35,v36,v37,v38,v39,v40,v41,v42,rfl⟩:=mq T hs;simp only[ba,aY,bf,bq]at t1 t2 t6 t7 t8;subst t1 t2 t6 t7 t8;refine dc.walk (n:=30) ?_;simp only[r6,rz,Tryz.f6,br,fR];u_c stepG_seq (MK.rely ok) hF;u_c stepG_seq (MK.rely ok) hF;u_reg (MK.rely ok) hF;u_op (MK.rely ok) hF;u_op (MK.rely ok) hF;u_c stepG_region_end (MK.rely ok) hF;u_c stepG_block (MK.rely ok) hF;u_c stepG_loop (MK.rely ok) hF;refine Goes.stop (λw5 h5=>?_);exact h0 _ w5 oM ⟨sM,sM,sM,sM,sM,sM⟩ sM sM (hF.rely ok h5)
end
end Go.Mx
