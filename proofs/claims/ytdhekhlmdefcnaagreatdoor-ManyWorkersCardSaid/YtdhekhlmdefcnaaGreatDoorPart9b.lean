/- Part 9b of the proof. -/
import Derived.Test.YtdhekhlmdefcnaaGreatDoorPart9
import Derived.Test.YtdhekhlmdefcnaaGreatDoorPart8b
import Derived.Test.YtdhekhlmdefcnaaGreatDoorPart8e
set_option maxHeartbeats 16000000
set_option maxRecDepth 1000000
namespace Go.Proofs.YtdhekhlmdefcnaaGreatDoor
open Go.Proofs.Tryz Go.RowKit
section
variable {w:aa}{B:Nat}{x:fV}{L:Lay}{s:Sys}
def tK(G:Prop)(w:aa)(B:Nat)(x:fV)(L:Lay)(s':Sys)(e:Ending)(w':aa):Prop:=(∃v,e=.returned v/\(G->v=.nilIface))/\∃x',cF w' B x' L s'/\dx w w' x x'
theorem cF.ve(h:cF w B x L s):w.cell? ⟨x.g,6,none⟩=some (pT x.vb 0):=h.cell 6 _ rfl
theorem cF.vg(h:cF w B x L s){k:Nat}(hk:k<3):w.cell? ⟨x.g,3+k,none⟩=some (pT (x.rb k) 0):=h.cell (3+k) _ (by
 have:k=0\/k=1\/k=2:=oM;rcases this with rfl|rfl|rfl<;>rfl)
theorem cF.pq(h:cF w B x L s):∃A c,x.vw=.slice A s.way.length c/\w.cell? ⟨x.g,7,none⟩=some (.slice A s.way.length c):=by obtain⟨A,c,hv,_⟩:=ix h.way;exact⟨A,c,hv,by rw[<-hv];exact h.cell 7 _ rfl⟩
theorem Pe(h:cF w B x L s):Calls prog 101 #[pT x.g 0] w (xb w B x L (.tuple #[]) (pG s)):=by
 have c6:=h.ve;have hg:=h.has.lt;have HH:=hI h;clear h;go_enter func101,ntmps101;go_wp2_with (go_at_call 139;refine(OQ HH.out.vo).mono ?_;rintro e w' ⟨rfl,hv,ht⟩)
 go_end0;obtain⟨h1,h2⟩:=HH.out.Mo ht hv (.inl rfl);exact⟨rfl,_,h1,h2⟩
theorem JC(h:cF w B x L s):Calls prog 111 #[pT x.g 0] w λe w'=>e=.returned (.bool s.v.bO)/\w=w':=by
 have c6:=h.ve;have hg:=h.has.lt;have HH:=hI h;clear h;go_enter func111,ntmps111;go_wp2_with (go_at_call 148;refine(Jc HH.out.vo).mono ?_;rintro e w' ⟨rfl,rfl⟩)
 exact zgZ
theorem VV(h:cF w B x L s):Calls prog 109 #[pT x.g 0] w λe w'=>e=.returned (I (s.v.out:Int))/\w=w':=by
 have c6:=h.ve;have hg:=h.has.lt;have HH:=hI h;clear h;go_enter func109,ntmps109;go_wp2_with (go_at_call 146;refine(VC HH.out.vo).mono ?_;rintro e w' ⟨rfl,rfl⟩)
 exact zgZ
theorem Pf(h:cF w B x L s)(hw:s.v.trace.length<=1000):Calls prog 108 #[pT x.g 0] w λe w'=>e=.returned (I (fD s.v))/\∃q,w.drewN q=w':=by
 have c6:=h.ve;have hg:=h.has.lt;have HH:=hI h;clear h;go_enter func108,ntmps108;go_wp2_with (go_at_call 145;refine(OS HH.out.vo hw).mono ?_;rintro e w' ⟨rfl,q,rfl⟩)
 go_ret;exact⟨rfl,q,rfl⟩
theorem Pg(h:cF w B x L s)(hw:s.v.trace.length<=1000):Calls prog 113 #[pT x.g 0] w λe w'=>(∃vr,e=.returned vr/\w'.ownsRow w.heap.size 157 3 vr s.v.trace.length (gH s.v.trace))/\Below w.heap.size w w':=by
 have c6:=h.ve;have hg:=h.has.lt;have HH:=hI h;clear h;go_enter func113,ntmps113;go_wp2_with (go_at_call 151;refine(OW HH.out.vo hw).mono ?_;rintro e w' ⟨⟨vr,rfl,ho⟩,hb⟩)
 go_ret;exact⟨⟨_,rfl,ho⟩,hb⟩
theorem S8(h:cF w B x L s):Calls prog 103 #[pT x.g 0] w λe w'=>e=.returned (I (s.way.length:Int))/\w=w':=by obtain⟨A,c,_,c7⟩:=h.pq;have hg:=h.has.lt;clear h;go_enter func103,ntmps103;go_wp2;exact zgZ
theorem Pj(h:cF w B x L s)(hf:s.v.Wf):Calls prog 112 #[pT x.g 0,I 3] w (tK True w B x L {s with v:=eM s.v}):=by
 have c6:=h.ve;have hg:=h.has.lt;have HH:=hI h;have HF:=hI hf;clear h hf;go_enter func112,ntmps112;go_wp2_with (go_at_call 149;refine(Sn HH.out.vo HF.out).mono ?_;rintro e w' ⟨rfl,hv,ht⟩)
 go_ret;obtain⟨h1,h2⟩:=HH.out.Mo ht hv (.inl rfl);exact⟨⟨_,rfl,λ_=>rfl⟩,_,h1,h2⟩
theorem VW(h:cF w B x L s)(k:Nat)(hk:k<3)(a b:Int):Calls prog 107 #[pT x.g 0,I k,.agg #[I a,I b]] w (xb w B x L .nilIface (jI s k (a,b))):=by
 have hb:Below w.heap.size w (w.alloc (.cells #[I a,I b] 155)):=(Below.refl _ _).alloc (aj _) _;have h1:cF (w.alloc (.cells #[I a,I b] 155)) B x L s:=h.after hb;have ki:=Has.new w 155 #[I a,I b];have i0:=ki.aJ 0 (I a) rfl;have i1:=ki.aJ 1 (I b) rfl;have ck:=h1.vg hk;have hg:=h1.has.lt;have HH:=hI h1;have HB:=hI hb;have HK:=hI hk;have hki:(k:Int)<3:=oM;have HD:=hI (show decide (k<3)=true from zg7);clear h h1 hb ki;go_enter func107,ntmps107;go_upto_region 1 with(fail);generalize w.alloc (.cells #[I a,I b] 155)=w1 at*;go_upto_region 3 with(go_at_call 130;refine(nV k oM).mono ?_;rintro e w' ⟨rfl,rfl⟩;rw[HD.out])
 have HR:=hI (HH.out.after ((Below.refl _ _).drew));go_cut [] (λwx=>cF wx B x L (jI s k (a,b))/\dx w1 wx x x)
 case first=>
  go_region_with (go_at_call 144;refine(Vv (HR.out.fP k HK.out) a b).mono ?_;rintro e w' ⟨rfl,hr,ht⟩)
  all_goals
   obtain⟨h2,h3⟩:=HR.out.Gi HK.out ht hr;go_wp2_with fail;go_meet
   case rel=>exact⟨h2,(dx.of_below ((Below.refl _ _).drew)).trans h3⟩
 case rest=>obtain⟨h2,h3⟩:=hcut;have H4:=hI (And.intro h2 h3);clear h2 h3;go_wp2;go_ret;exact⟨rfl,x,H4.out.1,(dx.of_below HB.out).trans H4.out.2⟩
end
def cU(w w':aa):Prop:=∀g t cs,Has w g t cs->B5 t=false->Has w' g t cs
theorem cU.refl(w:aa):cU w w:=λ_ _ _ h _=>h
theorem cU.trans{a b c:aa}(h:cU a b)(h':cU b c):cU a c:=λg t cs k hn=>h' g t cs (h g t cs k hn) hn
theorem cU.below{w w':aa}(h:Below w.heap.size w w'):cU w w':=λ_ _ _ k _=>k.after h
def cN(w0:aa)(B:Nat)(x:fV)(L:Lay)(s:Sys)(w:aa):Prop:=∃x',cF w B x' L s/\dx w0 w x x'/\B<=w.heap.size
section
variable {w0 w w':aa}{B:Nat}{x:fV}{L:Lay}{s s':Sys}
theorem cN.start(h:cF w B x L s)(hB:B<=w.heap.size):cN w B x L s w:=⟨x,h,dx.refl w x,hB⟩
theorem cN.after(h:cN w0 B x L s w)(hb:Below w.heap.size w w'):cN w0 B x L s w':=by obtain⟨x',h1,h2,h3⟩:=h;exact⟨x',h1.after hb,h2.trans (dx.of_below hb),aS h3 hb.size⟩
theorem cF.stay{x':fV}(h:cF w B x L s)(hm:dx w w' x x'):cU w w':=λ_g _t _cs k hn=>k.fW hm.turned (λ_ hb=>h.mut hb) hn
theorem dx.size{x':fV}(h:dx w w' x x'):w.heap.size<=w'.heap.size:=h.turned.size
def gY(w0:aa)(B:Nat)(x:fV)(L:Lay)(w:aa)(V:ae->Prop)(s':Sys)(e:Ending)(w':aa):Prop:=(∃v,e=.returned v/\V v)/\cN w0 B x L s' w'/\cU w w'
theorem cN.next{x1 x2:fV}(h1:cF w B x1 L s)(hm:dx w0 w x x1)(hB:B<=w.heap.size)(h2:cF w' B x2 L s')(hm2:dx w w' x1 x2):cN w0 B x L s' w'/\cU w w':=
 ⟨⟨x2,h2,hm.trans hm2,aS hB hm2.size⟩,h1.stay hm2⟩
theorem sw{T:Nat}(h:cN w0 B x L s w)(hf:bL T s)(hT:T<=10000000000)(a b:Nat)(f:List Int)(hw:Wf f):
 Calls prog 132 #[pT x.g 0,I a,I b,.agg (aN f)] w (gY w0 B x L w (·=.tuple #[]) (di s a b f)):=by
 obtain⟨x1,h1,hm,hB⟩:=h;have hc:=Jx h1 hB hf.way (aS hf.lost hT) a b f hw;rw[hm.same]at hc;refine hc.mono ?_;rintro e w' ⟨he,x2,h2,hm2⟩;exact⟨⟨_,he,rfl⟩,cN.next h1 hm hB h2 hm2⟩
theorem VX(h:cN w0 B x L s w)(k:Nat)(hk:k<3)(a b:Int):
 Calls prog 107 #[pT x.g 0,I k,.agg #[I a,I b]] w (gY w0 B x L w (·=.nilIface) (jI s k (a,b))):=by
 obtain⟨x1,h1,hm,hB⟩:=h;have hc:=VW h1 k hk a b;rw[hm.same]at hc;refine hc.mono ?_;rintro e w' ⟨he,x2,h2,hm2⟩;exact⟨⟨_,he,rfl⟩,cN.next h1 hm hB h2 hm2⟩
theorem Pk(h:cN w0 B x L s w):Calls prog 101 #[pT x.g 0] w (gY w0 B x L w (λ_=>True) (pG s)):=by obtain⟨x1,h1,hm,hB⟩:=h;have hc:=Pe h1;rw[hm.same]at hc;refine hc.mono ?_;rintro e w' ⟨he,x2,h2,hm2⟩;exact⟨⟨_,he,trivial⟩,cN.next h1 hm hB h2 hm2⟩
theorem Ew(h:cN w0 B x L s w)(hf:s.v.Wf):Calls prog 112 #[pT x.g 0,I 3] w (gY w0 B x L w (·=.nilIface) {s with v:=eM s.v}):=by obtain⟨x1,h1,hm,hB⟩:=h;have hc:=Pj h1 hf;rw[hm.same]at hc;refine hc.mono ?_;rintro e w' ⟨⟨v,he,hn⟩,x2,h2,hm2⟩;exact⟨⟨_,he,hn trivial⟩,cN.next h1 hm hB h2 hm2⟩
theorem cN.fP(h:cN w0 B x L s w){k:Nat}(hk:k<3):∃gr gc,w.cell? ⟨x.g,3+k,none⟩=some (pT gr 0)/\cK w gr gc L (re s k)/\
 ∀(w':aa)(r:Re),Turned (λb=>b=gr) w w'->cK w' gr gc L r->cN w0 B x L {s with rs:=s.rs.set k r} w'/\cU w w':=by
 obtain⟨x1,h1,hm,hB⟩:=h;refine⟨x1.rb k,x1.cb k,by rw[<-hm.same];exact h1.vg hk,h1.fP k hk,λw' r ht hr=>?_⟩;obtain⟨h2,hm2⟩:=h1.Gi hk ht hr;exact cN.next h1 hm hB h2 hm2
theorem cN.lt(h:cN w0 B x L s w):x.g<w.heap.size:=by obtain⟨x1,h1,hm,hB⟩:=h;rw[<-hm.same];exact h1.has.lt
theorem zq{k:Nat}(hk:k<3):∃o0 o1,others k=[o0,o1]/\Ev k= #[I (o0:Nat),I (o1:Nat),I 0]/\o0<=3/\o1<=3:=by have:k=0\/k=1\/k=2:=oM;rcases this with rfl|rfl|rfl;exact⟨1,2,dC,rfl,dC,dC⟩;exact⟨0,2,dC,rfl,dC,dC⟩;exact⟨0,1,dC,rfl,dC,dC⟩
end
section
variable {w0 w:aa}{B:Nat}{x:fV}{L:Lay}{s:Sys}{T:Nat}
theorem zr(s:Sys)(a:Nat)(l:List Nat)(f:List Int)(k:Nat):re (sendAll s a l f) k=re s k:=YO (uC a f l s).1 k
theorem S9(h:cN w0 B x L s w)(hf:bL T s)(hT:T<=9999999990)(k:Nat)(hk:k<3):Calls prog 95 #[pT x.g 0,I k] w (gY w0 B x L w (·=.nilIface) (js s k)):=by
 have hg:=h.lt;have HH:=hI h;have HF:=hI hf;have HK:=hI hk;have hki:(k:Int)<3:=oM;have HD:=hI (show decide (k<3)=true from zg7);obtain⟨o0,o1,ho,hc,hl0,hl1⟩:=zq hk;have HO:=hI ho;have HC:=hI hc;clear h hf ho hc;go_enter func95,ntmps95;go_wp2_with (first
  |(go_at_call 130;refine(nV k oM).mono ?_;rintro e w' ⟨rfl,rfl⟩;rw[HD.out])
  |(go_at_call 131;refine(Ca k HK.out).mono ?_;rintro e wo ⟨⟨gO,rfl,hO⟩,Gl⟩;rw[HC.out]at hO;have H1:=hI (HH.out.after Gl);have S1:=hI (cU.below Gl)))
 clear HH Gl;go_loopw [14] (λi wr=>∃j:Nat,j<=2/\i=I j/\Hid (cN w0 B x L (sendAll s k ([o0,o1].take j) (asks (re s k))) wr)/\Has wr gO 3 #[I (o0:Nat),I (o1:Nat),I 0]/\Hid (cU w wr)) (λi _=>2-(intOf i).toNat)
 case atStart=>exact⟨0,oM,rfl,H1,hO,S1⟩
 case round=>
  clear H1 hO S1;obtain⟨j,hj,rfl,HI,hO,HS⟩:=hrel;have hjc:j=0\/j=1\/j=2:=oM;clear hj;rcases hjc with rfl|rfl|rfl
  ·have c0:=hO.aJ 0 (I (o0:Nat)) rfl;have Mq:=hI hO;have hgx:=HI.out.lt;obtain⟨gr,gc,c3,hr,_⟩:=HI.out.fP HK.out;rw[zr]at hr;have HR:=hI hr;have qO:Hid (bL T (sendAll s k ([o0,o1].take 0) (asks (re s k)))):=HF;clear hr hO;go_wp2_with (first
    |(go_at_call 133;refine(rU HR.out).mono ?_;rintro e wa ⟨rfl,hba⟩;have HI2:=hI (HI.out.after hba);have gq:=hI (Mq.out.after hba);have HS2:=hI (HS.out.trans (cU.below hba)))
    |(go_at_call 132;refine(sw HI2.out qO.out oM k o0 (asks (re s k)) (xd (HF.out.fits k HK.out))).mono ?_;rintro e wb ⟨⟨v,rfl,rfl⟩,hin2,dD⟩;have HI3:=hI hin2;have lL:=hI (dD _ _ _ gq.out dC);have ui:=hI (HS2.out.trans dD)))
   go_roundw
   case rel=>exact⟨1,oM,rF,HI3,lL.out,ui⟩
   case measure=>simp[intOf]
  ·have c0:=hO.aJ 1 (I (o1:Nat)) rfl;have Mq:=hI hO;have hgx:=HI.out.lt;obtain⟨gr,gc,c3,hr,_⟩:=HI.out.fP HK.out;rw[zr]at hr;have HR:=hI hr;have qO:Hid (bL (T+1) (sendAll s k ([o0,o1].take 1) (asks (re s k)))):=hI (HF.out.send _ oM hl0);clear hr hO;go_wp2_with (first
    |(go_at_call 133;refine(rU HR.out).mono ?_;rintro e wa ⟨rfl,hba⟩;have HI2:=hI (HI.out.after hba);have gq:=hI (Mq.out.after hba);have HS2:=hI (HS.out.trans (cU.below hba)))
    |(go_at_call 132;refine(sw HI2.out qO.out oM k o1 (asks (re s k)) (xd (HF.out.fits k HK.out))).mono ?_;rintro e wb ⟨⟨v,rfl,rfl⟩,hin2,dD⟩;have HI3:=hI hin2;have lL:=hI (dD _ _ _ gq.out dC);have ui:=hI (HS2.out.trans dD)))
   go_roundw
   case rel=>exact⟨2,oM,rF,HI3,lL.out,ui⟩
   case measure=>simp[intOf]
  ·go_wp2;go_ret;refine⟨⟨_,rfl,rfl⟩,?_,HS.out⟩;unfold js;rw[HO.out];exact HI.out
def JD(w:aa)(a b:List Int):aa:=(((w.alloc (.cells (aN aQ) 214)).alloc (.cells (aN aQ) 214)).setRow w.heap.size (aN a)).setRow (w.heap.size+1) (aN b)
theorem Pm(w:aa)(a b:List Int):Has (JD w a b) w.heap.size 214 (aN a)/\Has (JD w a b) (w.heap.size+1) 214 (aN b)/\Below w.heap.size w (JD w a b):=by have k0:=(Has.new w 214 (aN aQ)).alloc (.cells (aN aQ) 214);have k1:=Has.new' (w.alloc (.cells (aN aQ) 214)) 214 (aN aQ) (w.heap.size+1) sM;have hb:Below w.heap.size w ((w.alloc (.cells (aN aQ) 214)).alloc (.cells (aN aQ) 214)):=((Below.refl _ _).alloc (aj _) _).alloc sM _;refine⟨?_,(k1.ij oM _).setRow _,below_setRow (below_setRow hb (aj _) _) oM _⟩;exact(k0.setRow _).ij oM _
theorem JE(h:cN w0 B x L s w)(hf:bL T s)(hL:L.Ok)(hT:T<=9999999990)(k:Nat)(hk:k<3):Calls prog 112 #[pT x.g 0,I k] w (gY w0 B x L w (·=.nilIface) (gA L s k)):=by
 have hg:=h.lt;have HH:=hI h;have HF:=hI hf;have HK:=hI hk;have hki:(k:Int)<3:=oM;have hk3:((k:Int)==3)=false:=by simpa using(oM:¬(k:Int)=3)
 have HD:=hI (show decide (k<3)=true from zg7);obtain⟨o0,o1,ho,hc,hl0,hl1⟩:=zq hk;have HC:=hI hc;obtain⟨gr,gc,c3,hr,hup⟩:=h.fP hk;have hwf:=S4 hL (hf.fits k hk);have hfit:=uZ hL (hf.fits k hk);have hcall:=R6 hr hL T oM (hI (hf.fits k hk));unfold lT at hcall;have hE:gA L s k=(if(ea L (re s k)).2.2.2 then di (sendAll {s with rs:=s.rs.set k (ea L (re s k)).1} k (others k) (ea L (re s k)).2.1) k 3 (ea L (re s k)).2.2.1 else sendAll {s with rs:=s.rs.set k (ea L (re s k)).1} k (others k) (ea L (re s k)).2.1):=rfl;rw[ho]at hE;generalize ea L (re s k)=R at*;obtain⟨q,fa,fb,ok⟩:=R;dsimp only at hwf hfit hcall hE;have HE:=hI hE;have vh:=hI hcall;have HW:=hI hwf;have Dh:=hI (hf.yt hk hfit oM);have HU:=hI hup;have hsa:Hid ((prog.info? 214).map (·.size)=some (aN fa).size):=hI (by rw[cY _ hwf.1.1];exact dh);have hsb:Hid ((prog.info? 214).map (·.size)=some (aN fb).size):=hI (by rw[cY _ hwf.2.1];exact dh);have hza:Hid ((aN aQ).size=(aN fa).size):=hI (by rw[cY _ hwf.1.1];rfl);have hzb:Hid ((aN aQ).size=(aN fb).size):=hI (by rw[cY _ hwf.2.1];rfl);clear h hf ho hc hwf hfit hcall hE hup hr;go_enter func112,ntmps112;go_upto_region 6 with(first
  |(go_at_call 130;refine(nV k oM).mono ?_;rintro e w' ⟨rfl,rfl⟩;rw[HD.out])
  |(go_at_call 150;refine vh.out.mono ?_;rintro e wt ⟨rfl,hrt,htt⟩;have H1:=hI (HU.out wt q htt hrt);clear hrt htt)
  |(rw[<-gy];refine wpList_store_row rfl 214 (.tmp 5) (.tmp 30) rfl wt.heap.size (aN fa) rfl rfl 214 (aN aQ) ((Has.new wt 214 (aN aQ)).alloc _) hsa.out hza.out (dZ _) ?_)
  |(refine wpList_store_row rfl 214 (.tmp 6) (.tmp 31) rfl (wt.heap.size+1) (aN fb) rfl rfl 214 (aN aQ) ((Has.new' (wt.alloc (.cells (aN aQ) 214)) 214 (aN aQ) (wt.heap.size+1) sM).ij oM _) hsb.out hzb.out (dZ _) ?_))
 have h5:=Pm wt fa fb;change Code.wp _ _ _ _ (JD wt fa fb);generalize JD wt fa fb=w5 at*;obtain⟨k5,k6,hb5⟩:=h5;have H2:Hid (cN w0 B x L {s with rs:=s.rs.set k q} w5):=hI (H1.out.1.after hb5);have S2:=hI (H1.out.2.trans (cU.below hb5));generalize hG:wt.heap.size=g5 at*;clear hG hb5 H1 HU c3 vh;go_wp2_with (go_at_call 131;refine(Ca k HK.out).mono ?_;rintro e wo ⟨⟨gO,rfl,hO⟩,Gl⟩;rw[HC.out]at hO;have H3:=hI (H2.out.after Gl);have S3:=hI (S2.out.trans (cU.below Gl));have K5:=hI (k5.after Gl);have K6:=hI (k6.after Gl))
 clear H2 S2 Gl k5 k6;go_loopw [36] (λi wr=>∃j:Nat,j<=2/\i=I j/\Hid (cN w0 B x L (sendAll {s with rs:=s.rs.set k q} k ([o0,o1].take j) fa) wr)/\Has wr gO 3 #[I (o0:Nat),I (o1:Nat),I 0]/\Has wr g5 214 (aN fa)/\Has wr (g5+1) 214 (aN fb)/\Hid (cU w wr)) (λi _=>2-(intOf i).toNat)
 case atStart=>exact⟨0,oM,rfl,H3,hO,K5.out,K6.out,S3⟩
 case round=>
  clear H3 hO S3 K5 K6;obtain⟨j,hj,rfl,HI,hO,k5,k6,HS⟩:=hrel;have hjc:j=0\/j=1\/j=2:=oM;clear hj;rcases hjc with rfl|rfl|rfl
  ·have c0:=hO.aJ 0 (I (o0:Nat)) rfl;have Mq:=hI hO;have hgx:=HI.out.lt;have YP:=hI k5;have VY:=hI k6;have qO:Hid (bL (T+1) (sendAll {s with rs:=s.rs.set k q} k ([o0,o1].take 0) fa)):=Dh;clear hO k6;go_wp2_with (first
    |(refine wpList_load_row rfl 214 (.tmp 5) rfl g5 rfl 214 (aN fa) (0,0) _ k5 underlying214 rfl hsa.out ?_)
    |(go_at_call 132;refine(sw HI.out qO.out oM k o0 fa HW.out.1).mono ?_;rintro e wb ⟨⟨v,rfl,rfl⟩,hin2,dD⟩;have HI3:=hI hin2;have lL:=hI (dD _ _ _ Mq.out dC);have YQ:=hI (dD _ _ _ YP.out dC);have YR:=hI (dD _ _ _ VY.out dC);have ui:=hI (HS.out.trans dD)))
   go_roundw
   case rel=>exact⟨1,oM,rF,HI3,lL.out,YQ.out,YR.out,ui⟩
   case measure=>simp[intOf]
  ·have c0:=hO.aJ 1 (I (o1:Nat)) rfl;have Mq:=hI hO;have hgx:=HI.out.lt;have YP:=hI k5;have VY:=hI k6;have qO:Hid (bL (T+2) (sendAll {s with rs:=s.rs.set k q} k ([o0,o1].take 1) fa)):=hI (Dh.out.send fa oM hl0);clear hO k6;go_wp2_with (first
    |(refine wpList_load_row rfl 214 (.tmp 5) rfl g5 rfl 214 (aN fa) (0,0) _ k5 underlying214 rfl hsa.out ?_)
    |(go_at_call 132;refine(sw HI.out qO.out oM k o1 fa HW.out.1).mono ?_;rintro e wb ⟨⟨v,rfl,rfl⟩,hin2,dD⟩;have HI3:=hI hin2;have lL:=hI (dD _ _ _ Mq.out dC);have YQ:=hI (dD _ _ _ YP.out dC);have YR:=hI (dD _ _ _ VY.out dC);have ui:=hI (HS.out.trans dD)))
   go_roundw
   case rel=>exact⟨2,oM,rF,HI3,lL.out,YQ.out,YR.out,ui⟩
   case measure=>simp[intOf]
  ·have qO:Hid (bL (T+3) (sendAll {s with rs:=s.rs.set k q} k [o0,o1] fa)):=hI ((Dh.out.send fa oM hl0).send fa oM hl1);have VY:=hI k6;have HI2:Hid (cN w0 B x L (sendAll {s with rs:=s.rs.set k q} k [o0,o1] fa) wr):=HI;clear hO k5 HI;cases ok with
   |false=>go_wp2;go_ret;refine⟨⟨_,rfl,rfl⟩,?_,HS.out⟩;rw[HE.out];exact HI2.out
   |true=>
    go_wp2_with (first
     |(refine wpList_load_row rfl 214 (.tmp 6) rfl (g5+1) rfl 214 (aN fb) (0,0) _ k6 underlying214 rfl hsb.out ?_)
     |(go_at_call 132;refine(sw HI2.out qO.out oM k 3 fb HW.out.2).mono ?_;rintro e wb ⟨⟨v,rfl,rfl⟩,hin2,dD⟩;have HI3:=hI hin2;have ui:=hI (HS.out.trans dD)))
    go_ret;refine⟨⟨_,rfl,rfl⟩,?_,ui.out⟩;rw[HE.out];exact HI3.out
end
section
variable {w0 w w1:aa}{B:Nat}{x:fV}{L:Lay}{s:Sys}{T:Nat}
theorem Ex:∀(l:List ku)(vs:List ae),(∀v∈vs,v.oneCell'=true)->∀u∈fE l vs,u.oneCell'=true
 |[],_,_,u,hu=>by simp[fE]at hu
 |_::_,[],_,u,hu=>by simp[fE]at hu
 |g::l,v::vs,h,u,hu=>by rcases List.mem_cons.1 hu with rfl|hu;rfl;rcases List.mem_cons.1 hu with rfl|hu;rfl;rcases List.mem_cons.1 hu with rfl|hu;exact h _ (List.mem_cons_self ..);exact Ex l vs (λv hv=>h v (List.mem_cons_of_mem _ hv)) u hu
theorem cF.ones(h:cF w B x L s):∀u∈fE s.way x.vs,u.oneCell'=true:=Ex _ _ λv hv=>by
 obtain⟨i,hi,e⟩:=List.getElem_of_mem hv;have hi2:i<s.way.length:=by rw[<-h.len];exact hi
 obtain⟨A,c,hvv,_⟩:=h.bytes i s.way[i] v (bg hi2) (by rw[bg hi,e]);rw[hvv];rfl
theorem JF(l:List ku)(vs:List ae)(i:Nat)(h:vs.length=l.length):(fE l vs).take (i*3)++(fE l vs).drop ((i+1)*3)=fE (l.eraseIdx i) (vs.eraseIdx i):=by rw[B7 _ _ _ h,B6 _ _ _ h,<-Er _ _ _ _ (by rw[List.length_take,List.length_take,h]),List.eraseIdx_eq_take_drop_succ,List.eraseIdx_eq_take_drop_succ]
theorem cF.erase(h:cF w B x L s){i:Nat}(hi:i<s.way.length){v':ae}(hb:v'.ownBlock=x.vw.ownBlock)
 (ho:w1.ownsRow B 217 3 v' (s.way.length-1) ((fE s.way x.vs).take (i*3)++(fE s.way x.vs).drop ((i+1)*3)))(ht:Turned (λb=>x.vw.ownBlock=some b) w w1):
 cF (w1.setCell ⟨x.g,7,none⟩ v') B {x with vw:=v',vs:=x.vs.eraseIdx i} L {s with way:=s.way.eraseIdx i}/\dx w (w1.setCell ⟨x.g,7,none⟩ v') x {x with vw:=v',vs:=x.vs.eraseIdx i}:=by
 have hx1:Has w1 x.g 121 (Gh x L s):=h.has.turned ht (λe=>dz h.way h.has dC e);have htt:Turned (λb=>b=x.g\/x.vw.ownBlock=some b) w (w1.setCell ⟨x.g,7,none⟩ v'):=(ht.mono λb _ e=>.inr e).setCell _ _ (.inl (.inl rfl));have hF:∀b,(b=x.g\/x.vw.ownBlock=some b)->wY w b:=λb e=>h.mut (e.elim .inl λe=>.inr (.inr (.inr e)));have hi':i<x.vs.length:=by rw[h.len];exact hi
 refine h.Gj (Jv:=v') (vs':=x.vs.eraseIdx i) (xa:=s.way.eraseIdx i) (lost':=s.lost) htt (hx1.set 7 v') ?_ ?_ (λb hb'=>.inl (by rw[<-hb];exact hb')) (λj gm v e1 e2=>?_);have:=ew ho hx1 dC 7 v';rw[JF _ _ _ h.len]at this;rw[List.length_eraseIdx_of_lt hi];exact this;rw[List.length_eraseIdx_of_lt hi,List.length_eraseIdx_of_lt hi',h.len];rw[List.getElem?_eraseIdx]at e1 e2;split at e1;rename_i hlt;rw[if_pos hlt]at e2;exact(h.bytes _ _ _ e1 e2).fW htt hF;rename_i hlt;rw[if_neg hlt]at e2;exact(h.bytes _ _ _ e1 e2).fW htt hF
theorem Ta(h:cF w B x L s)(i:Nat)(hi:i<s.way.length\/s.way.length=0)(aaR:s.way.length<=120):Calls prog 102 #[pT x.g 0,I i] w (tK (i<s.way.length) w B x L (iU s i)):=by
 obtain⟨A,c,hv,c7⟩:=h.pq;have hg:=h.has.lt;have HH:=hI h;have HV:=hI hv;rcases hi with hi|h0
 ·have hii:¬s.way.length<=i:=by omega
  have ho:=h.way;rw[hv]at ho;have HC:=hI (Et ho h.ones i hi);have f7:=h.has.free 7;have HI:=hI hi;clear h hv ho hi;go_enter func102,ntmps102;go_wp2_with (go_at_call 135;refine HC.out.mono ?_;rintro e w1 ⟨⟨v',rfl,hb,ho⟩,ht⟩;obtain⟨A',c',rfl,-,-,-,-⟩:=ix ho;rw[<-HV.out]at hb ht;have HE:=hI (HH.out.erase HI.out hb ho ht);have hx1:Has w1 x.g 121 (Gh x L s):=HH.out.has.turned ht (λe=>dz HH.out.way HH.out.has dC e);have d7:=hx1.aJ 7 _ rfl;have g7:=hx1.free 7;clear hb ho ht hx1)
  go_ret;exact⟨⟨_,rfl,λ_=>rfl⟩,_,HE.out⟩
 ·have hii:s.way.length<=i:=by omega
  have HE:Hid (iU s i=s):=hI (by
   unfold iU;rw[List.eraseIdx_of_length_le hii])
  clear h hv;go_enter func102,ntmps102;exact zg1
theorem Tb(h:cN w0 B x L s w)(hf:bL T s)(i:Nat)(hi:i<s.way.length\/s.way.length=0):Calls prog 102 #[pT x.g 0,I i] w (gY w0 B x L w (λv=>i<s.way.length->v=.nilIface) (iU s i)):=by obtain⟨x1,h1,hm,hB⟩:=h;have hc:=Ta h1 i hi hf.way;rw[hm.same]at hc;refine hc.mono ?_;rintro e w' ⟨⟨v,he,hn⟩,x2,h2,hm2⟩;exact⟨⟨_,he,hn⟩,cN.next h1 hm hB h2 hm2⟩
end
theorem Pn(k gc:Nat):(#[I (k:Int),pT gc 0,I 0,I 0,I 0,I 0,I 0,I 0,I 0,I 0,I 0,I 0,I 0,I 0,I 0,I 0,I 0,I 0,I 0,I 0,I 0,I 0,I 0,I 0,I 0,I 0,I 0,I 0,.bool false,.bool false,.bool false,I 0,I 0,I 0,I 0,I 0,I 0,I 0,I 0,I 0,I 0,I 0,I 0,I 0,I 0,I 0,I 0,I 0,I 0,I 0,I 0,I 0,.bool false,I 0,I 0,I 0,I 0,I 0,I 0,I 0,I 0,I 0,I 0,I 0,I 0,I 0,I 0,I 0,I 0,I 0,I 0,.bool false,I 0,I 0,I 0,I 0,I 0,I 0,I 0,I 0,I 0,I 0,I 0,I 0,I 0,I 0,I 0,I 0,I 0,I 0,.bool false,I 0,I 0]:bw)=cellsOf 93 (dK (Re.new k) gc):=by unfold cellsOf;congr 1
def Tc(w:aa)(L:Lay)(r:Re)(e:Ending)(w':aa):Prop:=
 (∃g gc,w.heap.size<=g/\e=.returned (.tuple #[pT g 0,.nilIface])/\cK w' g gc L r)/\Below w.heap.size w w'
theorem NE(k:Nat)(hk:k<3)(A:Option Addr)(n c:Nat)(L:Lay)(w:aa)(hL:L.Ok)(mC:Hid (L.routes.length=n))(hc:n<=c)(hr:Reads w w.heap.size A (ints (zs L.routes))):
 Calls prog 62 #[I (k:Int),.agg #[I L.secs,.slice A n c,I L.delay]] w (Tc w L (Re.new k)):=by
 have hb1:Below w.heap.size w (w.alloc (.cells #[I L.secs,.slice A n c,I L.delay] 51)):=(Below.refl _ _).alloc (aj _) _;have k0:=Has.new w 51 #[I L.secs,.slice A n c,I L.delay];have hr1:=hr.below hb1;clear hr;go_enter func62,ntmps62;go_upto_region 1 with fail;generalize w.alloc (.cells #[I L.secs,.slice A n c,I L.delay] 51)=w1 at*;have hl:=k0.lt;generalize hG:w.heap.size=g0 at*;have HG:=hI hG;clear hG;have c0:=k0.aJ 0 _ rfl;have c1:=k0.aJ 1 _ rfl;have c2:=k0.aJ 2 _ rfl;have HC:Hid (Calls prog 91 #[.agg #[I L.secs,.slice A n c,I L.delay]] w1 λe w'=>(∃g,w1.heap.size<=g/\e=.returned (.tuple #[pT g 0,.nilIface])/\fJ w' g L)/\Below w1.heap.size w1 w'):=hI (Vl A n c L w1 hL mC hc (hr1.more (bA hl)));go_upto_region 6 with(go_at_call 91;refine HC.out.mono ?_;rintro e w2 ⟨⟨gc,hgc,rfl,hca⟩,hb2⟩)
 clear c0 c1 c2 HC;have hb3:Below g0 w w2:=hb1.trans (hb2.mono oM);have hg2:=hb2.size;have HX:=hI (Pn k gc);have HN:=Has.new w2 176 #[I (k:Int),pT gc 0,I 0,I 0,I 0,I 0,I 0,I 0,I 0,I 0,I 0,I 0,I 0,I 0,I 0,I 0,I 0,I 0,I 0,I 0,I 0,I 0,I 0,I 0,I 0,I 0,I 0,I 0,.bool false,.bool false,.bool false,I 0,I 0,I 0,I 0,I 0,I 0,I 0,I 0,I 0,I 0,I 0,I 0,I 0,I 0,I 0,I 0,I 0,I 0,I 0,I 0,I 0,.bool false,I 0,I 0,I 0,I 0,I 0,I 0,I 0,I 0,I 0,I 0,I 0,I 0,I 0,I 0,I 0,I 0,I 0,I 0,.bool false,I 0,I 0,I 0,I 0,I 0,I 0,I 0,I 0,I 0,I 0,I 0,I 0,I 0,I 0,I 0,I 0,I 0,I 0,.bool false,I 0,I 0];rw[HX.out]at HN;have hb4:Below w2.heap.size w2 (w2.alloc (.cells #[I (k:Int),pT gc 0,I 0,I 0,I 0,I 0,I 0,I 0,I 0,I 0,I 0,I 0,I 0,I 0,I 0,I 0,I 0,I 0,I 0,I 0,I 0,I 0,I 0,I 0,I 0,I 0,I 0,I 0,.bool false,.bool false,.bool false,I 0,I 0,I 0,I 0,I 0,I 0,I 0,I 0,I 0,I 0,I 0,I 0,I 0,I 0,I 0,I 0,I 0,I 0,I 0,I 0,I 0,.bool false,I 0,I 0,I 0,I 0,I 0,I 0,I 0,I 0,I 0,I 0,I 0,I 0,I 0,I 0,I 0,I 0,I 0,I 0,.bool false,I 0,I 0,I 0,I 0,I 0,I 0,I 0,I 0,I 0,I 0,I 0,I 0,I 0,I 0,I 0,I 0,I 0,I 0,.bool false,I 0,I 0] 176)):=(Below.refl _ _).alloc (aj _) _;have HN':=hI HN;have hb5:=hb3.trans (hb4.mono oM);have VZ:=hI hb5;have HCA:=hI (hca.after hb4);clear HN hb4 hca hb5;go_wp2_with fail;go_ret2;exact⟨⟨_,gc,by rw[HG.out];omega,rfl,HN'.out,HCA.out⟩,HG.out▸VZ.out⟩
section
variable {w0 w w1:aa}{B:Nat}{x:fV}{L:Lay}{s:Sys}{T:Nat}
structure V0(w:aa)(x:fV)(s:Sys)(i:Nat)(g:ku)(gw c:Nat)(v:ae):Prop where
 get:s.way[i]?=some g
 vw:x.vw=.slice (some ⟨gw,0,none⟩) s.way.length c
 le:s.way.length<=c
 c0:w.cell? ⟨gw,i*3,none⟩=some (I g.src)
 c1:w.cell? ⟨gw,i*3+1,none⟩=some (I g.dst)
 c2:w.cell? ⟨gw,i*3+2,none⟩=some v
 bytes:nU w v g.bytes
theorem cF.mJ(h:cF w B x L s){i:Nat}(hi:i<s.way.length):∃g gw c v,V0 w x s i g gw c v:=by
 have hi':i<x.vs.length:=by rw[h.len];exact hi
 have e1:s.way[i]?=some s.way[i]:=bg hi;have e2:x.vs[i]?=some x.vs[i]:=bg hi';obtain⟨a0,a1,a2⟩:=Ep _ _ _ _ _ e1 e2;have ho:=h.way;rcases ho.2 with⟨_,hn⟩|⟨g,cap,cur,hv,_,hh,hc,_,_,ht⟩;omega
 ·have kg:Has w g 217 cur:=hh;have get:∀j u,j<s.way.length*3->(fE s.way x.vs)[j]?=some u->w.cell? ⟨g,j,none⟩=some u:=λj u hj hu=>by rw[<-ht,List.getElem?_take,if_pos hj]at hu;rw[kg.cell];simpa using hu
  exact⟨_,g,cap,_,e1,hv,hc,get _ _ oM a0,get _ _ oM a1,get _ _ oM a2,h.bytes _ _ _ e1 e2⟩
theorem Po(h:cF w B x L s)(hB:B<=w.heap.size)(hf:bL T s)(hT:T<=9999999990)(i:Nat)(hi:i<s.way.length\/s.way.length=0):Calls prog 115 #[pT x.g 0,I i] w (tK (i<s.way.length) w B x L (eI s i)):=by
 obtain⟨A,c,hv,c7⟩:=h.pq;have hg:=h.has.lt;have HH:=hI h;have HF:=hI hf;rcases hi with hi|h0
 ·have hii:¬s.way.length<=i:=by omega
  obtain⟨gm,gw,c',v,hgm⟩:=h.mJ hi;have YS:A=some ⟨gw,0,none⟩/\c=c':=by exact zg5
  obtain⟨rfl,rfl⟩:=YS;have HE:Hid (eI s i=iq s gm):=hI (by unfold eI;rw[hgm.get]);have aaS:=hI (HF.out.mJ gm (aR hgm.get)).2.2;have g0:=hgm.c0;have g1:=hgm.c1;have g2:=hgm.c2;have yq:v.oneCell'=true:=by obtain⟨A2,c2,rfl,_⟩:=hgm.bytes;rfl
  obtain⟨A2,c2,hv2,hc2,hrd⟩:=hgm.bytes.reads;subst hv2;have HB2:=hI hgm.bytes;have V1:=hI hrd;have hgw:=HH.out.has;have hib:i+1<=s.way.length:=hi;clear h hf hv hgm hrd hgw hi;go_enter func115,ntmps115;go_upto_region 4 with(fail);have kb:=Has.new w 217 #[I gm.src,I gm.dst,.slice A2 gm.bytes.length c2];have qN:Below w.heap.size w (w.alloc (.cells #[I gm.src,I gm.dst,.slice A2 gm.bytes.length c2] 217)):=(Below.refl _ _).alloc (aj _) _;have hszA:(w.alloc (.cells #[I gm.src,I gm.dst,.slice A2 gm.bytes.length c2] 217)).heap.size=w.heap.size+1:=sM;generalize w.alloc (.cells #[I gm.src,I gm.dst,.slice A2 gm.bytes.length c2] 217)=wA at*;generalize hG:w.heap.size=gb at*;have HG:=hI hG;have vh:=hI (Pb (w:=wA) A2 gm.bytes.length c2 gm.bytes rfl (by have:=aaS.out;omega) (V1.out.below qN|>.more oM));have Pp:=hI qN;have hb2:=kb.aJ 2 _ rfl;have hgl:=kb.lt;clear g0 g1 g2 c7 qN hG V1 hg;go_wp2_with (first
   |(go_at_call 153;refine vh.out.mono ?_;rintro e wB ⟨⟨v',rfl,ho⟩,YT⟩;have kB:=kb.after YT;have d0:=kB.aJ 0 _ rfl;have d1:=kB.aJ 1 _ rfl;have d2:=kB.aJ 2 _ rfl;have f2:=kB.free 2;have HO:=hI (nU.NA ho);obtain⟨A',c',rfl,-,-,-,-⟩:=ix ho;have abm:=kB.lt;have KB:=hI kB;have HBB:=hI YT;clear ho YT kB kb hb2)
   |(
    go_at_call 154;have hbC:=Pp.out.trans (HBB.out.mono (oM:gb<=wA.heap.size));have hbD:Below gb w (wB.setCell ⟨gb,2,none⟩ (.slice A' gm.bytes.length c')):=hbC.setCell (aj _) _;have Td:=hI hbD;have HY:cF (wB.setCell ⟨gb,2,none⟩ (.slice A' gm.bytes.length c')) B x L s:=HH.out.after (by rw[HG.out];exact hbD);have HV:nU (wB.setCell ⟨gb,2,none⟩ (.slice A' gm.bytes.length c')) (.slice A' gm.bytes.length c') gm.bytes:=HO.out.keep λg cs hh=>hh.far (hh.ne KB.out dC) _;refine(NC HY (by have:=hbD.size;rw[HG.out]at this;omega) HF.out.way (aS HF.out.lost oM) gm _ HV).mono ?_;rintro e wE ⟨rfl,x2,hy2,hm2⟩;have HP:=hI (And.intro hy2 hm2);clear hy2 hm2 HY HV hbC hbD))
  go_ret;refine⟨⟨_,rfl,λ_=>rfl⟩,x2,by rw[HE.out];exact HP.out.1,(dx.of_below (by rw[HG.out];exact Td.out)).trans HP.out.2⟩
 ·have hii:s.way.length<=i:=by omega
  have HE:Hid (eI s i=s):=hI (by
   unfold eI;rw[bV hii])
  clear h hv hf;go_enter func115,ntmps115;exact zg1
def upd(f:Nat->Nat)(k v:Nat)(j:Nat):Nat:=if j=k then v else f j
theorem cF.pp(h:cF w B x L s)(hB:B<=w.heap.size){k:Nat}(hk:k<3)(hb:Below w.heap.size w w1){gr gc:Nat}(hgr:w.heap.size<=gr){r:Re}(hr:cK w1 gr gc L r):
 cF (w1.setCell ⟨x.g,3+k,none⟩ (pT gr 0)) B {x with rb:=upd x.rb k gr,cb:=upd x.cb k gc} L {s with rs:=s.rs.set k r}/\
 dx w (w1.setCell ⟨x.g,3+k,none⟩ (pT gr 0)) x {x with rb:=upd x.rb k gr,cb:=upd x.cb k gc}:=by
 have h1:=h.after hb;have ht:Turned (λb=>b=x.g) w1 (w1.setCell ⟨x.g,3+k,none⟩ (pT gr 0)):=(Turned.refl _ _).setCell _ _ (.inl rfl);have hF:∀b,b=x.g->wY w1 b:=λb e=>h1.mut (.inl e);have hset:=h1.has.set (3+k) (pT gr 0);have hcells:(Gh x L s).setIfInBounds (3+k) (pT gr 0)=Gh {x with rb:=upd x.rb k gr,cb:=upd x.cb k gc} L {s with rs:=s.rs.set k r}:=by exact zg0
 rw[hcells]at hset;have hlt:∀j,j<3->x.rb j<w.heap.size:=λj hj=>(h.fP j hj).has.lt;refine⟨⟨hset,abr h1.routes ht hF dC,by simp[h1.n3],λj hj=>?_,λi j hi hj e=>?_,h1.vo.turned ht ?_,iF h1.way ht (λq hq e=>dz h1.way h1.has dC (by rw[hq,e])),h1.len,λi gm v e1 e2=>(h1.bytes i gm v e1 e2).fW ht hF,h1.low,λj hj=>?_⟩,⟨(Turned.of_below hb _).trans ht λb _ e=>.inl e,λb hf=>?_,rfl⟩⟩;rw[B9 h1.n3 hk];show cK _ (upd x.rb k gr j) (upd x.cb k gc j) L _;unfold upd;by_cases e:j=k;subst e;rw[if_pos rfl,if_pos rfl,if_pos rfl];exact hr.fW ht hF λe=>hr.has.ne h1.has dC e;rw[if_neg e,if_neg e,if_neg e];exact(h1.fP j hj).fW ht hF λe2=>(h1.fP j hj).has.ne h1.has dC e2;change upd x.rb k gr i=upd x.rb k gr j at e;unfold upd at e;have hi':=hlt i hi;have hj':=hlt j hj;split at e;split at e;omega;omega;split at e;omega;exact h1.apart i j hi hj e;rintro b (rfl|hb') e;exact h1.vo.has.ne h1.has dC e;exact dz h1.vo.own h1.has dC (by rw[hb',e]);show B<=upd x.rb k gr j;unfold upd;split;omega;exact h1.uD j hj;rcases hf with e|⟨j,hj,e⟩|e|e;exact .inl (.inl e);change b=upd x.rb k gr j at e;unfold upd at e;split at e;exact .inr oM;exact .inl (.inr (.inl ⟨j,hj,e⟩));exact .inl (.inr (.inr (.inl e)));exact .inl (.inr (.inr (.inr e)))
theorem Pq(h:cF w B x L s)(hB:B<=w.heap.size)(hL:L.Ok)(k:Nat)(hk:k<3):Calls prog 99 #[pT x.g 0,I k] w (tK True w B x L (iz s k)):=by
 have hg:=h.has.lt;have HH:=hI h;have HK:=hI hk;have Te:=hI hB;have hki:(k:Int)<3:=oM;have hk1:k<=1000:=oM;have HD:=hI (show decide (k<3)=true from zg7);obtain⟨A,c,ub,hc,hl,hrd⟩:=dQ h.routes;have c0:=h.cell 0 (I L.secs) rfl;have c1:w.cell? ⟨x.g,1,none⟩=some (.slice A L.routes.length c):=by rw[<-ub];exact h.cell 1 x.vr rfl
 have c2:=h.cell 2 (I L.delay) rfl;have HDR:=hI (h.after ((Below.refl _ _).drew));have vh:=hI (NE k hk A L.routes.length c L w.drew hL (hI rfl) hc hrd);clear h ub hl hrd hk hB;go_enter func99,ntmps99;go_upto_region 3 with(go_at_call 130;refine(nV k hk1).mono ?_;rintro e w' ⟨rfl,rfl⟩;rw[HD.out])
 go_cut [] (λwx=>Hid (∃x2,cF wx B x2 L (iz s k)/\dx w wx x x2))
 case first=>
  go_region_with (go_at_call 62;refine vh.out.mono ?_;rintro e wn ⟨⟨gr,gc,hgr,rfl,hr⟩,hb⟩;have dk:=(HDR.out.after hb).vg HK.out;have fk:=(HDR.out.after hb).has.free (3+k);have HEE:=hI (HDR.out.pp Te.out HK.out hb hgr hr);clear hgr hr hb)
  all_goals
   go_wp2_with fail;go_meet
   case rel=>exact hI ⟨_,HEE.out.1,(dx.of_below ((Below.refl _ _).drew)).trans HEE.out.2⟩
 case rest=>go_wp2;go_ret;obtain⟨x2,h2,h3⟩:=hcut.out;exact⟨⟨_,rfl,λ_=>rfl⟩,x2,h2,h3⟩
end
section
variable {w0 w w1 w':aa}{B:Nat}{x:fV}{L:Lay}{s s':Sys}{T:Nat}
def jV(w0:aa)(B:Nat)(x:fV)(L:Lay)(gb:Nat)(cs:bw)(s:Sys)(w:aa):Prop:=∃x1,cF w B x1 L s/\dx w0 w x x1/\B<=w.heap.size/\Has w gb 217 cs/\¬FS x1 gb
theorem jV.sy{gb:Nat}{cs:bw}(h:jV w0 B x L gb cs s w):cN w0 B x L s w:=by obtain⟨x1,h1,h2,h3,_⟩:=h;exact⟨x1,h1,h2,h3⟩
theorem jV.box{gb:Nat}{cs:bw}(h:jV w0 B x L gb cs s w):Has w gb 217 cs:=by obtain⟨_,_,_,_,h4,_⟩:=h;exact h4
theorem jV.after{gb:Nat}{cs:bw}(h:jV w0 B x L gb cs s w)(hb:Below w.heap.size w w'):jV w0 B x L gb cs s w':=by obtain⟨x1,h1,h2,h3,h4,h5⟩:=h;exact⟨x1,h1.after hb,h2.trans (dx.of_below hb),aS h3 hb.size,h4.after hb,h5⟩
theorem jV.next{gb:Nat}{cs:bw}{x1 x2:fV}(h1:cF w B x1 L s)(hm:dx w0 w x x1)(hB:B<=w.heap.size)(hg:Has w gb 217 cs)(hn:¬FS x1 gb)(h2:cF w' B x2 L s')(hm2:dx w w' x1 x2):
 jV w0 B x L gb cs s' w'/\cU w w':=by
 obtain⟨k1,k2⟩:=hm2.keep hg hn;exact⟨⟨x2,h2,hm.trans hm2,aS hB hm2.size,k1,k2⟩,h1.stay hm2⟩
theorem Ey{gb:Nat}{cs:bw}(h:jV w0 B x L gb cs s w)(hf:bL T s)(hT:T<=10000000000)(a b:Nat)(f:List Int)(hw:Wf f):
 Calls prog 132 #[pT x.g 0,I a,I b,.agg (aN f)] w λe w'=>e=.returned (.tuple #[])/\jV w0 B x L gb cs (di s a b f) w'/\cU w w':=by
 obtain⟨x1,h1,hm,hB,hg,hn⟩:=h;have hc:=Jx h1 hB hf.way (aS hf.lost hT) a b f hw;rw[hm.same]at hc;refine hc.mono ?_;rintro e w' ⟨he,x2,h2,hm2⟩;exact⟨he,jV.next h1 hm hB hg hn h2 hm2⟩
theorem jV.fP{gb:Nat}{cs:bw}(h:jV w0 B x L gb cs s w){k:Nat}(hk:k<3):∃gr gc,w.cell? ⟨x.g,3+k,none⟩=some (pT gr 0)/\cK w gr gc L (re s k)/\
 ∀(w':aa)(r:Re),Turned (λb=>b=gr) w w'->cK w' gr gc L r->jV w0 B x L gb cs {s with rs:=s.rs.set k r} w'/\cU w w':=by
 obtain⟨x1,h1,hm,hB,hg,hn⟩:=h;refine⟨x1.rb k,x1.cb k,by rw[<-hm.same];exact h1.vg hk,h1.fP k hk,λw' r ht hr=>?_⟩;obtain⟨h2,hm2⟩:=h1.Gi hk ht hr;exact jV.next h1 hm hB hg hn h2 hm2
theorem jV.YU{gb:Nat}{cs:bw}(h:jV w0 B x L gb cs s w):∃vb vt,w.cell? ⟨x.g,6,none⟩=some (pT vb 0)/\fo w B vb vt s.v/\B<=w.heap.size/\
 ∀(w':aa)(v:Vo)(mG:ae),Turned (FV vb vt) w w'->fo w' B vb mG v->(mG.ownBlock=vt.ownBlock\/∃b,w.heap.size<=b/\mG.ownBlock=some b)->jV w0 B x L gb cs {s with v:=v} w'/\cU w w':=by
 obtain⟨x1,h1,hm,hB,hg,hn⟩:=h;refine⟨x1.vb,x1.vt,by rw[<-hm.same];exact h1.ve,h1.vo,hB,λw' v mG ht hv ho=>?_⟩;obtain⟨h2,hm2⟩:=h1.Mo ht hv ho;exact jV.next h1 hm hB hg hn h2 hm2
theorem jV.lt{gb:Nat}{cs:bw}(h:jV w0 B x L gb cs s w):x.g<w.heap.size:=h.sy.lt
theorem Turned.Mr{F:cD}{w w':aa}(ht:Turned F w w'){b o:Nat}(hn:¬F b)(hl:b<w.heap.size):w'.cell? ⟨b,o,none⟩=w.cell? ⟨b,o,none⟩:=by unfold World.cell?;rw[ht.block b hl hn]
theorem uF{ops:Array Oper}{S:aa->Prop}{op:Oper}{a:Act}(hw:Region.wanted op (yielded ops a.tmps)=true)(x:Operand)(ho:op.op=.load 214 x)(b:Nat)(hx:a.eval x=pT b 0)(f:List Int)
 (hS:∀w,S w->w.rangeAt b 0 (ints f))(hi:(prog.info? 214).map (·.size)=some (ints f).length):YieldsIf prog ops S op (.agg (aN f)) a:=
 yieldsIf_load_mid hw 214 x ho b 0 hx (ints f) _ hS underlying214 rfl hi
def nX(s:Sys)(all:Bool)(b:Nat)(x:List Int):Nat->Sys
 |0=>s
 |k+1=>if all=true\/k=b then di (nX s all b x k) 3 k x else nX s all b x k
theorem Ps(s:Sys)(all:Bool)(b:Nat)(x:List Int):gD s all b x=nX s all b x 3:=rfl
theorem vk{U:Nat}(h:bL U s)(all:Bool)(b:Nat)(y:List Int):∀k,k<=3->bL (U+k) (nX s all b y k)
 |0,_=>h
 |k+1,hk=>by rw[nX];split;exact(vk h all b y k oM).send y dC oM;exact(vk h all b y k oM).mono oM
theorem Tf(l:List UInt8):Wf (dec l).2:=by unfold dec;split;exact pP;split;exact pP;split;exact pP;split;exact pP;split;exact xW l _;exact pP
theorem vn:∀(fs:List (List Int)),(∀f∈fs,f.length=23)->∀i f,fs[i]?=some f->∀j u,(ints f)[j]?=some u->(uB fs)[i*23+j]?=some u
 |[],_,i,f,h,_,_,_=>by simp at h
 |a::l,hl,0,f,h,j,u,hu=>by
  have e:f=a:=by simpa using h.symm
  subst e;have hj:j<23:=by have:=(aX.1 hu).1;simpa[ints,hl f (List.mem_cons_self ..)]using this
  show(aN f++uB l)[0*23+j]?=some u;rw[Nat.zero_mul,cG,Array.getElem?_append_left (by rw[cY _ (hl f (List.mem_cons_self ..))];exact hj)];simpa[aN]using hu
 |a::l,hl,i+1,f,h,j,u,hu=>by
  have h':l[i]?=some f:=by simpa using h
  have ih:=vn l (λf hf=>hl f (List.mem_cons_of_mem _ hf)) i f h' j u hu;have hs:=cY a (hl a (List.mem_cons_self ..));show(aN a++uB l)[(i+1)*23+j]?=some u;rw[Array.getElem?_append_right (by rw[hs];omega),hs,show(i+1)*23+j-23=i*23+j by omega];exact ih
def xh(w:aa)(A:Option Addr)(fs:List (List Int)):Prop:=fs≠[]->∃gr,A=some ⟨gr,0,none⟩/\Has w gr 214 (uB fs)
theorem zt{lo:Nat}{v:ae}{fs:List (List Int)}(h:pN w lo v fs):∃A,v=.slice A fs.length fs.length/\xh w A fs:=by rcases h with⟨rfl,rfl⟩|⟨gr,rfl,_,hh⟩;exact⟨none,rfl,λhn=>absurd rfl hn⟩;exact⟨_,rfl,λ_=>⟨gr,rfl,hh⟩⟩
theorem xh.stay{A:Option Addr}{fs:List (List Int)}(h:xh w A fs)(hs:cU w w'):xh w' A fs:=λhn=>by obtain⟨gr,e,hh⟩:=h hn;exact⟨gr,e,hs _ _ _ hh dC⟩
def zu(w:aa)(f:List Int):aa:=(w.alloc (.cells (aN aQ) 214)).setRow w.heap.size (aN f)
theorem yu(w:aa)(f:List Int):Has (zu w f) w.heap.size 214 (aN f)/\Below w.heap.size w (zu w f):=
 ⟨(Has.new w 214 (aN aQ)).setRow _,below_setRow ((Below.refl _ _).alloc (aj _) _) (aj _) _⟩
theorem JG(h:cF w B x L s)(hB:B<=w.heap.size)(hf:bL T s)(hL:L.Ok)(hT:T<=9999999900)(i:Nat)(hi:i<s.way.length\/s.way.length=0):Calls prog 100 #[pT x.g 0,I i] w (gY w B x L w (λv=>i<s.way.length->v=.nilIface) (cO L s i)):=by
 obtain⟨A,c,hv,c7⟩:=h.pq;have hg:=h.has.lt;have HH:=hI h;have HF:=hI hf;have Te:=hI hB;rcases hi with hi|h0
 ·have hii:¬s.way.length<=i:=by omega
  obtain⟨gm,gw,c',v,hgm⟩:=h.mJ hi;have YS:A=some ⟨gw,0,none⟩/\c=c':=by exact zg5
  obtain⟨rfl,rfl⟩:=YS;have g0:=hgm.c0;have g1:=hgm.c1;have g2:=hgm.c2;have hmem:=HF.out.mJ gm (aR hgm.get);have HM:=hI hmem;have HGE:=hI hgm.get;obtain⟨A2,c2,hv2,hc2,hrd⟩:=hgm.bytes.reads;subst hv2;have HB2:=hI hgm.bytes;have hib:i+1<=s.way.length:=hi;have aaR:i<=120:=by have:=HF.out.way;omega
  have HI:=hI hi;have V2:=hI hgm.vw;clear h hf hv hgm hrd hi hB hmem;go_enter func100,ntmps100;go_upto_region 4 with(fail);have kb:=Has.new w 217 #[I gm.src,I gm.dst,.slice A2 gm.bytes.length c2];have qN:Below w.heap.size w (w.alloc (.cells #[I gm.src,I gm.dst,.slice A2 gm.bytes.length c2] 217)):=(Below.refl _ _).alloc (aj _) _;have hnf:¬FS x w.heap.size:=λe=>by have:=HH.out.lt e;omega
  have HD0:Hid (jV w B x L w.heap.size #[I gm.src,I gm.dst,.slice A2 gm.bytes.length c2] s (w.alloc (.cells #[I gm.src,I gm.dst,.slice A2 gm.bytes.length c2] 217))):=hI ⟨x,HH.out.after qN,dx.of_below qN,aS Te.out qN.size,kb,hnf⟩;have HA:=hI (HH.out.after qN);have I8:=hI (cU.below qN);have HMA:=hI (dx.of_below (x:=x) qN);have HNF:=hI hnf;have HKB:=hI kb;have C2:=hI (aS Te.out qN.size);clear hnf g0 g1 g2 kb c7;generalize w.alloc (.cells #[I gm.src,I gm.dst,.slice A2 gm.bytes.length c2] 217)=wA at*;generalize hG:w.heap.size=gb at*;clear hG qN;have c7:wA.cell? ⟨x.g,7,none⟩=some (.slice (some ⟨gw,0,none⟩) s.way.length c):=by rw[<-V2.out];exact HA.out.cell 7 _ rfl
  have hgA:=HA.out.has.lt;have ho:=HA.out.way;rw[V2.out]at ho;have HC:=hI (Et ho HA.out.ones i HI.out);clear ho;go_upto_region 5 with(go_at_call 135;refine HC.out.mono ?_;rintro e w1 ⟨⟨v',rfl,hb,ho⟩,ht⟩;obtain⟨A',c',rfl,-,-,-,-⟩:=ix ho;rw[<-V2.out]at hb ht;have HE:=hI (HA.out.erase HI.out hb ho ht);have hx1:Has w1 x.g 121 (Gh x L s):=HA.out.has.turned ht (λe=>dz HA.out.way HA.out.has dC e);have d7:=hx1.aJ 7 _ rfl;have g7:=hx1.free 7;clear hb ho ht hx1)
  have YV:=hI (jV.next HA.out HMA.out C2.out HKB.out HNF.out HE.out.1 HE.out.2);clear d7 g7 HE HC c7 hgA HA C2 HMA HKB;generalize w1.setCell ⟨x.g,7,none⟩ (.slice A' (s.way.length-1) c')=w2 at*;have S2:=hI (I8.out.trans YV.out.2);have HD2:=hI YV.out.1;have HB3:nU w2 (.slice A2 gm.bytes.length c2) gm.bytes:=HB2.out.keep λg cs hh=>S2.out _ _ _ hh dC;obtain⟨A3,c3,e3,_,hrd⟩:=HB3.reads;injection e3 with e31 _ e33;subst e31 e33;have V1:=hI hrd;have hk2:=HD2.out.box;have k2v:=hk2.aJ 2 _ rfl;obtain⟨er,f,hdec⟩:∃er f,dec gm.bytes=(er,f):=⟨_,_,rfl⟩;have hwf:=Tf gm.bytes;have hmay:=JB (l:=gm.bytes);rw[hdec]at hwf hmay;dsimp only at hwf hmay;have YW:=hI hwf;have Xb:=hI hmay;have YX:=hI (Mb A2 gm.bytes.length c2 gm.bytes w2 rfl hc2 hrd);rw[hdec]at YX;have V3:Hid (cO L s i=(if er=0/\f.getD 1 0=gm.src then(if gm.dst=3 then(dR s.v f).2.1.foldl (λs' y=>gD s' (dR s.v f).2.2 gm.src y) {s with way:=s.way.eraseIdx i,v:=(dR s.v f).1}else(cZ L (re s gm.dst) f).2.foldl (λs' y=>di s' gm.dst gm.src y) {s with way:=s.way.eraseIdx i,rs:=s.rs.set gm.dst (cZ L (re s gm.dst) f).1})else{s with way:=s.way.eraseIdx i})):=hI (by
   unfold cO;rw[HGE.out];dsimp only;rw[hdec,show re {s with way:=s.way.eraseIdx i} gm.dst=re s gm.dst from rfl])
  have Dh:=hI (HF.out.erase i);have hsf:Hid ((prog.info? 214).map (·.size)=some (aN f).size):=hI (by rw[cY _ hwf.1];exact dh);have hzf:Hid ((aN aQ).size=(aN f).size):=hI (by rw[cY _ hwf.1];rfl);clear hdec hwf hmay hrd HB2 HB3 YV HD0 I8 hk2 HGE V2 HNF;go_upto_region 6 with(first
   |(go_at_call 136;refine YX.out.mono ?_;rintro e wD ⟨rfl,hbD⟩;have Td:=hI hbD;clear hbD)
   |(rw[<-gy];refine wpList_store_row rfl 214 (.tmp 6) (.tmp 49) rfl wD.heap.size (aN f) rfl rfl 214 (aN aQ) (Has.new wD 214 (aN aQ)) hsf.out hzf.out (dZ _) ?_))
  have h6:=yu wD f;change Code.wp _ _ _ _ (zu wD f);generalize zu wD f=w6 at*;obtain⟨kf,hb6⟩:=h6;have HD6:=hI ((HD2.out.after Td.out).after hb6);have S6:=hI ((S2.out.trans (cU.below Td.out)).trans (cU.below hb6));generalize hG:wD.heap.size=gf at*;clear hG hb6 Td HD2 S2 V1 YX k2v;have f1:=kf.aJ 1 (I (f.getD 1 0)) (dO f 1 _ (by rw[aD];have:=YW.out.1;rw[bg oM];rfl));have b0:=HD6.out.box.aJ 0 _ rfl;have b1:=HD6.out.box.aJ 1 _ rfl;have KF:=hI kf;have OI:=HD6.out.lt;have hsI:(prog.info? 214).map (·.size)=some (ints f).length:=by rw[dG,YW.out.1];exact dh
  have HSI:=hI hsI;have HRW:Hid (w6.rangeAt gf 0 (ints f)):=hI (λj v hv=>by rw[cG,kf.cell];simpa[aN]using hv);generalize hfr:f.getD 1 0=fr at*;clear hfr kf hsI hsf hzf;by_cases he:er=0
  ·by_cases hs:fr=(gm.src:Int)
   ·have HE:Hid (cO L s i=(if gm.dst=3 then(dR s.v f).2.1.foldl (λs' y=>gD s' (dR s.v f).2.2 gm.src y) {s with way:=s.way.eraseIdx i,v:=(dR s.v f).1}else(cZ L (re s gm.dst) f).2.foldl (λs' y=>di s' gm.dst gm.src y) {s with way:=s.way.eraseIdx i,rs:=s.rs.set gm.dst (cZ L (re s gm.dst) f).1})):=hI (by rw[V3.out,if_pos ⟨he,hs⟩]);(have he2:Ee er=.nilIface:=by rw[he];rfl);(have hne:(fr !=(gm.src:Int))=false:=by simpa using hs);have YY:=hI (Xb.out he);rw[he2];clear hs he V3 Xb;by_cases hd:gm.dst=3
    ·(have hdn:((gm.dst:Int) !=3)=false:=by rw[hd];rfl);rw[if_pos hd]at HE;obtain⟨vb,vt,c6,yq,hBv,hup⟩:=HD6.out.YU;have hfr:=YW.out;have vh:=hI (SN (yq.after ((Below.refl _ _).drew)) HF.out.vo hBv f hfr);have h64:=Ce HF.out.vo HF.out.trace HF.out.bF hfr;have hvw:=Cb HF.out.vo f;have hn2:=zo s.v f;have Pu:Hid (bL T {s with way:=s.way.eraseIdx i,v:=(dR s.v f).1}):=hI ⟨HF.out.n3,HF.out.fits,hvw,h64.1,h64.2.1,Dh.out.way,HF.out.lost,Dh.out.mJ⟩;have JH:∀(w':aa)(v:Vo)(mG:ae),Turned (FV vb vt) w6 w'->fo w' B vb mG v->(mG.ownBlock=vt.ownBlock\/∃b,w6.heap.size<=b/\mG.ownBlock=some b)->jV w B x L gb #[I gm.src,I gm.dst,.slice A2 gm.bytes.length c2] {s with way:=s.way.eraseIdx i,v:=v} w'/\cU w6 w':=hup;have pK:Hid (∀wx,Turned (FV vb vt) w6 wx->wx.cell? ⟨x.g,6,none⟩=some (pT vb 0)/\wx.rangeAt gf 0 (ints f)):=hI (λwx ht=>by
      (have n2:¬FV vb vt x.g:=by obtain⟨x1,h1,hm,_⟩:=HD6.out;(have e:(FV vb vt x.g)->(FV vb vt x1.g):=by rw[hm.same];exact id);intro h;rcases e h with h|h;exact h1.has.ne yq.has dC h;exact dz yq.own h1.has dC h);have n3:¬FV vb vt gf:=by rintro(h|h);exact KF.out.ne yq.has dC h;exact dz yq.own KF.out dC h
      have k1:=KF.out.turned ht n3;refine⟨(ht.Mr n2 OI).trans c6,λj v hv=>?_⟩;rw[cG,k1.cell];simpa[aN]using hv)
     generalize dR s.v f=R at*;obtain⟨v',fs,all⟩:=R;dsimp only at vh h64 hn2 HE Pu;have Tg:=hI JH;have Bt:=hI h64.2.2;clear yq hup JH h64 hvw hd hBv hfr;go_upto_region 15 with(fail);go_cut [10,11] (λs10 s11 wx=>(∃AF,s10=.slice AF fs.length fs.length/\Hid (xh wx AF fs))/\s11=.bool all/\Hid (jV w B x L gb #[I gm.src,I gm.dst,.slice A2 gm.bytes.length c2] {s with way:=s.way.eraseIdx i,v:=v'} wx/\cU w wx))
     case first=>
      refine wp_region_held_drew (S:=λwx=>(wx.cell? ⟨x.g,6,none⟩=some (pT vb 0))/\(wx.rangeAt gf 0 (ints f))) kR ⟨c6,HRW.out⟩ (λhHeld=>?_);refine wpAnyH_take (i:=0) (oi:={dst:=some 86,op:=Op.move (Operand.tmp 0),type:=52,pos:= "system.go:125",after:=#[],guard:=none}) (v:=pT x.g 0) rfl kR kR kR (λ_ _ _ h=>h) (Or.inl ⟨rF,?_⟩) hHeld ?_;exact zgX;simp only[Act.put,ax,aH,aI];refine wpAnyH_take (i:=1) (oi:={dst:=some 87,op:=Op.nilCheck (Operand.tmp 86),type:=0,pos:= "system.go:125",after:=#[{on:=0,ground:=Ground.data}],guard:=none}) (v:=pT x.g 0) rfl kR kR kR (λ_ _ _ h=>h) (Or.inl ⟨rF,?_⟩) hHeld ?_;exact zgX;simp only[Act.put,ax,aH,aI];refine wpAnyH_take (i:=2) (oi:={dst:=some 88,op:=Op.fieldAddr 121 (Operand.tmp 87) 2,type:=0,pos:= "system.go:125",after:=#[{on:=1,ground:=Ground.data}],guard:=none}) (v:=pT x.g 6) rfl kR kR kR (λ_ _ _ h=>h) (Or.inl ⟨rF,?_⟩) hHeld ?_;exact zgX;simp only[Act.put,ax,aH,aI];refine wpAnyH_take (i:=3) (oi:={dst:=some 89,op:=Op.load 114 (Operand.tmp 88),type:=114,pos:= "system.go:125",after:=#[{on:=2,ground:=Ground.data}],guard:=none}) (v:=pT vb 0) rfl kR kR kR (λ_ _ _ h=>h) (Or.inl ⟨rF,?_⟩) hHeld ?_;exact zgX;simp only[Act.put,ax,aH,aI];refine wpAnyH_take (i:=4) (oi:={dst:=some 90,op:=Op.load 214 (Operand.tmp 6),type:=214,pos:= "system.go:125",after:=#[],guard:=none}) (v:=.agg (aN f)) rfl kR kR kR (λ_ _ _ h=>h) (uF rF (.tmp 6) rfl gf rF f (λ_ h=>h.2) HSI.out) hHeld ?_;simp only[Act.put,ax,aH,aI];refine wpAnyH_ready (rs:=[5]) kR sM (AllReadyH.cons (o:={dst:=some 91,op:=Op.call {callee:=Callee.value (Operand.func 138),args:=#[Operand.tmp 89,Operand.tmp 90],argTypes:=#[114,214]},type:=223,pos:= "system.go:125",after:=#[{on:=3,ground:=Ground.data},{on:=4,ground:=Ground.data}],guard:=none}) rfl (λK hK=>?_) AllReadyH.nil);go_simp;go_at_call 138;refine vh.out.mono ?_;rintro e wt ⟨⟨xv,rfl,hfa⟩,⟨mG,Xc,hob⟩,htt⟩;obtain⟨AF,rfl,Th⟩:=zt hfa;have sx:=hI Th;have JI:=hI (((Turned.refl (FV vb vt) w6).drew).trans htt (λb _ e=>e));have Md:=hI (Tg.out wt v' mG JI.out Xc hob);clear hfa Xc hob htt Th;refine hK.out _ _ (pK.out wt JI.out) (λhHeld=>?_);clear hK K;(try simp only[Act.put,ax,aH,aI]);refine wpAnyH_take (i:=6) (oi:={dst:=some 85,op:=Op.move (Operand.tmp 91),type:=223,pos:= "system.go:125",after:=#[{on:=5,ground:=Ground.data}],guard:=none}) (v:=.tuple #[.slice AF fs.length fs.length,.bool all]) rfl kR kR kR (λ_ _ _ h=>h) (Or.inl ⟨rF,?_⟩) hHeld ?_;exact zgX;simp only[Act.put,ax,aH,aI];refine wpAnyH_take (i:=7) (oi:={dst:=some 92,op:=Op.extract (Operand.tmp 85) 0,type:=221,pos:= "system.go:125",after:=#[{on:=6,ground:=Ground.data}],guard:=none}) (v:=.slice AF fs.length fs.length) rfl kR kR kR (λ_ _ _ h=>h) (Or.inl ⟨rF,?_⟩) hHeld ?_;exact zgX;simp only[Act.put,ax,aH,aI];refine wpAnyH_take (i:=8) (oi:={dst:=some 93,op:=Op.extract (Operand.tmp 85) 1,type:=4,pos:= "system.go:125",after:=#[{on:=6,ground:=Ground.data},{on:=9,ground:=Ground.gcOnly Departure.lateStores}],guard:=none}) (v:=.bool all) rfl kR kR kR (λ_ _ _ h=>h) (Or.inl ⟨rF,?_⟩) hHeld ?_;exact zgX;simp only[Act.put,ax,aH,aI];refine wpAnyH_take (i:=9) (oi:={dst:=some 10,op:=Op.assign (Operand.tmp 92),type:=221,pos:= "system.go:125",after:=#[{on:=7,ground:=Ground.data},{on:=5,ground:=Ground.chain},{on:=0,ground:=Ground.phase},{on:=1,ground:=Ground.phase},{on:=2,ground:=Ground.phase},{on:=3,ground:=Ground.phase},{on:=4,ground:=Ground.phase},{on:=5,ground:=Ground.phase},{on:=6,ground:=Ground.phase},{on:=7,ground:=Ground.phase},{on:=8,ground:=Ground.textOnly Departure.lateStores}],guard:=none}) (v:=.slice AF fs.length fs.length) rfl kR kR kR (λ_ _ _ h=>h) (Or.inl ⟨rF,?_⟩) hHeld ?_;exact zgX;simp only[Act.put,ax,aH,aI];refine wpAnyH_take (i:=10) (oi:={dst:=some 11,op:=Op.assign (Operand.tmp 93),type:=4,pos:= "system.go:125",after:=#[{on:=8,ground:=Ground.data},{on:=9,ground:=Ground.chain},{on:=0,ground:=Ground.phase},{on:=1,ground:=Ground.phase},{on:=2,ground:=Ground.phase},{on:=3,ground:=Ground.phase},{on:=4,ground:=Ground.phase},{on:=5,ground:=Ground.phase},{on:=6,ground:=Ground.phase},{on:=7,ground:=Ground.phase},{on:=8,ground:=Ground.phase},{on:=9,ground:=Ground.phase}],guard:=none}) (v:=.bool all) rfl kR kR kR (λ_ _ _ h=>h) (Or.inl ⟨rF,?_⟩) hHeld ?_;exact zgX;simp only[Act.put,ax,aH,aI];refine wpAnyH_done kR ?_ _;go_wp2_with fail;go_meet
      case rel=>exact⟨⟨_,rfl,sx⟩,rfl,hI ⟨Md.out.1,S6.out.trans Md.out.2⟩⟩
     case rest=>
      obtain⟨⟨AF,rfl,sx⟩,rfl,F6⟩:=hcut;have HD7:=hI F6.out.1;have S7:=hI F6.out.2;clear c6 b0 b1 f1 HD6 S6 HRW pK vh Tg KF F6 hne OI;go_wp2_with fail;go_loopw [96] (λiv wr=>∃j:Nat,j<=fs.length/\iv=I j/\Hid (jV w B x L gb #[I gm.src,I gm.dst,.slice A2 gm.bytes.length c2] ((fs.take j).foldl (λs' y=>gD s' all gm.src y) {s with way:=s.way.eraseIdx i,v:=v'}) wr)/\Hid (xh wr AF fs)/\Hid (cU w wr)) (λiv _=>fs.length-(intOf iv).toNat)
      case atStart=>exact⟨0,bT _,rfl,HD7,sx,S7⟩
      case round=>
       clear HD7 sx S7;obtain⟨j,hj,rfl,HD,sx,HS⟩:=hrel;by_cases hlt:j<fs.length
       ·obtain⟨Pv,rfl,hh⟩:=sx.out zhf;obtain⟨y,hy⟩:∃y,fs[j]?=some y:=⟨_,bg hlt⟩;have Cf:=Bt.out y (aR hy);have YZ:=hI Cf;have Ti:Hid (wr.rangeAt Pv (j*23) (ints y)):=hI (λk v hv=>zg4);have Tj:Hid ((prog.info? 214).map (·.size)=some (ints y).length):=hI (by rw[dG,Cf.1];exact dh);have hsy:Hid ((prog.info? 214).map (·.size)=some (aN y).size):=hI (by rw[cY _ Cf.1];exact dh);have Y0:Hid ((aN aQ).size=(aN y).size):=hI (by rw[cY _ Cf.1];rfl);have Y1:Hid (bL (T+6) ((fs.take j).foldl (λs' y=>gD s' all gm.src y) {s with way:=s.way.eraseIdx i,v:=v'})):=hI ((bL.Gk all gm.src (fs.take j) Pu.out).mono (by rw[List.length_take];omega));have HST:Hid (((fs.take (j+1)).foldl (λs' y=>gD s' all gm.src y) {s with way:=s.way.eraseIdx i,v:=v'})=nX ((fs.take j).foldl (λs' y=>gD s' all gm.src y) {s with way:=s.way.eraseIdx i,v:=v'}) all gm.src y 3):=hI (by
         rw[List.take_add_one,hy,List.foldl_append];exact Ps _ _ _ _)
        clear hh hy Cf hj;go_upto_region 19 with(first
         |(refine wpList_load_mid rfl 214 (.tmp 98) rfl Pv (j*23) rfl (ints y) _ Ti.out underlying214 rfl Tj.out ?_)
         |(rw[<-gy];refine wpList_store_row rfl 214 (.tmp 13) (.tmp 99) rfl wr.heap.size (aN y) rfl rfl 214 (aN aQ) (Has.new wr 214 (aN aQ)) hsy.out Y0.out (dZ _) ?_))
        have h9:=yu wr y;change Code.wp _ _ _ _ (zu wr y);generalize zu wr y=w9 at*;obtain⟨k9,jw⟩:=h9;have Mt:Hid (jV w B x L gb #[I gm.src,I gm.dst,.slice A2 gm.bytes.length c2] (nX ((fs.take j).foldl (λs' y=>gD s' all gm.src y) {s with way:=s.way.eraseIdx i,v:=v'}) all gm.src y 0) w9):=hI (HD.out.after jw);have V4:=hI (HS.out.trans (cU.below jw));have NF:=hI (sx.out.stay (cU.below jw));generalize hG:wr.heap.size=g9 at*;clear hG jw HD HS sx Ti;go_wp2_with fail;go_loopw [100] (λkv wk=>∃k:Nat,k<=3/\kv=I k/\Hid (jV w B x L gb #[I gm.src,I gm.dst,.slice A2 gm.bytes.length c2] (nX ((fs.take j).foldl (λs' y=>gD s' all gm.src y) {s with way:=s.way.eraseIdx i,v:=v'}) all gm.src y k) wk)/\Hid (xh wk (some ⟨Pv,0,none⟩) fs)/\Hid (cU w wk)/\Has wk g9 214 (aN y)) (λkv _=>3-(intOf kv).toNat)
        case atStart=>exact⟨0,bT _,rfl,Mt,NF,V4,k9⟩
        case round=>
         clear Mt NF V4 k9;obtain⟨k,hk,rfl,HDK,Gf,OP,kk⟩:=hrel;by_cases hk3:k<3
         ·have b0:=HDK.out.box.aJ 0 _ rfl;have UW:=HDK.out.lt;have KK:=hI kk;have HFN:Hid (bL (T+10) (nX ((fs.take j).foldl (λs' y=>gD s' all gm.src y) {s with way:=s.way.eraseIdx i,v:=v'}) all gm.src y k)):=hI ((vk Y1.out all gm.src y k oM).mono oM);by_cases hsd:all=true\/k=gm.src
          ·have HN:Hid (nX ((fs.take j).foldl (λs' y=>gD s' all gm.src y) {s with way:=s.way.eraseIdx i,v:=v'}) all gm.src y (k+1)=di (nX ((fs.take j).foldl (λs' y=>gD s' all gm.src y) {s with way:=s.way.eraseIdx i,v:=v'}) all gm.src y k) 3 k y):=hI (by rw[nX,if_pos hsd]);have hb:all=true\/(all=false/\((k:Int)==(gm.src:Int))=true):=by
            cases all with
            |true=>exact .inl rfl
            |false=>exact .inr ⟨rfl,by rcases hsd with h|h;cases h;rw[h];simp⟩
           clear hsd;rcases hb with rfl|⟨rfl,hke⟩;all_goals
            go_wp2_with (first
             |(refine wpList_load_row rfl 214 (.tmp 13) rfl g9 rfl 214 (aN y) (0,0) _ kk underlying214 rfl hsy.out ?_)
             |(go_at_call 132;refine(Ey HDK.out HFN.out oM 3 k y YZ.out).mono ?_;rintro e wb ⟨rfl,hd2,dD⟩;have Y2:=hI hd2;have I1:=hI (OP.out.trans dD);have Tk:=hI (Gf.out.stay dD);have kb:=hI (dD _ _ _ KK.out dC);clear hd2 dD))
            go_roundw
            case rel=>exact⟨k+1,hk3,rF,by rw[HN.out];exact Y2,Tk,I1,kb.out⟩
            case measure=>simp[intOf];omega
          ·have HN:Hid (nX ((fs.take j).foldl (λs' y=>gD s' all gm.src y) {s with way:=s.way.eraseIdx i,v:=v'}) all gm.src y (k+1)=nX ((fs.take j).foldl (λs' y=>gD s' all gm.src y) {s with way:=s.way.eraseIdx i,v:=v'}) all gm.src y k):=hI (by rw[nX,if_neg hsd]);have hb:all=false:=by
            cases all with
            |true=>exact absurd (.inl rfl) hsd
            |false=>rfl
           (have hke:((k:Int)==(gm.src:Int))=false:=by have hne:k≠gm.src:=λh=>hsd (.inr h);simpa using(λh=>hne oM:¬(k:Int)=(gm.src:Int)));subst hb;clear hsd kk;go_wp2_with fail;go_roundw
           case rel=>exact⟨k+1,hk3,rF,by rw[HN.out];exact HDK,Gf,OP,KK.out⟩
           case measure=>simp[intOf];omega
         ·(have hk4:k=3:=by omega);subst hk4;clear kk;go_wp2_with fail;go_roundw
          case rel=>exact⟨j+1,hlt,rF,by rw[HST.out];exact HDK,Gf,OP⟩
          case measure=>simp[intOf];omega
       ·(have hjn:j=fs.length:=by omega);exact zgW
    ·(have hd3:gm.dst<3:=by have:=HM.out.2.1;omega);have hdi:(gm.dst:Int)<3:=oM;(have hdn:((gm.dst:Int) !=3)=true:=by simpa using(oM:¬(gm.dst:Int)=3));rw[if_neg hd]at HE;obtain⟨gr,gc,c3,hr,hup⟩:=HD6.out.fP hd3;have hr2:cK w6 gr gc L (re s gm.dst):=hr;have JH:∀(w':aa)(r:Re),Turned (λb=>b=gr) w6 w'->cK w' gr gc L r->jV w B x L gb #[I gm.src,I gm.dst,.slice A2 gm.bytes.length c2] {s with way:=s.way.eraseIdx i,rs:=s.rs.set gm.dst r} w'/\cU w6 w':=hup;have vh:=hI (SM (hr2.after ((Below.refl _ _).drew)) hL T oM (hI (HF.out.fits gm.dst hd3)) YY.out);have IU:=S5 hL (oM:T<=10000000000) (HF.out.fits gm.dst hd3) YY.out;have hfn:=aby hL (HF.out.fits gm.dst hd3) YY.out;have hn2:=zn L (re s gm.dst) f;unfold dB at vh;generalize cZ L (re s gm.dst) f=R at*;obtain⟨q,fs⟩:=R;dsimp only at vh IU hfn hn2 HE;have Tg:=hI JH;have Bt:=hI IU;have Pu:Hid (bL (T+8) {s with way:=s.way.eraseIdx i,rs:=s.rs.set gm.dst q}):=hI (Dh.out.yt hd3 hfn oM);have C8:=hI hr2.has;have pK:Hid (∀wx,Turned (λb=>b=gr) w6 wx->wx.cell? ⟨gb,1,none⟩=some (I gm.dst)/\wx.cell? ⟨x.g,3+gm.dst,none⟩=some (pT gr 0)/\wx.rangeAt gf 0 (ints f)):=hI (λwx ht=>by
      have n1:gb≠gr:=HD6.out.box.ne hr2.has dC;have n2:x.g≠gr:=by obtain⟨x1,h1,hm,_⟩:=HD6.out;rw[<-hm.same];exact h1.has.ne hr2.has dC
      have n3:gf≠gr:=KF.out.ne hr2.has dC;have k1:=KF.out.turned ht (λe=>n3 e);refine⟨(ht.Mr (λe=>n1 e) HD6.out.box.lt).trans b1,(ht.Mr (λe=>n2 e) OI).trans c3,λj v hv=>?_⟩;rw[cG,k1.cell];simpa[aN]using hv)
     clear hr hup hr2 JH IU hfn hd hd3;go_upto_region 9 with(fail);go_cut [71,72,73] (λs71 s72 s73 wx=>(∃AF,s71=.slice AF fs.length fs.length/\Hid (xh wx AF fs))/\s72=I (fs.length:Int)/\s73=I 0/\Hid (jV w B x L gb #[I gm.src,I gm.dst,.slice A2 gm.bytes.length c2] {s with way:=s.way.eraseIdx i,rs:=s.rs.set gm.dst q} wx/\cU w wx))
     case first=>
      refine wp_region_held_drew (S:=λwx=>(wx.cell? ⟨gb,1,none⟩=some (I gm.dst))/\(wx.cell? ⟨x.g,3+gm.dst,none⟩=some (pT gr 0))/\(wx.rangeAt gf 0 (ints f))) kR ⟨b1,c3,HRW.out⟩ (λhHeld=>?_);refine wpAnyH_take (i:=0) (oi:={dst:=some 63,op:=Op.move (Operand.tmp 0),type:=52,pos:= "system.go:120",after:=#[],guard:=none}) (v:=pT x.g 0) rfl kR kR kR (λ_ _ _ h=>h) (Or.inl ⟨rF,?_⟩) hHeld ?_;exact zgT;simp only[Act.put,ax,aH,aI];refine wpAnyH_take (i:=1) (oi:={dst:=some 64,op:=Op.fieldAddr 217 (Operand.tmp 5) 1,type:=0,pos:= "system.go:120",after:=#[],guard:=none}) (v:=pT gb 1) rfl kR kR kR (λ_ _ _ h=>h) (Or.inl ⟨rF,?_⟩) hHeld ?_;exact zgT;simp only[Act.put,ax,aH,aI];refine wpAnyH_take (i:=2) (oi:={dst:=some 65,op:=Op.load 3 (Operand.tmp 64),type:=3,pos:= "system.go:120",after:=#[{on:=1,ground:=Ground.data}],guard:=none}) (v:=I gm.dst) rfl kR kR kR (λ_ _ _ h=>h) (Or.inl ⟨rF,?_⟩) hHeld ?_;exact zgT;simp only[Act.put,ax,aH,aI];refine wpAnyH_take (i:=3) (oi:={dst:=some 66,op:=Op.nilCheck (Operand.tmp 63),type:=0,pos:= "system.go:120",after:=#[{on:=0,ground:=Ground.data}],guard:=none}) (v:=pT x.g 0) rfl kR kR kR (λ_ _ _ h=>h) (Or.inl ⟨rF,?_⟩) hHeld ?_;exact zgT;simp only[Act.put,ax,aH,aI];refine wpAnyH_take (i:=4) (oi:={dst:=some 67,op:=Op.fieldAddr 121 (Operand.tmp 66) 1,type:=0,pos:= "system.go:120",after:=#[{on:=3,ground:=Ground.data}],guard:=none}) (v:=pT x.g 3) rfl kR kR kR (λ_ _ _ h=>h) (Or.inl ⟨rF,?_⟩) hHeld ?_;exact zgT;simp only[Act.put,ax,aH,aI];refine wpAnyH_take (i:=5) (oi:={dst:=some 68,op:=Op.indexAddr 118 (Operand.tmp 67) (Operand.tmp 65),type:=0,pos:= "system.go:120",after:=#[{on:=4,ground:=Ground.data},{on:=2,ground:=Ground.data}],guard:=none}) (v:=pT x.g (3+gm.dst)) rfl kR kR kR (λ_ _ _ h=>h) (Or.inl ⟨rF,?_⟩) hHeld ?_;exact zgT;simp only[Act.put,ax,aH,aI];refine wpAnyH_take (i:=6) (oi:={dst:=some 69,op:=Op.load 117 (Operand.tmp 68),type:=117,pos:= "system.go:120",after:=#[{on:=5,ground:=Ground.data}],guard:=none}) (v:=pT gr 0) rfl kR kR kR (λ_ _ _ h=>h) (Or.inl ⟨rF,?_⟩) hHeld ?_;exact zgT;simp only[Act.put,ax,aH,aI];refine wpAnyH_take (i:=7) (oi:={dst:=some 70,op:=Op.load 214 (Operand.tmp 6),type:=214,pos:= "system.go:120",after:=#[],guard:=none}) (v:=.agg (aN f)) rfl kR kR kR (λ_ _ _ h=>h) (uF rF (.tmp 6) rfl gf rF f (λ_ h=>h.2.2) HSI.out) hHeld ?_;simp only[Act.put,ax,aH,aI];refine wpAnyH_take (i:=10) (oi:={dst:=some 73,op:=Op.move (Operand.const (Value.int IntKind.i64 0)),type:=3,pos:= "system.go:120",after:=#[],guard:=none}) (v:=I 0) rfl kR kR kR (λ_ _ _ h=>h) (Or.inl ⟨rF,?_⟩) hHeld ?_;exact zgT;simp only[Act.put,ax,aH,aI];refine wpAnyH_ready (rs:=[8]) kR sM (AllReadyH.cons (o:={dst:=some 71,op:=Op.call {callee:=Callee.value (Operand.func 137),args:=#[Operand.tmp 69,Operand.tmp 70],argTypes:=#[117,214]},type:=221,pos:= "system.go:120",after:=#[{on:=6,ground:=Ground.data},{on:=7,ground:=Ground.data}],guard:=none}) rfl (λK hK=>?_) AllReadyH.nil);go_simp;go_at_call 137;refine vh.out.mono ?_;rintro e wt ⟨⟨xv,rfl,hfa⟩,hrt,htt⟩;obtain⟨AF,rfl,Th⟩:=zt hfa;have sx:=hI Th;have JI:=hI (((Turned.refl (λb=>b=gr) w6).drew).trans htt (λb _ e=>e));have Md:=hI (Tg.out wt q JI.out hrt);clear hfa hrt htt Th;refine hK.out _ _ (pK.out wt JI.out) (λhHeld=>?_);clear hK K;(try simp only[Act.put,ax,aH,aI]);refine wpAnyH_take (i:=9) (oi:={dst:=some 72,op:=Op.call {callee:=Callee.builtin Builtin.len,args:=#[Operand.tmp 71],argTypes:=#[221]},type:=3,pos:= "system.go:120",after:=#[{on:=8,ground:=Ground.data}],guard:=none}) (v:=I (fs.length:Int)) rfl kR kR kR (λ_ _ _ h=>h) (Or.inl ⟨rF,?_⟩) hHeld ?_;exact zgT;simp only[Act.put,ax,aH,aI];refine wpAnyH_done kR ?_ _;go_wp2_with fail;go_meet
      case rel=>exact⟨⟨_,rfl,sx⟩,rfl,rfl,hI ⟨Md.out.1,S6.out.trans Md.out.2⟩⟩
     case rest=>
      obtain⟨⟨AF,rfl,sx⟩,rfl,rfl,F6⟩:=hcut;have HD7:=hI F6.out.1;have S7:=hI F6.out.2;clear c3 b0 b1 f1 HD6 S6 HRW pK vh Tg C8 KF F6 hne OI;go_wp2_with fail;go_loopw [73] (λiv wr=>∃j:Nat,j<=fs.length/\iv=I j/\Hid (jV w B x L gb #[I gm.src,I gm.dst,.slice A2 gm.bytes.length c2] ((fs.take j).foldl (λs' y=>di s' gm.dst gm.src y) {s with way:=s.way.eraseIdx i,rs:=s.rs.set gm.dst q}) wr)/\Hid (xh wr AF fs)/\Hid (cU w wr)) (λiv _=>fs.length-(intOf iv).toNat)
      case atStart=>exact⟨0,bT _,rfl,HD7,sx,S7⟩
      case round=>
       clear HD7 sx S7;obtain⟨j,hj,rfl,HD,sx,HS⟩:=hrel;by_cases hlt:j<fs.length
       ·obtain⟨Pv,rfl,hh⟩:=sx.out zhf;obtain⟨y,hy⟩:∃y,fs[j]?=some y:=⟨_,bg hlt⟩;have Cf:=Bt.out y (aR hy);have YZ:=hI Cf;have Ti:Hid (wr.rangeAt Pv (j*23) (ints y)):=hI (λk v hv=>zg4);have Tj:Hid ((prog.info? 214).map (·.size)=some (ints y).length):=hI (by rw[dG,Cf.1];exact dh);have hsy:Hid ((prog.info? 214).map (·.size)=some (aN y).size):=hI (by rw[cY _ Cf.1];exact dh);have Y0:Hid ((aN aQ).size=(aN y).size):=hI (by rw[cY _ Cf.1];rfl);have Y1:Hid (bL (T+10) ((fs.take j).foldl (λs' y=>di s' gm.dst gm.src y) {s with way:=s.way.eraseIdx i,rs:=s.rs.set gm.dst q})):=hI ((bL.sends HM.out.2.1 HM.out.1 (fs.take j) Pu.out).mono (by rw[List.length_take];omega));have HST:Hid ((fs.take (j+1)).foldl (λs' y=>di s' gm.dst gm.src y) {s with way:=s.way.eraseIdx i,rs:=s.rs.set gm.dst q}=di ((fs.take j).foldl (λs' y=>di s' gm.dst gm.src y) {s with way:=s.way.eraseIdx i,rs:=s.rs.set gm.dst q}) gm.dst gm.src y):=hI (by
         rw[List.take_add_one,hy,List.foldl_append];rfl)
        clear hh hy Cf hj;go_upto_region 12 with(first
         |(refine wpList_load_mid rfl 214 (.tmp 75) rfl Pv (j*23) rfl (ints y) _ Ti.out underlying214 rfl Tj.out ?_)
         |(rw[<-gy];refine wpList_store_row rfl 214 (.tmp 9) (.tmp 76) rfl wr.heap.size (aN y) rfl rfl 214 (aN aQ) (Has.new wr 214 (aN aQ)) hsy.out Y0.out (dZ _) ?_))
        have h9:=yu wr y;change Code.wp _ _ _ _ (zu wr y);generalize zu wr y=w9 at*;obtain⟨k9,jw⟩:=h9;have Mt:=hI (HD.out.after jw);have V4:=hI (HS.out.trans (cU.below jw));have NF:=hI (sx.out.stay (cU.below jw));have b0:=Mt.out.box.aJ 0 _ rfl;have b1:=Mt.out.box.aJ 1 _ rfl;have hg9:=Mt.out.lt;generalize hG:wr.heap.size=g9 at*;clear hG jw HD HS sx Ti;go_wp2_with (first
         |(refine wpList_load_row rfl 214 (.tmp 9) rfl g9 rfl 214 (aN y) (0,0) _ k9 underlying214 rfl hsy.out ?_)
         |(go_at_call 132;refine(Ey Mt.out Y1.out oM gm.dst gm.src y YZ.out).mono ?_;rintro e wb ⟨rfl,hd2,dD⟩;have Y2:=hI hd2;have I1:=hI (V4.out.trans dD);have Tk:=hI (NF.out.stay dD);clear hd2 dD))
        go_roundw
        case rel=>exact⟨j+1,hlt,rF,by rw[HST.out];exact Y2,Tk,I1⟩
        case measure=>simp[intOf];omega
       ·(have hjn:j=fs.length:=by omega);exact zgW
   ·have HE:Hid (cO L s i={s with way:=s.way.eraseIdx i}):=hI (by rw[V3.out,if_neg (λh=>hs h.2)]);(have hne:(fr !=(gm.src:Int))=true:=by simpa using hs);(have he2:Ee er=.nilIface:=by rw[he];rfl);rw[he2];clear hs;exact zg3
  ·have HE:Hid (cO L s i={s with way:=s.way.eraseIdx i}):=hI (by rw[V3.out,if_neg (λh=>he h.1)]);(have he2:Ee er=.iface 31 (I er):=by unfold Ee;rw[if_neg he]);rw[he2];clear he;exact zg3
 ·have hii:s.way.length<=i:=by omega
  have HE:Hid (cO L s i=s):=hI (by
   unfold cO;rw[bV hii])
  clear h hv hf;go_enter func100,ntmps100;go_wp2;go_ret;exact⟨⟨_,rfl,λh=>absurd h (om.2 hii)⟩,by rw[HE.out];exact cN.start HH.out Te.out,cU.refl w⟩
theorem gY.since{x1:fV}{V:ae->Prop}{e:Ending}(_h1:cF w B x1 L s)(hm:dx w0 w x x1)(h:gY w B x1 L w V s' e w'):gY w0 B x L w V s' e w':=by obtain⟨h2,⟨x2,h3,h4,h5⟩,h6⟩:=h;exact⟨h2,⟨x2,h3,hm.trans h4,h5⟩,h6⟩
theorem Ez(h:cN w0 B x L s w)(hf:bL T s)(hL:L.Ok)(hT:T<=9999999900)(i:Nat)(hi:i<s.way.length\/s.way.length=0):Calls prog 100 #[pT x.g 0,I i] w (gY w0 B x L w (λv=>i<s.way.length->v=.nilIface) (cO L s i)):=by obtain⟨x1,h1,hm,hB⟩:=h;have hc:=JG h1 hB hf hL hT i hi;rw[hm.same]at hc;exact hc.mono λe w' h=>h.since h1 hm
theorem Pw(h:cN w0 B x L s w)(hf:bL T s)(hT:T<=9999999990)(i:Nat)(hi:i<s.way.length\/s.way.length=0):Calls prog 115 #[pT x.g 0,I i] w (gY w0 B x L w (λv=>i<s.way.length->v=.nilIface) (eI s i)):=by obtain⟨x1,h1,hm,hB⟩:=h;have hc:=Po h1 hB hf hT i hi;rw[hm.same]at hc;refine hc.mono ?_;rintro e w' ⟨⟨v,he,hn⟩,x2,h2,hm2⟩;exact⟨⟨_,he,hn⟩,cN.next h1 hm hB h2 hm2⟩
theorem Px(h:cN w0 B x L s w)(hL:L.Ok)(k:Nat)(hk:k<3):Calls prog 99 #[pT x.g 0,I k] w (gY w0 B x L w (·=.nilIface) (iz s k)):=by obtain⟨x1,h1,hm,hB⟩:=h;have hc:=Pq h1 hB hL k hk;rw[hm.same]at hc;refine hc.mono ?_;rintro e w' ⟨⟨v,he,hn⟩,x2,h2,hm2⟩;exact⟨⟨_,he,hn trivial⟩,cN.next h1 hm hB h2 hm2⟩
theorem cN.pq(h:cN w0 B x L s w):∃A c,w.cell? ⟨x.g,7,none⟩=some (.slice A s.way.length c):=by obtain⟨x1,h1,hm,_⟩:=h;obtain⟨A,c,_,h7⟩:=h1.pq;exact⟨A,c,by rw[<-hm.same];exact h7⟩
theorem Py(h:cN w0 B x L s w)(hf:bL T s)(hL:L.Ok)(hT:T<=9999980000):Calls prog 134 #[pT x.g 0] w (gY w0 B x L w (·=.tuple #[]) (ey L s 1200)):=by
 have HH:=hI h;have HF:=hI hf;clear h hf;go_enter func134,ntmps134;go_wp2_with fail;go_loopw [2] (λiv wr=>∃(k:Nat)(s':Sys),k<=1200/\iv=I k/\Hid (cN w0 B x L s' wr)/\Hid (bL (T+14*k) s')/\Hid (ey L s' (1200-k)=ey L s 1200)/\Hid (cU w wr)) (λiv _=>1200-(intOf iv).toNat)
 case atStart=>exact⟨0,s,oM,rfl,HH,HF,hI rfl,hI (cU.refl w)⟩
 case round=>
  clear HH HF;obtain⟨k,s',hk,rfl,HI,HF,HE,HS⟩:=hrel;have hg:=HI.out.lt;obtain⟨A,c,c7⟩:=HI.out.pq;by_cases h0:s'.way.length=0
  ·have HE2:Hid (ey L s 1200=s'):=hI (by
    rw[<-HE.out];cases 1200-k with
    |zero=>rfl
    |succ n=>rw[ey,if_pos h0])
   rw[h0]at c7;exact zg2
  ·(have hpos:0<s'.way.length:=by omega);by_cases hlt:k<1200
   ·(have hki:(k:Int)<1200:=by omega);have HP:=hI hpos;have HE2:Hid (ey L (cO L s' 0) (1200-(k+1))=ey L s 1200):=hI (by
     rw[<-HE.out,show 1200-k=(1200-(k+1))+1 by omega,ey,if_neg h0])
    have Pu:=hI (HF.out.cO hL 0);clear h0;(go_wp2_with (go_at_call 100;refine(Ez HI.out HF.out hL oM 0 (.inl HP.out)).mono ?_;rintro e wb ⟨⟨v,rfl,_⟩,hin2,dD⟩;have HI2:=hI hin2;have HS2:=hI (HS.out.trans dD);clear hin2 dD));go_roundw
    case rel=>exact⟨k+1,cO L s' 0,oM,rF,HI2,hI (Pu.out.mono oM),HE2,HS2⟩
    case measure=>simp[intOf];omega
   ·(have hk2:k=1200:=by omega);subst hk2;have HE2:Hid (ey L s 1200=s'):=hI (by rw[<-HE.out];rfl);exact zg2
def Tl(L:Lay)(s:Sys):Nat->Sys
 |0=>s
 |k+1=>gA L (Tl L s k) k
theorem vp{U:Nat}(h:bL U s)(hL:L.Ok):∀k,k<=3->bL (U+5*k) (Tl L s k)
 |0,_=>h
 |k+1,hk=>((vp h hL k oM).gA hL oM).mono oM
def tL(L:Lay)(N:Nat)(s:Sys):Nat->Sys
 |0=>s
 |k+1=>gF L N (tL L N s k)
theorem qz{U N:Nat}(hN:N=1200)(h:bL U s)(hL:L.Ok):∀k,bL (U+16815*k) (tL L N s k)
 |0=>h
 |k+1=>((qz hN h hL k).half hL N).mono oM
theorem Cg(N:Nat)(hN:N=1200)(h:cN w0 B x L s w)(hf:bL T s)(hL:L.Ok)(hT:T<=9999980000):Calls prog 134 #[pT x.g 0] w (gY w0 B x L w (·=.tuple #[]) (ey L s N)):=by rw[hN];exact Py h hf hL hT
theorem Tm(N:Nat)(hN:N=1200)(h:cN w0 B x L s w)(hf:bL T s)(hL:L.Ok)(n:Nat)(hn:n<=100)(hT:T<=9900000000):Calls prog 96 #[pT x.g 0,I n] w (gY w0 B x L w (·=.tuple #[]) (calm L N s n)):=by
 have HH:=hI h;have HF:=hI hf;clear h hf;go_enter func96,ntmps96;go_wp2_with fail;go_loopw [1] (λiv wr=>∃(m:Nat)(s':Sys),m<=n/\iv=I m/\Hid (cN w0 B x L s' wr)/\Hid (bL (T+50430*(n-m)) s')/\Hid (calm L N s' m=calm L N s n)/\Hid (cU w wr)) (λiv _=>(intOf iv).toNat)
 case atStart=>exact⟨n,s,aj _,rfl,HH,hI (HF.out.mono oM),hI rfl,hI (cU.refl w)⟩
 case round=>
  clear HH HF;obtain⟨m,s',hm,rfl,HI,HF,HE,HS⟩:=hrel;by_cases h0:m=0
  ·subst h0;go_wp2;go_end0;exact⟨⟨_,rfl,rfl⟩,by rw[<-HE.out];exact HI.out,HS.out⟩
  ·obtain⟨m',hm'⟩:∃m',m=m'+1:=⟨m-1,oM⟩;have HM:=hI hm';have hpos:0<m:=oM;have Dh:=hI (bL.ey hL N HF.out);have HE2:Hid (calm L N {tL L N (ey L s' N) 2 with v:=eM (tL L N (ey L s' N) 2).v} m'=calm L N s n):=hI (by rw[<-HE.out,hm'];rfl);clear h0 hm';(go_wp2_with (go_at_call 134;refine(Cg N hN HI.out HF.out hL oM).mono ?_;rintro e wb ⟨⟨v,rfl,rfl⟩,hin2,dD⟩;have HI2:=hI hin2;have HS2:=hI (HS.out.trans dD);clear hin2 dD));go_loopw [11] (λiv wi=>∃i:Nat,i<=2/\iv=I i/\Hid (cN w0 B x L (tL L N (ey L s' N) i) wi)/\Hid (cU w wi)) (λiv _=>2-(intOf iv).toNat)
   case atStart=>exact⟨0,oM,rfl,HI2,HS2⟩
   case round=>
    clear HI2 HS2 HI HS;obtain⟨i,hi,rfl,HI,HS⟩:=hrel;by_cases hi2:i<2
    ·have qO:=hI (qz hN Dh.out hL i);have hii:(i:Int)<2:=oM;have HI3:=hI hi2;clear hi2;go_wp2_with fail;go_loopw [13] (λkv wk=>∃k:Nat,k<=3/\kv=I k/\Hid (cN w0 B x L (Tl L (tL L N (ey L s' N) i) k) wk)/\Hid (cU w wk)) (λkv _=>3-(intOf kv).toNat)
     case atStart=>exact⟨0,oM,rfl,HI,HS⟩
     case round=>
      clear HI HS;obtain⟨k,hk,rfl,HI,HS⟩:=hrel;by_cases hk3:k<3
      ·have HK:=hI hk3;have hki:(k:Int)<3:=oM;clear hk3;have Gf:=hI (vp qO.out hL k oM);(go_wp2_with (go_at_call 112;refine(JE HI.out Gf.out hL oM k HK.out).mono ?_;rintro e wb ⟨⟨v,rfl,_⟩,hin2,dD⟩;have HI2:=hI hin2;have HS2:=hI (HS.out.trans dD);clear hin2 dD));go_roundw
       case rel=>exact⟨k+1,HK.out,rF,HI2,HS2⟩
       case measure=>have:=HK.out;simp[intOf];omega
      ·(have hk4:k=3:=by omega);subst hk4;have Gf:=hI (vp qO.out hL 3 oM);(go_wp2_with (go_at_call 134;refine(Cg N hN HI.out Gf.out hL oM).mono ?_;rintro e wb ⟨⟨v,rfl,rfl⟩,hin2,dD⟩;have HI2:=hI hin2;have HS2:=hI (HS.out.trans dD);clear hin2 dD));go_roundw
       case rel=>exact⟨i+1,HI3.out,rF,HI2,HS2⟩
       case measure=>have:=HI3.out;simp[intOf];omega
    ·(have hi3:i=2:=by omega);subst hi3;have qO:=hI (qz hN Dh.out hL 2);(go_wp2_with (go_at_call 112;refine(Ew HI.out qO.out.vo).mono ?_;rintro e wb ⟨⟨v,rfl,_⟩,hin2,dD⟩;have HI2:=hI hin2;have HS2:=hI (HS.out.trans dD);clear hin2 dD));go_roundw
     case rel=>exact⟨m',_,zg9,by rw[show(m:Int)-1=(m':Int)from zg9],HI2,hI (qO.out.eM.mono zg9),HE2,HS2⟩
     case measure=>simp[intOf];omega
end
theorem JJ{P:aF}{fn:Func}{a p u:Tmp}{ty:aw}(h:fn.results= #[.tmp a,.cell p ty,.tmp u])(tmps:bw)(w:aa)(g:Nat)(t:aw)(cs:bw)(d:TypeDesc)
 (hp:tmps.getD p undef=pT g 0)(hg:Has w g t cs)
 (hu:P.underlying ty=some d)(hd:(match d with|.struct _|.array _ _=>true|_=>false)=true)(hi:(P.info? ty).map (·.size)=some cs.size):
 (results fn tmps).run P w=.ok (.tuple #[tmps.getD a undef,.agg cs,tmps.getD u undef]) w:=by
 have hp':tmps[p]?.getD undef=pT g 0:=by simpa using hp
 simp[results,h,hp',asAddr,run_loadVar_row w g t ty cs (0,0) d hg hu hd hi]
section
variable {w0 w w':aa}{B:Nat}{x:fV}{L:Lay}{s:Sys}{T:Nat}
theorem NG{st:St}{M:Nat}(h:st.Fits M):(eV st).length=17:=by unfold eV;simp[ints,zs,h.lM,h.lN]
theorem JK(h:cF w B x L s)(hf:bL T s)(k:Nat)(hk':k<3):Calls prog 106 #[pT x.g 0,I k] w λe w'=>e=.returned (.tuple #[I ((re s k).cycle:Int),.agg (cJ (re s k).state),.nilIface])/\Below w.heap.size w w':=by
 have oN:=NG (hf.fits k hk').state;have hb:Below w.heap.size w (w.alloc (.cells fg 168)):=(Below.refl _ _).alloc (aj _) _;have k0:Has (w.alloc (.cells fg 168)) w.heap.size 168 (cJ St.zero):=Has.new w 168 fg;have hi2:(prog.info? 168).map (·.size)=some (cJ (re s k).state).size:=by unfold cJ;rw[bR,oN];exact eW
 have hz:(cJ St.zero).size=(cJ (re s k).state).size:=by unfold cJ;rw[bR,bR,oN];rfl
 have h1:(cJ (re s k).state).all (·.oneCell')=true:=by unfold cJ eV;exact all_oneCell_toArray λv hv=>by simp only[List.mem_cons,List.mem_append,ints,List.mem_map]at hv;rcases hv with rfl|⟨y,_,rfl⟩|⟨y,_,rfl⟩<;>rfl
 have hsy:cF (w.alloc (.cells fg 168)) B x L s:=h.after hb;have aaT:Hid (w.heap.size<=(w.alloc (.cells fg 168)).heap.size):=hI hb.size;have hki:(k:Int)<3:=oM;have hk1:k<=1000:=oM;have HD:=hI (show decide (k<3)=true by simpa using hk');have abn:=h.has.lt;clear h;go_enter func106,ntmps106;go_upto_region 1 with fail;generalize w.alloc (.cells fg 168)=w1 at*;have Tp:=hI (hsy.after ((Below.refl _ _).drew));have Me:=hI (OL (Tp.out.fP k hk'));have C6:=hI (OM (Tp.out.fP k hk') oN);have hgx:=hsy.has.lt;have HB:=hI hb;generalize hG:w.heap.size=g0 at*;have HG:=hI hG;clear hG hsy hb oN;go_upto_region 3 with(go_at_call 130;refine(nV k hk1).mono ?_;rintro e w' ⟨rfl,rfl⟩;rw[HD.out])
 refine wp_region_held_drew (S:=λwx=>(wx.cell? ⟨x.g,3+k,none⟩=some (pT (x.rb k) 0))) kR (Tp.out.vg hk') (λhHeld=>?_);refine wpAnyH_take (i:=0) (oi:={dst:=some 12,op:=Op.move (Operand.tmp 0),type:=52,pos:= "system.go:244",after:=#[],guard:=none}) (v:=pT x.g 0) rfl kR kR kR (λ_ _ _ h=>h) (Or.inl ⟨rF,?_⟩) hHeld ?_;exact zgY;simp only[Act.put,ax,aH,aI];refine wpAnyH_take (i:=1) (oi:={dst:=some 13,op:=Op.move (Operand.tmp 1),type:=3,pos:= "system.go:244",after:=#[],guard:=none}) (v:=I k) rfl kR kR kR (λ_ _ _ h=>h) (Or.inl ⟨rF,?_⟩) hHeld ?_;exact zgY;simp only[Act.put,ax,aH,aI];refine wpAnyH_take (i:=2) (oi:={dst:=some 14,op:=Op.nilCheck (Operand.tmp 12),type:=0,pos:= "system.go:244",after:=#[{on:=0,ground:=Ground.data}],guard:=none}) (v:=pT x.g 0) rfl kR kR kR (λ_ _ _ h=>h) (Or.inl ⟨rF,?_⟩) hHeld ?_;exact zgY;simp only[Act.put,ax,aH,aI];refine wpAnyH_take (i:=3) (oi:={dst:=some 15,op:=Op.fieldAddr 121 (Operand.tmp 14) 1,type:=0,pos:= "system.go:244",after:=#[{on:=2,ground:=Ground.data}],guard:=none}) (v:=pT x.g 3) rfl kR kR kR (λ_ _ _ h=>h) (Or.inl ⟨rF,?_⟩) hHeld ?_;exact zgY;simp only[Act.put,ax,aH,aI];refine wpAnyH_take (i:=4) (oi:={dst:=some 16,op:=Op.indexAddr 118 (Operand.tmp 15) (Operand.tmp 13),type:=0,pos:= "system.go:244",after:=#[{on:=3,ground:=Ground.data},{on:=1,ground:=Ground.data}],guard:=none}) (v:=pT x.g (3+k)) rfl kR kR kR (λ_ _ _ h=>h) (Or.inl ⟨rF,?_⟩) hHeld ?_;exact zgY;simp only[Act.put,ax,aH,aI];refine wpAnyH_take (i:=5) (oi:={dst:=some 17,op:=Op.load 117 (Operand.tmp 16),type:=117,pos:= "system.go:244",after:=#[{on:=4,ground:=Ground.data}],guard:=none}) (v:=pT (x.rb k) 0) rfl kR kR kR (λ_ _ _ h=>h) (Or.inl ⟨rF,?_⟩) hHeld ?_;exact zgY;simp only[Act.put,ax,aH,aI];refine wpAnyH_take (i:=7) (oi:={dst:=some 19,op:=Op.move (Operand.tmp 0),type:=52,pos:= "system.go:244",after:=#[],guard:=none}) (v:=pT x.g 0) rfl kR kR kR (λ_ _ _ h=>h) (Or.inl ⟨rF,?_⟩) hHeld ?_;exact zgY;simp only[Act.put,ax,aH,aI];refine wpAnyH_take (i:=8) (oi:={dst:=some 20,op:=Op.move (Operand.tmp 1),type:=3,pos:= "system.go:244",after:=#[],guard:=none}) (v:=I k) rfl kR kR kR (λ_ _ _ h=>h) (Or.inl ⟨rF,?_⟩) hHeld ?_;exact zgY;simp only[Act.put,ax,aH,aI];refine wpAnyH_take (i:=9) (oi:={dst:=some 21,op:=Op.nilCheck (Operand.tmp 19),type:=0,pos:= "system.go:244",after:=#[{on:=7,ground:=Ground.data}],guard:=none}) (v:=pT x.g 0) rfl kR kR kR (λ_ _ _ h=>h) (Or.inl ⟨rF,?_⟩) hHeld ?_;exact zgY;simp only[Act.put,ax,aH,aI];refine wpAnyH_take (i:=10) (oi:={dst:=some 22,op:=Op.fieldAddr 121 (Operand.tmp 21) 1,type:=0,pos:= "system.go:244",after:=#[{on:=9,ground:=Ground.data}],guard:=none}) (v:=pT x.g 3) rfl kR kR kR (λ_ _ _ h=>h) (Or.inl ⟨rF,?_⟩) hHeld ?_;exact zgY;simp only[Act.put,ax,aH,aI];refine wpAnyH_take (i:=11) (oi:={dst:=some 23,op:=Op.indexAddr 118 (Operand.tmp 22) (Operand.tmp 20),type:=0,pos:= "system.go:244",after:=#[{on:=10,ground:=Ground.data},{on:=8,ground:=Ground.data}],guard:=none}) (v:=pT x.g (3+k)) rfl kR kR kR (λ_ _ _ h=>h) (Or.inl ⟨rF,?_⟩) hHeld ?_;exact zgY;simp only[Act.put,ax,aH,aI];refine wpAnyH_take (i:=12) (oi:={dst:=some 24,op:=Op.load 117 (Operand.tmp 23),type:=117,pos:= "system.go:244",after:=#[{on:=11,ground:=Ground.data}],guard:=none}) (v:=pT (x.rb k) 0) rfl kR kR kR (λ_ _ _ h=>h) (Or.inl ⟨rF,?_⟩) hHeld ?_;exact zgY;simp only[Act.put,ax,aH,aI];refine wpAnyH_ready (rs:=[6]) kR sM (AllReadyH.cons (o:={dst:=some 18,op:=Op.call {callee:=Callee.value (Operand.func 142),args:=#[Operand.tmp 17],argTypes:=#[117]},type:=3,pos:= "system.go:244",after:=#[{on:=5,ground:=Ground.data}],guard:=none}) rfl (λK hK=>?_) AllReadyH.nil);go_simp;go_at_call 142;refine Me.out.mono ?_;rintro e wt ⟨rfl,rfl⟩;refine hK.out _ _ hHeld (λhHeld=>?_);clear hK K;try simp only[Act.put,ax,aH,aI]
 refine wpAnyH_ready (rs:=[13]) kR sM (AllReadyH.cons (o:={dst:=some 25,op:=Op.call {callee:=Callee.value (Operand.func 143),args:=#[Operand.tmp 24],argTypes:=#[117]},type:=168,pos:= "system.go:244",after:=#[{on:=12,ground:=Ground.data},{on:=6,ground:=Ground.chain}],guard:=none}) rfl (λK hK=>?_) AllReadyH.nil);go_simp;go_at_call 143;refine C6.out.mono ?_;rintro e wt ⟨rfl,hbt⟩;have Y3:=hI hbt;have KT:=hI (k0.drew.after hbt);clear hbt;refine hK.out _ _ ((Tp.out.after Y3.out).vg hk') (λhHeld=>?_);clear hK K;try simp only[Act.put,ax,aH,aI]
 refine wpAnyH_take (i:=14) (oi:={dst:=some 4,op:=Op.assign (Operand.tmp 18),type:=3,pos:= "system.go:244",after:=#[{on:=6,ground:=Ground.data},{on:=13,ground:=Ground.chain},{on:=0,ground:=Ground.phase},{on:=1,ground:=Ground.phase},{on:=2,ground:=Ground.phase},{on:=3,ground:=Ground.phase},{on:=4,ground:=Ground.phase},{on:=5,ground:=Ground.phase},{on:=6,ground:=Ground.phase},{on:=7,ground:=Ground.textOnly Departure.lateStores},{on:=8,ground:=Ground.textOnly Departure.lateStores},{on:=9,ground:=Ground.textOnly Departure.lateStores},{on:=10,ground:=Ground.textOnly Departure.lateStores},{on:=11,ground:=Ground.textOnly Departure.lateStores},{on:=12,ground:=Ground.textOnly Departure.lateStores},{on:=13,ground:=Ground.textOnly Departure.lateStoresUnsure}],guard:=none}) (v:=I (re s k).cycle) rfl kR kR kR (λ_ _ _ h=>h) (Or.inl ⟨rF,?_⟩) hHeld ?_;exact zgY;simp only[Act.put,ax,aH,aI];refine wpAnyH_ready (rs:=[15]) kR sM (AllReadyH.cons (o:={dst:=none,op:=Op.store 168 (Operand.tmp 5) (Operand.tmp 25),type:=0,pos:= "system.go:244",after:=#[{on:=13,ground:=Ground.data},{on:=14,ground:=Ground.chain},{on:=0,ground:=Ground.phase},{on:=1,ground:=Ground.phase},{on:=2,ground:=Ground.phase},{on:=3,ground:=Ground.phase},{on:=4,ground:=Ground.phase},{on:=5,ground:=Ground.phase},{on:=6,ground:=Ground.phase},{on:=7,ground:=Ground.phase},{on:=8,ground:=Ground.phase},{on:=9,ground:=Ground.phase},{on:=10,ground:=Ground.phase},{on:=11,ground:=Ground.phase},{on:=12,ground:=Ground.phase},{on:=13,ground:=Ground.phase},{on:=14,ground:=Ground.phase}],guard:=none}) rfl (λK hK=>?_) AllReadyH.nil);rw[if_pos rF];refine wp_store_row 168 (.tmp 5) (.tmp 25) rfl g0 (cJ (re s k).state) rfl rfl 168 (cJ St.zero) KT.out hi2 hz h1 ?_;refine hK.out _ _ ((World.cell?_of_block (w:=wt) (a:=⟨x.g,3+k,none⟩) (iH wt g0 _ x.g oM)).trans ((Tp.out.after Y3.out).vg hk')) (λhHeld=>?_);clear hK K;try simp only[Act.put]
 refine wpAnyH_take (i:=16) (oi:={dst:=some 6,op:=Op.assign (Operand.const Value.nilIface),type:=25,pos:= "system.go:244",after:=#[{on:=15,ground:=Ground.chain},{on:=0,ground:=Ground.phase},{on:=1,ground:=Ground.phase},{on:=2,ground:=Ground.phase},{on:=3,ground:=Ground.phase},{on:=4,ground:=Ground.phase},{on:=5,ground:=Ground.phase},{on:=6,ground:=Ground.phase},{on:=7,ground:=Ground.phase},{on:=8,ground:=Ground.phase},{on:=9,ground:=Ground.phase},{on:=10,ground:=Ground.phase},{on:=11,ground:=Ground.phase},{on:=12,ground:=Ground.phase},{on:=13,ground:=Ground.phase},{on:=14,ground:=Ground.phase},{on:=15,ground:=Ground.phase}],guard:=none}) (v:=.nilIface) rfl kR kR kR (λ_ _ _ h=>h) (Or.inl ⟨rF,?_⟩) hHeld ?_;exact zgY;simp only[Act.put,ax,aH,aI];refine wpAnyH_done kR ?_ _;go_wp2_with fail;have hbw:Below g0 w1 wt:=(show Below g0 w1 w1.drew from(Below.refl _ _).drew).trans (Y3.out.mono aaT.out);exact bodyPost_ret (JJ rfl _ _ g0 _ (cJ (re s k).state) _ rfl (KT.out.setRow _) underlying168 rfl hi2) rfl ⟨rfl,by rw[HG.out];exact below_setRow (HB.out.trans hbw) (aj _) _⟩
end
def fX:ae:=.iface 31 (I 2)
theorem nY(k:Int)(h:¬(0<=k/\k<3))(w:aa):Calls prog 130 #[I k] w λe w'=>e=.returned (.bool false)/\w=w':=by by_cases h0:0<=k;have h2:¬k<3:=λh3=>h ⟨h0,h3⟩;exact zhg;exact zhg
section
variable {w:aa}{B:Nat}{x:fV}{L:Lay}{s:Sys}
theorem Tq(g:Nat)(k a b:Int)(hk:¬(0<=k/\k<3))(w:aa):Calls prog 107 #[pT g 0,I k,.agg #[I a,I b]] w λe w'=>e=.returned fX/\Below w.heap.size w w':=by
 go_enter func107,ntmps107;go_wp2_with (go_at_call 130;refine(nY k hk _).mono ?_;rintro e w' ⟨rfl,rfl⟩)
 go_ret;exact⟨rfl,(Below.refl _ _).alloc (aj _) _⟩
theorem Pz(g:Nat)(k:Int)(hk:¬(0<=k/\k<3))(w:aa):Calls prog 95 #[pT g 0,I k] w λe w'=>e=.returned fX/\Below w.heap.size w w':=by
 go_enter func95,ntmps95;go_wp2_with (go_at_call 130;refine(nY k hk _).mono ?_;rintro e w' ⟨rfl,rfl⟩)
 exact zgV
theorem Mu(g:Nat)(k:Int)(hk:¬(0<=k/\k<3))(w:aa):Calls prog 99 #[pT g 0,I k] w λe w'=>e=.returned fX/\Below w.heap.size w w':=by
 go_enter func99,ntmps99;go_wp2_with (go_at_call 130;refine(nY k hk _).mono ?_;rintro e w' ⟨rfl,rfl⟩)
 exact zgV
theorem PC(g:Nat)(k:Int)(hk:¬(0<=k/\k<3))(h3:¬k=3)(w:aa):Calls prog 112 #[pT g 0,I k] w λe w'=>e=.returned fX/\Below w.heap.size w w':=by
 have h4:(k==3)=false:=by simpa using h3
 go_enter func112,ntmps112;go_wp2_with (go_at_call 130;refine(nY k hk _).mono ?_;rintro e w' ⟨rfl,rfl⟩)
 exact zgV
theorem Gm(g:Nat)(k:Int)(hk:¬(0<=k/\k<3))(w:aa):Calls prog 106 #[pT g 0,I k] w λe w'=>e=.returned (.tuple #[I 0,.agg (cJ St.zero),fX])/\Below w.heap.size w w':=by
 go_enter func106,ntmps106;go_wp2_with (go_at_call 130;refine(nY k hk _).mono ?_;rintro e w' ⟨rfl,rfl⟩)
 exact bodyPost_ret (JJ rfl _ _ w.heap.size _ (cJ St.zero) _ rfl (Has.new w 168 (cJ St.zero)) underlying168 rfl eW) rfl ⟨rfl,(Below.refl _ _).alloc (aj _) _⟩
theorem Gn(h:cF w B x L s)(i:Int)(hi:¬(0<=i/\i<s.way.length)):Calls prog 100 #[pT x.g 0,I i] w λe w'=>e=.returned fX/\Below w.heap.size w w':=by
 obtain⟨A,c,hv,c7⟩:=h.pq;have hg:=h.has.lt;clear h hv;by_cases h0:0<=i
 ·have h1:¬i<s.way.length:=λh2=>hi ⟨h0,h2⟩;go_enter func100,ntmps100;go_wp2;exact zgV
 ·go_enter func100,ntmps100;go_wp2;exact zgV
theorem PD(h:cF w B x L s)(i:Int)(hi:¬(0<=i/\i<s.way.length)):Calls prog 102 #[pT x.g 0,I i] w λe w'=>e=.returned fX/\Below w.heap.size w w':=by
 obtain⟨A,c,hv,c7⟩:=h.pq;have hg:=h.has.lt;clear h hv;by_cases h0:0<=i
 ·have h1:¬i<s.way.length:=λh2=>hi ⟨h0,h2⟩;go_enter func102,ntmps102;go_wp2;exact zgV
 ·go_enter func102,ntmps102;go_wp2;exact zgV
theorem Mv(h:cF w B x L s)(i:Int)(hi:¬(0<=i/\i<s.way.length)):Calls prog 115 #[pT x.g 0,I i] w λe w'=>e=.returned fX/\Below w.heap.size w w':=by
 obtain⟨A,c,hv,c7⟩:=h.pq;have hg:=h.has.lt;clear h hv;by_cases h0:0<=i
 ·have h1:¬i<s.way.length:=λh2=>hi ⟨h0,h2⟩;go_enter func115,ntmps115;go_wp2;exact zgV
 ·go_enter func115,ntmps115;go_wp2;exact zgV
theorem Ts(h:cF w B x L s):Calls prog 104 #[pT x.g 0] w λe w'=>e=.returned (I (s.lost:Int))/\w=w':=by have c8:=h.cell 8 (I s.lost) rfl;have hg:=h.has.lt;clear h;go_enter func104,ntmps104;go_wp2;exact zgZ
end
section
variable {w0 w w':aa}{B:Nat}{L:Lay}
def NH(vr:ae)(L:Lay)(vb:Nat)(rb:Nat->Nat)(k:Nat):bw:=#[I L.secs,vr,I L.delay,(if 0<k then pT (rb 0) 0 else .pointer none),(if 1<k then pT (rb 1) 0 else .pointer none),(if 2<k then pT (rb 2) 0 else .pointer none),pT vb 0,.slice none 0 0,I 0]
theorem Tt(vr:ae)(L:Lay)(vb:Nat)(rb:Nat->Nat){k:Nat}(hk:k<3):(NH vr L vb rb k)[3+k]?=some (.pointer none):=by exact zg0
theorem PE(vr:ae)(L:Lay)(vb:Nat)(rb:Nat->Nat){k:Nat}(hk:k<3)(g:Nat):(NH vr L vb rb k).setIfInBounds (3+k) (pT g 0)=NH vr L vb (upd rb k g) (k+1):=by exact zg0
def NewAt(w0:aa)(g2 gs vb:Nat)(vr:ae)(L:Lay)(win:Int)(k:Nat)(rb cb:Nat->Nat)(wr:aa):Prop:=
 Has wr gs 121 (NH vr L vb rb k)/\Has wr g2 51 #[I L.secs,vr,I L.delay]/\wr.ownsRow 0 3 1 vr L.routes.length (ints (zs L.routes))/\fo wr g2 vb (.slice none 0 0) (Vo.new win)/\
 (∀j,j<k->cK wr (rb j) (cb j) L (Re.new j)/\g2<=rb j/\rb j<wr.heap.size)/\(∀i j,i<k->j<k->rb i=rb j->i=j)/\g2<=gs/\Below g2 w0 wr
theorem Xd{wx:aa}{g2 n cR:Nat}{AR:Option Addr}(h:Has wx g2 51 #[I L.secs,.slice AR n cR,I L.delay]):wx.cell? ⟨g2,0,none⟩=some (I L.secs)/\wx.cell? ⟨g2,1,none⟩=some (.slice AR n cR)/\wx.cell? ⟨g2,2,none⟩=some (I L.delay):=
 ⟨h.aJ 0 _ rfl,h.aJ 1 _ rfl,h.aJ 2 _ rfl⟩
theorem NewAt.step{wr wn:aa}{g2 gs vb k:Nat}{vr:ae}{win:Int}{rb cb:Nat->Nat}(h:NewAt w0 g2 gs vb vr L win k rb cb wr)(hk:k<3){gr gc:Nat}(hgr:wr.heap.size<=gr)(hr:cK wn gr gc L (Re.new k))(hb:Below wr.heap.size wr wn):
 NewAt w0 g2 gs vb vr L win (k+1) (upd rb k gr) (upd cb k gc) (wn.setCell ⟨gs,3+k,none⟩ (pT gr 0)):=by
 obtain⟨h1,h2,h3,h4,h5,h6,h7,h8⟩:=h;have k1:=h1.after hb;have ht:Turned (λb=>b=gs) wn (wn.setCell ⟨gs,3+k,none⟩ (pT gr 0)):=(Turned.refl _ _).setCell _ _ (.inl rfl);have hF:∀b,b=gs->wY wn b:=λb e=>⟨_,_,e▸k1,rfl⟩;have hsz:wn.heap.size=(wn.setCell ⟨gs,3+k,none⟩ (pT gr 0)).heap.size:=by simp[World.setCell]
 have hgs:=h1.lt;refine⟨by rw[<-PE _ _ _ _ hk];exact k1.set _ _,(h2.after hb).fW ht hF dC,abr (eD h3 hb) ht hF dC,(h4.after hb).turned ht ?_,λj hj=>?_,λi j hi hj e=>?_,h7,(h8.trans (hb.mono oM)).setCell h7 _⟩;rintro b (rfl|hb') e;exact(h4.after hb).has.ne k1 dC e;simp[Value.ownBlock]at hb';unfold upd;by_cases e:j=k;subst e;rw[if_pos rfl,if_pos rfl];refine⟨hr.fW ht hF λe=>hr.has.ne k1 dC e,oM,?_⟩;rw[<-hsz];exact hr.has.lt;rw[if_neg e,if_neg e];obtain⟨a1,a2,a3⟩:=h5 j oM;have a4:=a1.after hb;refine⟨a4.fW ht hF λe=>a4.has.ne k1 dC e,a2,?_⟩;rw[<-hsz];exact a4.has.lt;unfold upd at e;split at e;split at e;omega;have:=(h5 j oM).2.2;omega;split at e;have:=(h5 i oM).2.2;omega;exact h6 i j oM oM e
theorem NewAt.sy{wr:aa}{g2 gs vb:Nat}{vr:ae}{win:Int}{rb cb:Nat->Nat}(h:NewAt w0 g2 gs vb vr L win 3 rb cb wr):cF wr g2 ⟨gs,rb,cb,vb,.slice none 0 0,vr,.slice none 0 0,[]⟩ L (Sys.new win):=by obtain⟨h1,h2,h3,h4,h5,h6,h7,h8⟩:=h;refine⟨h1,h3,rfl,λk hk=>?_,λi j hi hj e=>h6 i j hi hj e,h4,World.ownsRow_nil _ _ _ _,rfl,λi gm v e=>(by cases e),h7,λk hk=>(h5 k hk).2.1⟩;have:k=0\/k=1\/k=2:=oM;rcases this with rfl|rfl|rfl;exact(h5 0 hk).1;exact(h5 1 hk).1;exact(h5 2 hk).1
theorem V5(A:Option Addr)(n c:Nat)(L:Lay)(w:aa)(hL:L.Ok)(mC:Hid (L.routes.length=n))(hc:n<=c)(hr:Reads w w.heap.size A (ints (zs L.routes)))(win:Int)(hw1:1<=win)(hw2:win<=20):
 Calls prog 40 #[.agg #[I L.secs,.slice A n c,I L.delay],I win] w λe w'=>(∃x,e=.returned (.tuple #[pT x.g 0,.nilIface])/\cF w' w.heap.size x L (Sys.new win))/\Below w.heap.size w w':=by
 obtain⟨i0,hi0,hz0,hz1,hz2⟩:=info_parts rL;have hnn:=mC.out;subst hnn;have hn1:1<=L.routes.length:=hL.many1;have Bz:L.routes.length<=8:=hL.ja;obtain⟨ab,ao,hA⟩:∃ab ao,A=some ⟨ab,ao,none⟩:=by obtain⟨b,o,e,_⟩:=hr (by intro h;have:=congrArg List.length h;rw[dG,dw]at this;simp at this;rw[this]at hn1;simp at hn1);exact⟨b,o,e⟩
 subst hA;have hb1:Below w.heap.size w (w.alloc (.cells #[I L.secs,.slice (some ⟨ab,ao,none⟩) L.routes.length c,I L.delay] 51)):=(Below.refl _ _).alloc (aj _) _;have k2:=Has.new w 51 #[I L.secs,.slice (some ⟨ab,ao,none⟩) L.routes.length c,I L.delay];have hsz1:(w.alloc (.cells #[I L.secs,.slice (some ⟨ab,ao,none⟩) L.routes.length c,I L.delay] 51)).heap.size=w.heap.size+1:=sM;have hok:=hI (rM hL);have hxz:Hid ((zs L.routes).length=L.routes.length):=hI (dw _);go_enter func40,ntmps40;go_upto_region 1 with fail;generalize w.alloc (.cells #[I L.secs,.slice (some ⟨ab,ao,none⟩) L.routes.length c,I L.delay] 51)=w1 at*;generalize hG:w.heap.size=g2 at*;have HG:=hI hG;have HR1:=hI ((hr.below hb1).more (oM:g2<=w1.heap.size));have HB1:=hI hb1;have a0:=k2.aJ 0 (I L.secs) rfl;have a1:=k2.aJ 1 (.slice (some ⟨ab,ao,none⟩) L.routes.length c) rfl;have a2:=k2.aJ 2 (I L.delay) rfl;clear hG hr hb1;go_upto_region 4 with(go_at_call 60;refine(xX _ _ _ _ _ (zs L.routes) _ w1.heap.size hxz Bz hc (aj _) HR1.out hok).mono ?_;rintro e w2 ⟨rfl,hb2⟩)
 have k22:=k2.after hb2;have HR2:=hI ((HR1.out.below hb2).more hb2.size);have HB2:=hI (HB1.out.trans (hb2.mono oM));have Xe:=k22.lt;clear k2 hb2 HR1 HB1 hsz1 a0 a1 a2;go_upto_region 7 with(go_at_call 61;refine(VD win hw1 hw2 w2).mono ?_;rintro e w3 ⟨⟨rfl,yq⟩,hb3⟩)
 have k23:=k22.after hb3;have HR3:=hI ((HR2.out.below hb3).more hb3.size);have HB3:=hI (HB2.out.trans (hb3.mono oM));have Y4:=hI yq;have aaU:=k23.lt;have hvl:=Y4.out.has.lt;generalize hVB:w2.heap.size=vb at*;have hvb:g2<vb:=Xe;clear k22 hb3 HR2 HB2 yq hVB Xe;have d1:=k23.aJ 1 _ rfl;go_upto_region 8 with(at_builtin;go_loud (refine il rfl (.tmp 24) (.tmp 26) 49 rfl w3.heap.size 3 i0 (.int .i64 0) 1 8 underlying49 hi0 hz0 hz1 hz2 rfl dC _ _ _ rfl (World.ownsRow_lit w3 #[] 0 (aj _) (bT _) rfl) w3.heap.size (some ⟨ab,ao,none⟩) L.routes.length c (ints (zs L.routes)) rfl (λh=>by cases h) (by rw[dG,hxz.out,Nat.mul_one]) ?c2 (ya _) ?c3 ?c4 ?c5 ?_))
 case c2=>exact HR3.out.alloc (aj _) _
 case c3=>unfold maxLen;omega
 case c4=>omega
 case c5=>simp
 intro v1 w4 Bn qh;have hb4:Below w3.heap.size w3 w4:=((Below.refl _ _).alloc (aj _) _).grown qh sM (λq hq=>by simp[Value.ownBlock]at hq;omega);have FT:Hid (w4.ownsRow 0 3 1 v1 L.routes.length (ints (zs L.routes))):=hI (by exact iW (by simpa using Bn) (bT _));have k24:=k23.after hb4;have d1:=k24.aJ 1 _ rfl;have f1:=k24.free 1;have HV4:=hI (Y4.out.after hb4);have V6:=hI (HB3.out.trans (hb4.mono oM));have aaV:=k24.lt;have Y5:=hI k24;clear Bn qh HR3 Y4 HB3 k23 hb4 aaU hvl k24;obtain⟨AR,cR,rfl,hcR,_,_,_⟩:=ix FT.out;go_upto_region 8 with fail;have k25:Has (w4.setCell ⟨g2,1,none⟩ (.slice AR L.routes.length cR)) g2 51 #[I L.secs,.slice AR L.routes.length cR,I L.delay]:=Y5.out.set 1 _;have hF:∀b,b=g2->¬FV vb (.slice none 0 0) b:=λb e h=>by rcases h with h|h;omega;simp[Value.ownBlock]at h
 have ht5:Turned (λb=>b=g2) w4 (w4.setCell ⟨g2,1,none⟩ (.slice AR L.routes.length cR)):=(Turned.refl _ _).setCell _ _ (.inl rfl);have hv5:=HV4.out.turned ht5 (λb hb e=>hF b e hb);have HV5:Hid (fo (w4.setCell ⟨g2,1,none⟩ (.slice AR L.routes.length cR)) g2 vb (.slice none 0 0) (Vo.new win)):=hI ⟨hv5.has,World.ownsRow_nil _ _ _ _,oM⟩;have Rz:Hid ((w4.setCell ⟨g2,1,none⟩ (.slice AR L.routes.length cR)).ownsRow 0 3 1 (.slice AR L.routes.length cR) L.routes.length (ints (zs L.routes))):=hI (ew FT.out Y5.out dC _ _);have VZ:=hI (V6.out.setCell (p:=⟨g2,1,none⟩) (aj _) (.slice AR L.routes.length cR));clear hF ht5 hv5 HV4 FT V6 d1 f1 Y5;generalize w4.setCell ⟨g2,1,none⟩ (.slice AR L.routes.length cR)=w5 at*;have e0:=k25.aJ 0 _ rfl;have e1:=k25.aJ 1 _ rfl;have e2:=k25.aJ 2 _ rfl;have hg5:=k25.lt;go_upto_region 9 with fail;have hb6:Below w5.heap.size w5 (w5.alloc (.cells #[I L.secs,.slice AR L.routes.length cR,I L.delay,.pointer none,.pointer none,.pointer none,pT vb 0,.slice none 0 0,I 0] 121)):=(Below.refl _ _).alloc (aj _) _;have HN0:Hid (NewAt w g2 w5.heap.size vb (.slice AR L.routes.length cR) L win 0 (λ_=>0) (λ_=>0) (w5.alloc (.cells #[I L.secs,.slice AR L.routes.length cR,I L.delay,.pointer none,.pointer none,.pointer none,pT vb 0,.slice none 0 0,I 0] 121))):=hI ⟨Has.new w5 _ _,k25.after hb6,eD Rz.out hb6,HV5.out.after hb6,λj hj=>oM,λi j hi hj=>oM,oM,VZ.out.trans (hb6.mono oM)⟩;clear hb6 e0 e1 e2 k25 Rz HV5 VZ aaV;generalize w5.alloc (.cells #[I L.secs,.slice AR L.routes.length cR,I L.delay,.pointer none,.pointer none,.pointer none,pT vb 0,.slice none 0 0,I 0] 121)=w6 at*;generalize w5.heap.size=gs at*;go_wp2_with fail;go_loopw [33] (λiv wr=>∃k:Nat,k<=3/\iv=I k/\∃rb cb,Hid (NewAt w g2 gs vb (.slice AR L.routes.length cR) L win k rb cb wr)) (λiv _=>3-(intOf iv).toNat)
 case atStart=>exact⟨0,oM,rfl,_,_,HN0⟩
 case round=>
  clear HN0;obtain⟨k,hk,rfl,rb,cb,hnew⟩:=hrel;by_cases hlt:k<3
  ·have hk3:=hI hlt;have hki:(k:Int)<3:=oM;have pK:Hid (∀wx,Below wr.heap.size wr wx->wx.cell? ⟨g2,0,none⟩=some (I L.secs)/\wx.cell? ⟨g2,1,none⟩=some (.slice AR L.routes.length cR)/\wx.cell? ⟨g2,2,none⟩=some (I L.delay)):=hI (λwx hb=>Xd (hnew.out.2.1.after hb));have hgs:=hnew.out.1.lt;have HC:=hI (NE k hlt AR L.routes.length cR L wr.drew hL (hI rfl) hcR (by
    obtain⟨A',c',e,_,_,_,hrd⟩:=ix hnew.out.2.2.1;injection e with e1 e2 e3;rw[e1];exact hrd))
   clear hlt hk;(go_upto_region 12 with fail;refine wp_region_held_drew (S:=λwx=>(wx.cell? ⟨g2,0,none⟩=some (I L.secs))/\(wx.cell? ⟨g2,1,none⟩=some (.slice AR L.routes.length cR))/\(wx.cell? ⟨g2,2,none⟩=some (I L.delay))) kR (pK.out wr.drew ((Below.refl _ _).drew)) (λhHeld=>?_);refine wpAnyH_take (i:=0) (oi:={dst:=some 37,op:=Op.move (Operand.tmp 9),type:=52,pos:= "system.go:41",after:=#[],guard:=none}) (v:=pT gs 0) rfl kR kR kR (λ_ _ _ h=>h) (Or.inl ⟨rF,?_⟩) hHeld ?_);exact zgT;simp only[Act.put,ax,aH,aI];refine wpAnyH_take (i:=1) (oi:={dst:=some 38,op:=Op.move (Operand.tmp 10),type:=3,pos:= "system.go:41",after:=#[],guard:=none}) (v:=I k) rfl kR kR kR (λ_ _ _ h=>h) (Or.inl ⟨rF,?_⟩) hHeld ?_;exact zgT;simp only[Act.put,ax,aH,aI];refine wpAnyH_take (i:=2) (oi:={dst:=some 39,op:=Op.move (Operand.tmp 10),type:=3,pos:= "system.go:41",after:=#[],guard:=none}) (v:=I k) rfl kR kR kR (λ_ _ _ h=>h) (Or.inl ⟨rF,?_⟩) hHeld ?_;exact zgT;simp only[Act.put,ax,aH,aI];refine wpAnyH_take (i:=3) (oi:={dst:=some 40,op:=Op.load 51 (Operand.tmp 2),type:=51,pos:= "system.go:41",after:=#[],guard:=none}) (v:=.agg #[I L.secs,.slice AR L.routes.length cR,I L.delay]) rfl kR kR kR (λ_ _ _ h=>h) (Or.inl ⟨rF,?_⟩) hHeld ?_;exact zgT;simp only[Act.put,ax,aH,aI];refine wpAnyH_take (i:=8) (oi:={dst:=some 44,op:=Op.nilCheck (Operand.tmp 37),type:=0,pos:= "system.go:41",after:=#[{on:=0,ground:=Ground.data}],guard:=none}) (v:=pT gs 0) rfl kR kR kR (λ_ _ _ h=>h) (Or.inl ⟨rF,?_⟩) hHeld ?_;exact zgT;simp only[Act.put,ax,aH,aI];refine wpAnyH_take (i:=9) (oi:={dst:=some 45,op:=Op.fieldAddr 121 (Operand.tmp 44) 1,type:=0,pos:= "system.go:41",after:=#[{on:=8,ground:=Ground.data}],guard:=none}) (v:=pT gs 3) rfl kR kR kR (λ_ _ _ h=>h) (Or.inl ⟨rF,?_⟩) hHeld ?_;exact zgT;simp only[Act.put,ax,aH,aI];refine wpAnyH_ready (rs:=[4]) kR sM (AllReadyH.cons (o:={dst:=some 41,op:=Op.call {callee:=Callee.value (Operand.func 62),args:=#[Operand.tmp 39,Operand.tmp 40],argTypes:=#[3,51]},type:=122,pos:= "system.go:41",after:=#[{on:=2,ground:=Ground.data},{on:=3,ground:=Ground.data}],guard:=none}) rfl (λK hK=>?_) AllReadyH.nil);go_simp;go_at_call 62;refine HC.out.mono ?_;rintro e wn ⟨⟨gr,gc,hgr,rfl,hr⟩,Xf⟩;have hbn:Below wr.heap.size wr wn:=(show Below wr.heap.size wr wr.drew from(Below.refl _ _).drew).trans Xf;have HST:=hI (NewAt.step hnew.out hk3.out hgr hr hbn);have HSN:=hI (pK.out wn hbn);have dk:=(hnew.out.1.after hbn).aJ (3+k) _ (Tt _ _ _ _ hk3.out);have fk:=(hnew.out.1.after hbn).free (3+k);have HFG:=hI (hnew.out.2.1.after hbn);have VN:=hI (hnew.out.1.after hbn);clear hgr hr hbn Xf;refine hK.out _ _ HSN.out (λhHeld=>?_);clear hK K;(try simp only[Act.put,ax,aH,aI]);refine wpAnyH_take (i:=5) (oi:={dst:=some 36,op:=Op.move (Operand.tmp 41),type:=122,pos:= "system.go:41",after:=#[{on:=4,ground:=Ground.data}],guard:=none}) (v:=.tuple #[pT gr 0,.nilIface]) rfl kR kR kR (λ_ _ _ h=>h) (Or.inl ⟨rF,?_⟩) hHeld ?_;exact zgT;simp only[Act.put,ax,aH,aI];refine wpAnyH_take (i:=6) (oi:={dst:=some 42,op:=Op.extract (Operand.tmp 36) 0,type:=117,pos:= "system.go:41",after:=#[{on:=5,ground:=Ground.data}],guard:=none}) (v:=pT gr 0) rfl kR kR kR (λ_ _ _ h=>h) (Or.inl ⟨rF,?_⟩) hHeld ?_;exact zgT;simp only[Act.put,ax,aH,aI];refine wpAnyH_take (i:=7) (oi:={dst:=some 43,op:=Op.extract (Operand.tmp 36) 1,type:=25,pos:= "system.go:41",after:=#[{on:=5,ground:=Ground.data},{on:=11,ground:=Ground.gcOnly Departure.lateStores}],guard:=none}) (v:=.nilIface) rfl kR kR kR (λ_ _ _ h=>h) (Or.inl ⟨rF,?_⟩) hHeld ?_;exact zgT;simp only[Act.put,ax,aH,aI];refine wpAnyH_take (i:=10) (oi:={dst:=some 46,op:=Op.indexAddr 118 (Operand.tmp 45) (Operand.tmp 38),type:=0,pos:= "system.go:41",after:=#[{on:=9,ground:=Ground.data},{on:=1,ground:=Ground.data},{on:=0,ground:=Ground.phase},{on:=1,ground:=Ground.phase},{on:=2,ground:=Ground.phase},{on:=3,ground:=Ground.phase},{on:=4,ground:=Ground.phase},{on:=5,ground:=Ground.phase},{on:=6,ground:=Ground.phase},{on:=7,ground:=Ground.textOnly Departure.lateStores}],guard:=none}) (v:=pT gs (3+k)) rfl kR kR kR (λ_ _ _ h=>h) (Or.inl ⟨rF,?_⟩) hHeld ?_;exact zgT;simp only[Act.put,ax,aH,aI];refine wpAnyH_ready (rs:=[11]) kR sM (AllReadyH.cons (o:={dst:=none,op:=Op.store 117 (Operand.tmp 46) (Operand.tmp 42),type:=0,pos:= "system.go:41",after:=#[{on:=10,ground:=Ground.data},{on:=6,ground:=Ground.data},{on:=4,ground:=Ground.chain},{on:=0,ground:=Ground.phase},{on:=1,ground:=Ground.phase},{on:=2,ground:=Ground.phase},{on:=3,ground:=Ground.phase},{on:=4,ground:=Ground.phase},{on:=5,ground:=Ground.phase},{on:=6,ground:=Ground.phase},{on:=7,ground:=Ground.textOnly Departure.lateStores}],guard:=none}) rfl (λK hK=>?_) AllReadyH.nil);go_simp;refine hK.out _ _ (Xd (HFG.out.far (HFG.out.ne VN.out dC) _)) (λhHeld=>?_);clear hK K;(try simp only[Act.put,ax,aH,aI]);refine wpAnyH_done kR ?_ _;go_wp2_with fail;go_roundw
   case rel=>exact⟨k+1,hk3.out,rF,_,_,HST⟩
   case measure=>have:=hk3.out;simp[intOf];omega
  ·(have hk3:k=3:=by omega);subst hk3;go_wp2;go_ret2;rw[HG.out];exact⟨⟨_,rfl,hnew.out.sy⟩,hnew.out.2.2.2.2.2.2.2⟩
end
end Go.Proofs.YtdhekhlmdefcnaaGreatDoor
