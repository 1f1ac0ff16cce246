/- Part 11 of the proof. -/
import Derived.Test.YtdhekhlmdefcnaaGreatDoorPart10
import Derived.Recover
import Derived.Lib.ItoaLen
import Derived.Laws.Pointers
set_option maxHeartbeats 16000000
set_option maxRecDepth 1000000
namespace Go
section
variable {p:Prop}
theorem zbk(h:p:=by clear av H;go_simp;exact hk _ hM):p:=h
theorem zbl(h:p:=by refine .inr (.inr (.inl ⟨dC,0,rfl,λΓ b hba=>dN rfl (λli ac wx H hn av hM K hk=>?_)⟩));have e6:ac.tmps[6]?.getD undef=pT (Γ 0) 0:=H.k av 9 6;have e19:ac.tmps[19]?.getD undef=.agg #[I n2,.slice (some ⟨bn,3,none⟩) (nl-3) (cb-3),I n1]:=H.k av 8 19;have hM1:=hM;simp only[aL,aK]at hM1;have hdf:=hI (H.cA.defers.trans fp);clear av H;have hal:=hM1.2 (hba kR);refine wp_store_row 51 (.tmp 6) (.tmp 19) rfl (Γ 0) #[I n2,.slice (some ⟨bn,3,none⟩) (nl-3) (cb-3),I n1] (eval_at e6) (eval_at e19) 51 #[I 0,.slice none 0 0,I 0] hal.1 Cn rfl (by simp[Value.oneCell']) ?_;exact hk Γ _ (ll Γ) ⟨below_setRow hM1.1 hal.2 _,hal.1.setRow _,hal.2⟩):p:=h
theorem zbm(h:p:=by refine aM rfl (λli ac wx H hn av hM K hk=>?_);have e22:ac.tmps[22]?.getD undef=pT g 3:=H.k av 15 22;have hM1:=hM;simp only[aL,aK]at hM1;clear av H;(have lZ:Below w1.heap.size w1 wx:=by first|exact hM1|exact hM1.1);have c3:=(Below.cell lZ (p:=⟨g,3,none⟩) hg).trans hc3;go_simp;exact hk _ hM):p:=h
theorem zbn(h:p:=by refine aM rfl (λli ac wx H hn av hM K hk=>?_);have e11:ac.tmps[11]?.getD undef=pT g 3:=H.k av 2 11;have hM1:=hM;simp only[aL,aK]at hM1;clear av H;first|exact hM1.elim|(have lZ:Below w.heap.size w wx:=(by first|exact hM1.1|exact hM1.1.1);have c3:=(Below.cell lZ (p:=⟨g,3,none⟩) hg).trans hc3;clear lZ;go_simp;exact hk _ hM)):p:=h
theorem zbo(h:p:=by have hM1:=hM;simp only[aL,aK]at hM1;clear av H;have c3:=(Below.cell hM1 (p:=⟨g,3,none⟩) hg).trans hc3;go_simp;exact hk _ hM):p:=h
theorem zbp(h:p:=by refine dN rfl (λli ac wx H hn av hM K hk=>?_);have hM1:(λΓ b=>λwx=>Below w1.heap.size w1 wx/\(b=true->Has wx (Γ 0) 51 #[I 0,.slice none 0 0,I 0]/\w1.heap.size<=Γ 0)) Γ false wx:=hM;clear av H;go_simp;exact hk (Γ.set 0 wx.heap.size) _ (jB _ _ _) ⟨Below.alloc hM1.1 hM1.1.size _,λ_=>⟨Has.new _ _ _,hM1.1.size⟩⟩):p:=h
theorem zbq(h:p:=by have hM1:=hM;simp only[aL,aK]at hM1;clear av H;have c0:=(Below.cell hM1 (p:=⟨bn,0,none⟩) hbl).trans hq0;go_simp;exact hk _ hM):p:=h
theorem zbr(h:p:=by refine aM rfl (λli ac wx' H hn av hM K hk=>?_);have e6:ac.tmps[6]?.getD undef=pT gl 0:=bP ((H.cA.slot dC).trans f6);have hM1:=hM;simp only[aL,aK]at hM1;clear av H;have kl:=HL.out.after hM1;have c0:=kl.aJ 0 _ rfl;have c1:=kl.aJ 1 _ rfl;have c2:=kl.aJ 2 _ rfl;have hgl:=kl.lt;go_simp;exact hk _ hM):p:=h
theorem zbs(h:p:=by refine aM rfl (λli ac wx H hn av hM K hk=>?_);have e15:ac.tmps[15]?.getD undef=pT bn 2:=H.k av 4 15;have hM1:=hM;simp only[aL,aK]at hM1;clear av H;have c2:=(Below.cell hM1.1 (p:=⟨bn,2,none⟩) hbl).trans hq2;go_simp;exact hk _ hM):p:=h
theorem zbt(h:p:=by refine aM rfl (λli ac wx H hn av hM K hk=>?_);have e12:ac.tmps[12]?.getD undef=pT bn 1:=H.k av 1 12;have hM1:=hM;simp only[aL,aK]at hM1;clear av H;have c1:=(Below.cell hM1.1 (p:=⟨bn,1,none⟩) hbl).trans hq1;go_simp;exact hk _ hM):p:=h
theorem zbu(h:p:=by refine .inr (.inr (.inl ⟨dC,2,rfl,λΓ b hba=>dN rfl (λli ac wx H hn av hM K hk=>?_)⟩));have e11:ac.tmps[11]?.getD undef=I p1:=H.k av 4 11;have e16:ac.tmps[16]?.getD undef=I p2:=H.k av 9 16;have hM1:=hM;simp only[aL,aK]at hM1;have hdf:=hI (H.cA.defers.trans fp);clear av H;go_simp;exact hk (Γ.set 0 wx.heap.size) _ (jB _ _ _) ⟨Below.alloc hM1 hM1.size _,Has.new _ _ _⟩):p:=h
theorem zbv(h:p:=by refine aM rfl (λli ac wx H hn av hM K hk=>?_);have e11:ac.tmps[11]?.getD undef=pT g 3:=H.k av 2 11;have hM1:(λ_ _=>λ_=>False) Γ b wx:=hM;clear av H;first|exact hM1.elim|(have lZ:Below w.heap.size w wx:=(by first|exact hM1.1|exact hM1.1.1);have c3:=(Below.cell lZ (p:=⟨g,3,none⟩) hg).trans hc3;clear lZ;go_simp;exact hk _ hM)):p:=h
theorem zbw(h:p:=by refine .inr (.inr (.inl ⟨dC,1,rfl,λΓ b hba=>dN rfl (λli ac wx H hn av hM K hk=>?_)⟩));have e15:ac.tmps[15]?.getD undef=pT x.g 0:=H.k av 8 15;have hM1:=hM;simp only[aL,aK]at hM1;have hdf:=hI (H.cA.defers.trans fp);clear av H;go_simp;refine(Ze.out wx hM1).mono ?_;rintro e w' ⟨rfl,rfl⟩;exact hk Γ _ (ll Γ) hM1):p:=h
theorem zbx(h:p:=by simp only[bB,hr]):p:=h
theorem zby(h:p:=by refine aM rfl (λli ac wx H hn av hM K hk=>?_);have e19:ac.tmps[19]?.getD undef=pT bn 2:=H.k av 11 19;have hM1:=hM;simp only[aL,aK]at hM1;clear av H;have c2:=(Below.cell hM1 (p:=⟨bn,2,none⟩) hbl).trans hq2;go_simp;exact hk _ hM):p:=h
theorem zbz(h:p:=by refine aM rfl (λli ac wx H hn av hM K hk=>?_);have e16:ac.tmps[16]?.getD undef=pT bn 1:=H.k av 8 16;have hM1:=hM;simp only[aL,aK]at hM1;clear av H;have c1:=(Below.cell hM1 (p:=⟨bn,1,none⟩) hbl).trans hq1;go_simp;exact hk _ hM):p:=h
theorem zbA(h:p:=by have HE2:=hI hE2;clear hE2;(go_wp2_with (go_at_call 41;refine(eJ 2 w1 (hI eE.out.et)).mono ?_;rintro e w3 ⟨rfl,hb3⟩));exact⟨rfl,by rw[HE2.out];exact cv.same (a:=.err 2) HH.out (HB.out.trans (hb3.mono HB.out.size)) rfl⟩):p:=h
theorem zbB(h:p:=by show(pT (Γ 0) 0:ae)=pT (ei 0) 0;rw[hu 0 dC]):p:=h
theorem zbC(h:p:=by have hM1:(λ_ _=>λ_=>False) Γ b wx:=hM;have hdf:=hI (H.cA.defers.trans fp);clear av H;exact hM1.elim):p:=h
theorem zbD(h:p:=by have hM1:=hM;simp only[aL,aK]at hM1;have hdf:=hI (H.cA.defers.trans fp);clear av H;go_simp;refine(HX.out wx hM1).mono ?_;rintro e w' ⟨rfl,hi⟩;exact hk Γ _ (ll Γ) (hI ⟨wx,hM1,hi⟩)):p:=h
theorem zbE(h:p:=by exact⟨rfl,cv.same HH.out hb rfl⟩):p:=h
theorem zbF(h:p:=by have:=ng hr.out;have h2:=hw.out.many;simp at this;omega):p:=h
theorem zbG(h:p:=by show(.tuple #[.pointer none,.iface 149 (pT (Γ 0) 0)]:ae)=.tuple #[.pointer none,.iface 149 (pT (ei 0) 0)];rw[hu 0 dC]):p:=h
theorem zbH(h:p:=by show(.slice (some ⟨Γ 0,0,none⟩) 1 (Γ 1):ae)=.slice (some ⟨ei 0,0,none⟩) 1 (ei 1);rw[hu 0 dC,hu 1 dC]):p:=h
theorem zbI(h:p:=by rw[show 3+j=j+1+1+1 by omega];exact hu):p:=h
theorem zbJ(h:p:=by unfold eP at hok;simp only[aV,decide_eq_true_eq]at hok;exact⟨n0.toNat,oM,oM⟩):p:=h
theorem zbK(h:p:=by intro y hy;simp at hy;rcases hy with rfl|rfl;exact HI.out.1;exact HI.out.2):p:=h
theorem zbL(h:p:=by show(.slice (some ⟨Γ 0,0,none⟩) 2 2:ae)=.slice (some ⟨ei 0,0,none⟩) 2 2;rw[hu 0 dC]):p:=h
theorem zbM(h:p:=by rw[PS.out.cell];exact Dn.out j u hu):p:=h
theorem zbN(h:p:=by exact⟨rfl,rfl,yy.out.trans ((HM.out.trans (hb3.mono HM.out.size)).mono yy.out.size)⟩):p:=h
theorem zbO(h:p:=by rintro e w' ⟨rfl,hb⟩;exact cv.same h hb rfl):p:=h
theorem zbP(h:p:=by show(.tuple #[pT (Γ 0) 0,.nilIface]:ae)=.tuple #[pT (ei 0) 0,.nilIface];rw[hu 0 dC]):p:=h
theorem zbQ(h:p:=by intro Γ b ac wx hF hK hM0;have hM:(λ_ _=>λ_=>False) Γ b wx:=hM0;exact hM.elim):p:=h
theorem zbR(h:p:=by rintro e w' ⟨rfl,hb⟩;exact hk Γ _ (ll Γ) (hM1.trans (hb.mono hM1.size))):p:=h
theorem zbS(h:p:=by show(.iface 149 (pT (Γ 0) 0):ae)=.iface 149 (pT (ei 0) 0);rw[hu 0 dC]):p:=h
theorem zbT(h:p:=by go_enter func61,ntmps61;go_wp2;go_ret2;exact⟨rfl,rfl⟩):p:=h
theorem zbU(h:p:=by unfold eP at hok;simpa using hok):p:=h
theorem zbV(h:p:=by refine .inl ⟨dC,dC,λΓ M=>aM rfl (λli ac wx H hn av hM K hk=>?_)⟩;have e5:ac.tmps[5]?.getD undef=.slice (some ⟨bn,0,none⟩) nl cb:=bP ((H.cA.slot dC).trans f5);exact zbk):p:=h
theorem zbW(h:p:=by refine .inl ⟨dC,dC,λΓ M=>aM rfl (λli ac wx H hn av hM K hk=>?_)⟩;have e0:ac.tmps[0]?.getD undef=pT g 0:=bP ((H.cA.slot dC).trans f0);exact zbk):p:=h
theorem zbX(h:p:=by refine .inl ⟨dC,dC,λΓ M=>aM rfl (λli ac wx H hn av hM K hk=>?_)⟩;have e5:ac.tmps[5]?.getD undef=.slice (some ⟨bn,0,none⟩) 3 cb:=bP ((H.cA.slot dC).trans f5);exact zbk):p:=h
theorem zbY(h:p:=by refine .inl ⟨dC,dC,λΓ M=>aM rfl (λli ac wx H hn av hM K hk=>?_)⟩;have e13:ac.tmps[13]?.getD undef=I n1:=H.k av 2 13;have e16:ac.tmps[16]?.getD undef=I n2:=H.k av 5 16;have e18:ac.tmps[18]?.getD undef=.slice (some ⟨bn,3,none⟩) (nl-3) (cb-3):=H.k av 7 18;exact zbk):p:=h
theorem zbZ(h:p:=by refine .inl ⟨dC,dC,λΓ M=>aM rfl (λli ac wx' H hn av hM K hk=>?_)⟩;have e5:ac.tmps[5]?.getD undef=.slice (some ⟨bn,0,none⟩) nl cb:=bP ((H.cA.slot dC).trans f5);exact zbk):p:=h
theorem zb0(h:p:=by refine .inl ⟨dC,dC,λΓ M=>aM rfl (λli ac wx' H hn av hM K hk=>?_)⟩;have e22:ac.tmps[22]?.getD undef=.slice (some ⟨bn,0,none⟩) nl cb:=H.k av 1 22;exact zbk):p:=h
theorem zb1(h:p:=by refine .inl ⟨dC,dC,λΓ M=>aM rfl (λli ac wx H hn av hM K hk=>?_)⟩;have e17:ac.tmps[17]?.getD undef=.slice (some ⟨bn,0,none⟩) nl cb:=H.k av 6 17;exact zbk):p:=h
theorem zb2(h:p:=by refine .inl ⟨dC,dC,λΓ M=>aM rfl (λli ac wx H hn av hM K hk=>?_)⟩;have e14:ac.tmps[14]?.getD undef=.slice (some ⟨bn,0,none⟩) nl cb:=H.k av 3 14;exact zbk):p:=h
theorem zb3(h:p:=by refine .inl ⟨dC,dC,λΓ M=>aM rfl (λli ac wx H hn av hM K hk=>?_)⟩;have e11:ac.tmps[11]?.getD undef=.slice (some ⟨bn,0,none⟩) nl cb:=H.k av 0 11;exact zbk):p:=h
theorem zb4(h:p:=by refine aM rfl (λli ac wx H hn av hM K hk=>?_);have e14:ac.tmps[14]?.getD undef=pT g 3:=H.k av 7 14;exact zbo):p:=h
theorem zb5(h:p:=by refine .inl ⟨dC,dC,λΓ M=>aM rfl (λli ac wx H hn av hM K hk=>?_)⟩;have e8:ac.tmps[8]?.getD undef=.tuple #[I cy,.agg cs,er]:=H.k av 9 8;exact zbk):p:=h
theorem zb6(h:p:=by refine .inl ⟨dC,dC,λΓ M=>aM rfl (λli ac wx H hn av hM K hk=>?_)⟩;have e8:ac.tmps[8]?.getD undef=.tuple #[I 0,I 0,I 0]:=H.k av 9 8;exact zbk):p:=h
theorem zb7(h:p:=by refine aM rfl (λli ac wx' H hn av hM K hk=>?_);have e23:ac.tmps[23]?.getD undef=pT bn 0:=H.k av 2 23;exact zbq):p:=h
theorem zb8(h:p:=by refine .inl ⟨dC,dC,λΓ M=>aM rfl (λli ac wx H hn av hM K hk=>?_)⟩;have e17:ac.tmps[17]?.getD undef=I n1:=H.k av 9 17;have e20:ac.tmps[20]?.getD undef=I n2:=H.k av 12 20;exact zbk):p:=h
theorem zb9(h:p:=by refine .inl ⟨dC,dC,λΓ M=>aM rfl (λli ac wx' H hn av hM K hk=>?_)⟩;have e20:ac.tmps[20]?.getD undef=.tuple #[.pointer none,.iface 149 (pT (Γ 0) 0)]:=H.k av 5 20;exact zbk):p:=h
theorem zca(h:p:=by refine .inl ⟨dC,dC,λΓ M=>aM rfl (λli ac wx' H hn av hM K hk=>?_)⟩;have e20:ac.tmps[20]?.getD undef=.tuple #[.pointer none,.iface 31 (I ee)]:=H.k av 5 20;exact zbk):p:=h
theorem zcb(h:p:=by refine .inl ⟨dC,dC,λΓ M=>aM rfl (λli ac wx H hn av hM K hk=>?_)⟩;have e14:ac.tmps[14]?.getD undef=.slice (some ⟨Γ 0,0,none⟩) 1 (Γ 1):=H.k av 5 14;exact zbk):p:=h
theorem zcc(h:p:=by refine .inl ⟨dC,dC,λΓ M=>aM rfl (λli ac wx H hn av hM K hk=>?_)⟩;have e18:ac.tmps[18]?.getD undef=.slice (some ⟨bn,0,none⟩) 3 cb:=H.k av 10 18;exact zbk):p:=h
theorem zcd(h:p:=by refine .inl ⟨dC,dC,λΓ M=>aM rfl (λli ac wx H hn av hM K hk=>?_)⟩;have e1:ac.tmps[1]?.getD undef=.slice A l.length c:=bP ((H.cA.slot dC).trans f1);exact zbk):p:=h
theorem zce(h:p:=by refine .inl ⟨dC,dC,λΓ M=>aM rfl (λli ac wx H hn av hM K hk=>?_)⟩;have e15:ac.tmps[15]?.getD undef=.slice (some ⟨bn,0,none⟩) 3 cb:=H.k av 7 15;exact zbk):p:=h
theorem zcf(h:p:=by refine .inl ⟨dC,dC,λΓ M=>aM rfl (λli ac wx H hn av hM K hk=>?_)⟩;have e12:ac.tmps[12]?.getD undef=.slice (some ⟨bn,0,none⟩) 3 cb:=H.k av 4 12;exact zbk):p:=h
theorem zcg(h:p:=by refine .inl ⟨dC,dC,λΓ M=>aM rfl (λli ac wx' H hn av hM K hk=>?_)⟩;have e20:ac.tmps[20]?.getD undef=.tuple #[pT (Γ 0) 0,.nilIface]:=H.k av 5 20;exact zbk):p:=h
theorem zch(h:p:=by refine .inl ⟨dC,dC,λΓ M=>aM rfl (λli ac wx' H hn av hM K hk=>?_)⟩;have e26:ac.tmps[26]?.getD undef=.pointer none:=H.k av 6 26;exact zbk):p:=h
theorem zci(h:p:=by rintro e w' ⟨rfl,rfl⟩;exact hk Γ _ (ll Γ) hM1):p:=h
theorem zcj(h:p:=by refine .inl ⟨dC,dC,λΓ M=>aM rfl (λli ac wx H hn av hM K hk=>?_)⟩;have e13:ac.tmps[13]?.getD undef=pT g 0:=H.k av 6 13;exact zbk):p:=h
theorem zck(h:p:=by refine .inl ⟨dC,dC,λΓ M=>aM rfl (λli ac wx H hn av hM K hk=>?_)⟩;have e12:ac.tmps[12]?.getD undef=pT g 0:=H.k av 5 12;exact zbk):p:=h
theorem zcl(h:p:=by refine .inl ⟨dC,dC,λΓ M=>aM rfl (λli ac wx H hn av hM K hk=>?_)⟩;have e10:ac.tmps[10]?.getD undef=pT g 0:=H.k av 1 10;exact zbk):p:=h
theorem zcm(h:p:=by refine .inl ⟨dC,dC,λΓ M=>aM rfl (λli ac wx H hn av hM K hk=>?_)⟩;have e9:ac.tmps[9]?.getD undef=pT g 0:=H.k av 1 9;exact zbk):p:=h
theorem zcn(h:p:=by refine .inl ⟨dC,dC,λΓ M=>aM rfl (λli ac wx H hn av hM K hk=>?_)⟩;have e9:ac.tmps[9]?.getD undef=pT g 0:=H.k av 0 9;exact zbk):p:=h
theorem zco(h:p:=by refine .inl ⟨dC,dC,λΓ M=>aM rfl (λli ac wx H hn av hM K hk=>?_)⟩;have e8:ac.tmps[8]?.getD undef=pT g 0:=H.k av 1 8;exact zbk):p:=h
theorem zcp(h:p:=by refine .inl ⟨dC,dC,λΓ M=>aM rfl (λli ac wx H hn av hM K hk=>?_)⟩;have e8:ac.tmps[8]?.getD undef=pT g 0:=H.k av 0 8;exact zbk):p:=h
theorem zcq(h:p:=by refine .inl ⟨dC,dC,λΓ M=>aM rfl (λli ac wx H hn av hM K hk=>?_)⟩;have e7:ac.tmps[7]?.getD undef=pT g 0:=H.k av 0 7;exact zbk):p:=h
theorem zcr(h:p:=by refine aM rfl (λli ac wx H hn av hM K hk=>?_);have e13:ac.tmps[13]?.getD undef=pT bn 0:=H.k av 5 13;exact zbq):p:=h
theorem zcs(h:p:=by refine aM rfl (λli ac wx H hn av hM K hk=>?_);have e10:ac.tmps[10]?.getD undef=pT g 3:=H.k av 2 10;exact zbo):p:=h
theorem zct(h:p:=by refine aM rfl (λli ac wx H hn av hM K hk=>?_);have e9:ac.tmps[9]?.getD undef=pT g 3:=H.k av 2 9;exact zbo):p:=h
theorem zcu(h:p:=by have:=lm hr.out;simp at this;omega):p:=h
theorem zcv(h:p:=by rintro e w' ⟨rfl,hb⟩;exact hk Γ _ (ll Γ) (hM1.1.trans (hb.mono hM1.1.size))):p:=h
theorem zcw(h:p:=by rw[Zg.out];simp;omega):p:=h
theorem zcx(h:p:=by show 2<=1000;decide):p:=h
end
end Go
namespace Go.Proofs.YtdhekhlmdefcnaaGreatDoor
open Go.Proofs.Tryz Go.RowKit
section
variable {w:aa}{B g:Nat}{x:fV}{vr:ae}{d:Dk}{T:Nat}{A:Option Addr}{l:List ay}
theorem vy{w:aa}{g:Nat}{a b:Int}(h:Has w g 3 #[I a,I b]):Reads w w.heap.size (some ⟨g,0,none⟩) (ints [a,b]):=λ_=>⟨g,0,rfl,h.lt,λj u hu=>by rw[cG,h.cell];simpa[ints]using hu⟩
theorem xq(a b:List UInt8):(⟨a.toArray⟩:ay)++(⟨b.toArray⟩:ay)=⟨(a++b).toArray⟩:=by apply Go.WideShapes.bytes_inj;simp[ByteArray.data_append]
theorem TX{a b:Int}(ha:eu a)(hb:eu b):(⟨(eF [a,b]).toArray⟩:ay).size<=1000:=by
 have h:=join_le 21 [32] [Lib.itoa a,Lib.itoa b] (by intro y hy;simp at hy;rcases hy with rfl|rfl;exact Lib.itoa_length_le _ ha.1 ha.2;exact Lib.itoa_length_le _ hb.1 hb.2);have e:(⟨(eF [a,b]).toArray⟩:ay).size=(Lib.join [Lib.itoa a,Lib.itoa b] [32]).length:=by simp[ByteArray.size,eF]
 rw[e];exact aS h (show(21+1)*2<=1000 by decide)
theorem Cl{s:Sys}{T:Nat}(h:bL T s):eu (fD s.v):=by unfold fD;split;exact⟨dC,dC⟩;split;rename_i c hc;exact(h.trace c (List.mem_of_getLast? hc)).2.2;exact⟨dC,dC⟩
theorem xt{w:aa}(hw:Hid (Words w A l))(c:Nat)(k:Int)(hk1: -100<=k)(hk2:k<=100)(hs:Hid (Std w)){n:List Int}(hr:numsOf l k=some n):
 Calls prog 39 #[.slice A l.length c,I k] w λe w'=>(∃v,e=.returned v/\w'.ownsRow w.heap.size 3 1 v n.length (ints n))/\Below w.heap.size w w':=
 oQ A c l k hk1 hk2 hw.out.many hw.out.size w hw.out.reads hs _ (hI hr)
theorem JZ{l:List ay}{k:Int}{n:List Int}(h:numsOf l k=some n)(hk:0<=k):(n.length:Int)=k:=by unfold numsOf at h;split at h;cases h;rename_i hb;rw[iC h];unfold na at hb;rw[if_pos hk]at hb;simpa using hb
theorem PR{n:List Int}(h:(n.length:Int)=3):∃n0 n1 n2,n=[n0,n1,n2]:=by
 match n,h with
 |[a,b,c],_=>exact⟨a,b,c,rfl⟩
theorem Wk(h:dV w B g x vr d)(hf:bL T d.s)(_hT:T<=9900000000)(hw:Words w A l)(c:Nat)(hs:Std w):Calls prog 77 #[pT g 0,.slice A l.length c] w (cv w B g x (bB .many d l)):=by
 have HH:=hI h;have HW:=hI hw;have HS:=hI hs;have HF:=hI hf;clear h hw hs hf;cases hr:numsOf l 0 with
 |none=>
  have HE:Hid (bB .many d l=(d,.err 3)):=hI zbx;rw[HE.out];have HN:=hI (fF HW c 0 dC dC HS hr);clear hr HE;go_enter func77,ntmps77;go_wp2_with (go_at_call 39;refine HN.out.mono ?_;rintro e w1 ⟨rfl,hb⟩)
  exact zbE
 |some n=>
  have HE:Hid (bB .many d l=(d,.txt (eF [(d.s.way.length:Int),(d.s.lost:Int)]))):=hI zbx;rw[HE.out];have HN:=hI (oc HW c HS hr);clear hr HE;go_enter func77,ntmps77;go_upto_region 2 with(go_at_call 39;refine HN.out.mono ?_;rintro e w1 ⟨⟨v,rfl⟩,hb⟩;have HB:=hI hb;clear hb)
  have H1:=hI (HH.out.after HB.out);have eE:=hI (HS.out.after HB.out);have hc3:=H1.out.c3;have hg:=H1.out.has.lt;have hn1:eu (d.s.way.length:Int):=eu.nat (by have:=HF.out.way;omega);have hn2:eu (d.s.lost:Int):=eu.nat (by have:=HF.out.lost;omega);have HI:=hI (And.intro hn1 hn2);have Zd:Hid (∀wx,Below w1.heap.size w1 wx->Calls prog 103 #[pT x.g 0] wx λe w'=>e=.returned (I (d.s.way.length:Int))/\wx=w'):=hI (λwx hb=>S8 (H1.out.after hb).sys);have Ze:Hid (∀wx,Below w1.heap.size w1 wx->Calls prog 104 #[pT x.g 0] wx λe w'=>e=.returned (I (d.s.lost:Int))/\wx=w'):=hI (λwx hb=>Ts (H1.out.after hb).sys);clear hn1 hn2;generalize (d.s.way.length:Int)=p1 at*;generalize (d.s.lost:Int)=p2 at*;refine eK kR (λb0=>b0.tmps.getD 0 undef=pT g 0/\b0.defers=[]) ⟨rfl,rfl⟩ 19 rfl (λ_=>0) (λ(Γ:jW) i=>([pT g 0,pT g 0,pT g 3,pT x.g 0,I p1,pT g 0,pT g 0,pT g 3,pT x.g 0,I p2,.slice (some ⟨Γ 0,0,none⟩) 2 2,.string ⟨(eF [p1,p2]).toArray⟩,.string ⟨(eF [p1,p2]).toArray⟩]:List ae).getD i undef) [4,9,10,11] kR (λi=>([[],[],[],[],[],[],[],[],[],[],[0],[],[]]:List (List Nat)).getD i []) (λi=>([[],[],[],[],[],[],[],[],[],[],[0],[],[]]:List (List Nat)).getD i []) 13 kR ?_ (λj Γ b=>([(λ_ _=>λwx=>Below w1.heap.size w1 wx) Γ b,(λ_ _=>λwx=>Below w1.heap.size w1 wx) Γ b,(λ_ _=>λwx=>Below w1.heap.size w1 wx) Γ b,(λΓ _=>λwx=>Below w1.heap.size w1 wx/\Has wx (Γ 0) 3 #[I p1,I p2]) Γ b,(λ_ _=>λwx=>Below w1.heap.size w1 wx) Γ b]:List (aa->Prop)).getD j (λ_=>True)) [7,8,9,10,11,12,13,14,15,16,17,18,4] kR kR ((Below.refl _ _).drew) ?_ ?_;intro Γ ei j hj hu;have hj2:j<13:=hj;have hcase:j=0\/j=1\/j=2\/j=3\/j=4\/j=5\/j=6\/j=7\/j=8\/j=9\/j=10\/j=11\/j=12:=oM;clear hj hj2;rcases hcase with rfl|rfl|rfl|rfl|rfl|rfl|rfl|rfl|rfl|rfl|rfl|rfl|rfl;rfl;rfl;rfl;rfl;rfl;rfl;rfl;rfl;rfl;rfl;exact zbL;rfl;rfl
  ·intro b0 hb0 i o ho;have hi:i<13:=(az.1 ho).1;obtain⟨f0,fp⟩:=hb0;have hcase:i=0\/i=1\/i=2\/i=3\/i=4\/i=5\/i=6\/i=7\/i=8\/i=9\/i=10\/i=11\/i=12:=oM;clear hi;rcases hcase with rfl|rfl|rfl|rfl|rfl|rfl|rfl|rfl|rfl|rfl|rfl|rfl|rfl<;>simp only[ba,bf,aY]at ho<;>cases ho
   ·exact zbW
   ·exact zcq
   ·exact zco
   ·refine .inr (.inr (.inr ⟨dC,dC,0,4,rfl,kR,λΓ b j hj=>?_⟩));have hj2:j=0:=oM;clear hj;subst hj2;exact zct
   ·refine .inr (.inr (.inl ⟨dC,0,rfl,λΓ b hba=>dN rfl (λli ac wx H hn av hM K hk=>?_)⟩));have e10:ac.tmps[10]?.getD undef=pT x.g 0:=H.k av 3 10;have hM1:=hM;simp only[aK]at hM1;have hdf:=hI (H.cA.defers.trans fp);clear av H;go_simp;refine(Zd.out wx hM1).mono ?_;exact zci
   ·exact zbW
   ·exact zck
   ·exact zcj
   ·refine .inr (.inr (.inr ⟨dC,dC,1,9,rfl,kR,λΓ b j hj=>?_⟩));have hj2:j=0\/j=1:=oM;clear hj;rcases hj2 with rfl|rfl;exact zb4;exact zb4
   ·exact zbw
   ·exact zbu
   ·refine .inr (.inr (.inl ⟨dC,3,rfl,λΓ b hba=>dN rfl (λli ac wx H hn av hM K hk=>?_)⟩));have e17:ac.tmps[17]?.getD undef=.slice (some ⟨Γ 0,0,none⟩) 2 2:=H.k av 10 17;have hM1:=hM;simp only[aL,aK]at hM1;have hdf:=hI (H.cA.defers.trans fp);clear av H;go_simp;refine(sF _ _ [p1,p2] zcx zbK wx (vy hM1.2) (hI (eE.out.after hM1.1))).mono ?_;exact zcv
   ·refine .inl ⟨dC,dC,λΓ M=>aM rfl (λli ac wx H hn av hM K hk=>?_)⟩;have e18:ac.tmps[18]?.getD undef=.string ⟨(eF [p1,p2]).toArray⟩:=H.k av 11 18;exact zbk
  ·intro Γ b ac wx hF hK hM0;have hM:(λ_ _=>λwx=>Below w1.heap.size w1 wx) Γ b wx:=hM0;have E4:ac.tmps.getD 4 undef=.string ⟨(eF [p1,p2]).toArray⟩:=hK 12 _ rfl 4 rfl;have aW:=hF.meet;simp only[bG,bS,ax,aI,aH,E4]at aW;generalize ac.tmps.getD 7 undef=v7,ac.tmps.getD 8 undef=v8,ac.tmps.getD 9 undef=v9,ac.tmps.getD 10 undef=v10,ac.tmps.getD 11 undef=v11,ac.tmps.getD 12 undef=v12,ac.tmps.getD 13 undef=v13,ac.tmps.getD 14 undef=v14,ac.tmps.getD 15 undef=v15,ac.tmps.getD 16 undef=v16,ac.tmps.getD 17 undef=v17,ac.tmps.getD 18 undef=v18 at aW;clear hF hK hM0 E4;subst aW;go_wp2;go_ret;exact cv.same HH.out (HB.out.trans (hM.mono HB.out.size)) rfl
theorem Wl(h:dV w B g x vr d)(hf:bL T d.s)(_hT:T<=9900000000)(hw:Words w A l)(c:Nat)(hs:Std w):Calls prog 81 #[pT g 0,.slice A l.length c] w (cv w B g x (bB .show d l)):=by
 have HH:=hI h;have HW:=hI hw;have HS:=hI hs;have HF:=hI hf;clear h hw hs hf;cases hr:numsOf l 0 with
 |none=>
  have HE:Hid (bB .show d l=(d,.err 3)):=hI zbx;rw[HE.out];have HN:=hI (fF HW c 0 dC dC HS hr);clear hr HE;go_enter func81,ntmps81;go_wp2_with (go_at_call 39;refine HN.out.mono ?_;rintro e w1 ⟨rfl,hb⟩)
  exact zbE
 |some n=>
  have HE:Hid (bB .show d l=(d,.txt (eF [fD d.s.v,(d.s.v.out:Int)]++[32]++Lib.formatBool d.s.v.bO))):=hI zbx;rw[HE.out];have HN:=hI (oc HW c HS hr);clear hr HE;go_enter func81,ntmps81;go_upto_region 2 with(go_at_call 39;refine HN.out.mono ?_;rintro e w1 ⟨⟨v,rfl⟩,hb⟩;have HB:=hI hb;clear hb)
  have H1:=hI (HH.out.after HB.out);have eE:=hI (HS.out.after HB.out);have hc3:=H1.out.c3;have hg:=H1.out.has.lt;have hn1:eu (fD d.s.v):=Cl HF.out;have hn2:eu (d.s.v.out:Int):=eu.nat (by have:=HF.out.vo.out;omega);have HI:=hI (And.intro hn1 hn2);have Zd:Hid (∀wx,Below w1.heap.size w1 wx->Calls prog 108 #[pT x.g 0] wx λe w'=>e=.returned (I (fD d.s.v))/\∃q,wx.drewN q=w'):=hI (λwx hb=>Pf (H1.out.after hb).sys HF.out.vo.many);have Ze:Hid (∀wx,Below w1.heap.size w1 wx->Calls prog 109 #[pT x.g 0] wx λe w'=>e=.returned (I (d.s.v.out:Int))/\wx=w'):=hI (λwx hb=>VV (H1.out.after hb).sys);have HTC:Hid (∀wx,Below w1.heap.size w1 wx->Calls prog 111 #[pT x.g 0] wx λe w'=>e=.returned (.bool d.s.v.bO)/\wx=w'):=hI (λwx hb=>JC (H1.out.after hb).sys);clear hn1 hn2;generalize fD d.s.v=p1 at*;generalize (d.s.v.out:Int)=p2 at*;generalize d.s.v.bO=bl at*;have HJ:Hid (∀wx b,Below w1.heap.size w1 wx->Has wx b 3 #[I p1,I p2]->Calls prog 98 #[.slice (some ⟨b,0,none⟩) 2 2] wx λe w'=>e=.returned (.string ⟨(eF [p1,p2]).toArray⟩)/\Below wx.heap.size wx w'):=hI (λwx b hb hh=>sF _ _ [p1,p2] zcx zbK wx (vy hh) (hI (eE.out.after hb)));have Tk:Hid (∀wx:aa,Calls prog 110 #[.bool bl] wx λe w'=>e=.returned (.string ⟨(Lib.formatBool bl).toArray⟩)/\w'=wx):=hI (λwx=>Tryz.strconv_FormatBool bl wx);have HT:Hid ((⟨(eF [p1,p2]).toArray⟩:ay)++⟨#[32]⟩++⟨(Lib.formatBool bl).toArray⟩=⟨(eF [p1,p2]++[32]++Lib.formatBool bl).toArray⟩):=hI (by
   rw[show(⟨#[32]⟩:ay)=⟨[32].toArray⟩from rfl,xq,xq])
  have HZ:Hid ((⟨(eF [p1,p2]).toArray⟩:ay).size<=1000/\(⟨(Lib.formatBool bl).toArray⟩:ay).size<=1000):=hI ⟨TX HI.out.1 HI.out.2,by cases bl<;>decide⟩;generalize (⟨(eF [p1,p2]).toArray⟩:ay)=T1 at*;generalize (⟨(Lib.formatBool bl).toArray⟩:ay)=T2 at*;refine eK kR (λb0=>b0.tmps.getD 0 undef=pT g 0/\b0.defers=[]) ⟨rfl,rfl⟩ 27 rfl (λ_=>0) (λ(Γ:jW) i=>([pT g 0,pT g 0,pT g 3,pT x.g 0,I p1,pT g 0,pT g 0,pT g 3,pT x.g 0,I p2,.slice (some ⟨Γ 0,0,none⟩) 2 2,.string T1,.string (T1++⟨#[32]⟩),pT g 0,pT g 0,pT g 3,pT x.g 0,.bool bl,.string T2,.string (T1++⟨#[32]⟩++T2),.string (T1++⟨#[32]⟩++T2)]:List ae).getD i undef) [4,9,10,11,17,18] kR (λi=>([[],[],[],[],[],[],[],[],[],[],[0],[],[],[],[],[],[],[],[],[],[]]:List (List Nat)).getD i []) (λi=>([[],[],[],[],[],[],[],[],[],[],[0],[],[],[],[],[],[],[],[],[],[]]:List (List Nat)).getD i []) 21 kR ?_ (λj Γ b=>([(λ_ _=>λwx=>Below w1.heap.size w1 wx) Γ b,(λ_ _=>λwx=>Below w1.heap.size w1 wx) Γ b,(λ_ _=>λwx=>Below w1.heap.size w1 wx) Γ b,(λΓ _=>λwx=>Below w1.heap.size w1 wx/\Has wx (Γ 0) 3 #[I p1,I p2]) Γ b,(λ_ _=>λwx=>Below w1.heap.size w1 wx) Γ b,(λ_ _=>λwx=>Below w1.heap.size w1 wx) Γ b,(λ_ _=>λwx=>Below w1.heap.size w1 wx) Γ b]:List (aa->Prop)).getD j (λ_=>True)) [7,8,9,10,11,12,13,14,15,16,17,18,19,20,21,22,23,24,25,26,4] kR kR ((Below.refl _ _).drew) ?_ ?_;intro Γ ei j hj hu;have hj2:j<21:=hj;have hcase:j=0\/j=1\/j=2\/j=3\/j=4\/j=5\/j=6\/j=7\/j=8\/j=9\/j=10\/j=11\/j=12\/j=13\/j=14\/j=15\/j=16\/j=17\/j=18\/j=19\/j=20:=oM;clear hj hj2;rcases hcase with rfl|rfl|rfl|rfl|rfl|rfl|rfl|rfl|rfl|rfl|rfl|rfl|rfl|rfl|rfl|rfl|rfl|rfl|rfl|rfl|rfl;rfl;rfl;rfl;rfl;rfl;rfl;rfl;rfl;rfl;rfl;exact zbL;rfl;rfl;rfl;rfl;rfl;rfl;rfl;rfl;rfl;rfl
  ·intro b0 hb0 i o ho;have hi:i<21:=(az.1 ho).1;obtain⟨f0,fp⟩:=hb0;have hcase:i=0\/i=1\/i=2\/i=3\/i=4\/i=5\/i=6\/i=7\/i=8\/i=9\/i=10\/i=11\/i=12\/i=13\/i=14\/i=15\/i=16\/i=17\/i=18\/i=19\/i=20:=oM;clear hi;rcases hcase with rfl|rfl|rfl|rfl|rfl|rfl|rfl|rfl|rfl|rfl|rfl|rfl|rfl|rfl|rfl|rfl|rfl|rfl|rfl|rfl|rfl<;>simp only[ba,bf,aY]at ho<;>cases ho
   ·exact zbW
   ·exact zcq
   ·exact zco
   ·refine .inr (.inr (.inr ⟨dC,dC,0,4,rfl,kR,λΓ b j hj=>?_⟩));have hj2:j=0:=oM;clear hj;subst hj2;exact zct
   ·refine .inr (.inr (.inl ⟨dC,0,rfl,λΓ b hba=>dN rfl (λli ac wx H hn av hM K hk=>?_)⟩));have e10:ac.tmps[10]?.getD undef=pT x.g 0:=H.k av 3 10;have hM1:=hM;simp only[aK]at hM1;have hdf:=hI (H.cA.defers.trans fp);clear av H;go_simp;refine(Zd.out wx hM1).mono ?_;rintro e w' ⟨rfl,q,rfl⟩;exact hk Γ _ (ll Γ) (below_drewN hM1 q)
   ·exact zbW
   ·exact zck
   ·exact zcj
   ·refine .inr (.inr (.inr ⟨dC,dC,1,9,rfl,kR,λΓ b j hj=>?_⟩));have hj2:j=0\/j=1:=oM;clear hj;rcases hj2 with rfl|rfl;exact zb4;exact zb4
   ·exact zbw
   ·exact zbu
   ·refine .inr (.inr (.inl ⟨dC,3,rfl,λΓ b hba=>dN rfl (λli ac wx H hn av hM K hk=>?_)⟩));have e17:ac.tmps[17]?.getD undef=.slice (some ⟨Γ 0,0,none⟩) 2 2:=H.k av 10 17;have hM1:=hM;simp only[aL,aK]at hM1;have hdf:=hI (H.cA.defers.trans fp);clear av H;go_simp;refine(HJ.out wx _ hM1.1 hM1.2).mono ?_;exact zcv
   ·refine .inl ⟨dC,dC,λΓ M=>aM rfl (λli ac wx H hn av hM K hk=>?_)⟩;have e18:ac.tmps[18]?.getD undef=.string T1:=H.k av 11 18;have hz:=HZ.out;have z1:¬9223372036854775807<T1.size+1:=oM;clear hz;exact zbk
   ·exact zbW
   ·refine .inl ⟨dC,dC,λΓ M=>aM rfl (λli ac wx H hn av hM K hk=>?_)⟩;have e20:ac.tmps[20]?.getD undef=pT g 0:=H.k av 13 20;exact zbk
   ·refine .inl ⟨dC,dC,λΓ M=>aM rfl (λli ac wx H hn av hM K hk=>?_)⟩;have e21:ac.tmps[21]?.getD undef=pT g 0:=H.k av 14 21;exact zbk
   ·refine .inr (.inr (.inr ⟨dC,dC,4,17,rfl,kR,λΓ b j hj=>?_⟩));have hj2:j=0\/j=1\/j=2\/j=3\/j=4:=oM;clear hj;rcases hj2 with rfl|rfl|rfl|rfl|rfl;exact zbm;exact zbm;exact zbm;exact zbm;exact zbm
   ·refine .inr (.inr (.inl ⟨dC,4,rfl,λΓ b hba=>dN rfl (λli ac wx H hn av hM K hk=>?_)⟩));have e23:ac.tmps[23]?.getD undef=pT x.g 0:=H.k av 16 23;have hM1:=hM;simp only[aL,aK]at hM1;have hdf:=hI (H.cA.defers.trans fp);clear av H;go_simp;refine(HTC.out wx hM1).mono ?_;exact zci
   ·refine .inr (.inr (.inl ⟨dC,5,rfl,λΓ b hba=>dN rfl (λli ac wx H hn av hM K hk=>?_)⟩));have e24:ac.tmps[24]?.getD undef=.bool bl:=H.k av 17 24;have hM1:=hM;simp only[aL,aK]at hM1;have hdf:=hI (H.cA.defers.trans fp);clear av H;go_simp;refine(Tk.out wx).mono ?_;exact zci
   ·refine .inl ⟨dC,dC,λΓ M=>aM rfl (λli ac wx H hn av hM K hk=>?_)⟩;have e19:ac.tmps[19]?.getD undef=.string (T1++⟨#[32]⟩):=H.k av 12 19;have e25:ac.tmps[25]?.getD undef=.string T2:=H.k av 18 25;have hz:=HZ.out;have z1:¬9223372036854775807<T1.size+1+T2.size:=oM;clear hz;exact zbk
   ·refine .inl ⟨dC,dC,λΓ M=>aM rfl (λli ac wx H hn av hM K hk=>?_)⟩;have e26:ac.tmps[26]?.getD undef=.string (T1++⟨#[32]⟩++T2):=H.k av 19 26;exact zbk
  ·intro Γ b ac wx hF hK hM0;have hM:(λ_ _=>λwx=>Below w1.heap.size w1 wx) Γ b wx:=hM0;have E4:ac.tmps.getD 4 undef=.string (T1++⟨#[32]⟩++T2):=hK 20 _ rfl 4 rfl;have aW:=hF.meet;simp only[bG,bS,ax,aI,aH,E4]at aW;generalize ac.tmps.getD 7 undef=v7,ac.tmps.getD 8 undef=v8,ac.tmps.getD 9 undef=v9,ac.tmps.getD 10 undef=v10,ac.tmps.getD 11 undef=v11,ac.tmps.getD 12 undef=v12,ac.tmps.getD 13 undef=v13,ac.tmps.getD 14 undef=v14,ac.tmps.getD 15 undef=v15,ac.tmps.getD 16 undef=v16,ac.tmps.getD 17 undef=v17,ac.tmps.getD 18 undef=v18,ac.tmps.getD 19 undef=v19,ac.tmps.getD 20 undef=v20,ac.tmps.getD 21 undef=v21,ac.tmps.getD 22 undef=v22,ac.tmps.getD 23 undef=v23,ac.tmps.getD 24 undef=v24,ac.tmps.getD 25 undef=v25,ac.tmps.getD 26 undef=v26 at aW;clear hF hK hM0 E4;subst aW;go_wp2;go_ret;exact⟨by show Ending.returned (.string _)=.returned (.string _);rw[HT.out];simp,(cv.same (a:=.txt []) HH.out (HB.out.trans (hM.mono HB.out.size)) rfl).2⟩
theorem Zf(h:dV w B g x vr d)(hf:bL T d.s)(_hT:T<=9900000000)(hw:Words w A l)(c:Nat)(hs:Std w):Calls prog 80 #[pT g 0,.slice A l.length c] w (cv w B g x (bB .see d l)):=by
 have HH:=hI h;have HW:=hI hw;have HS:=hI hs;have HF:=hI hf;clear h hw hs hf;cases hr:numsOf l 3 with
 |none=>
  have HE:Hid (bB .see d l=(d,.err 3)):=hI zbx;rw[HE.out];have HN:=hI (fF HW c 3 dC dC HS hr);clear hr HE;go_enter func80,ntmps80;go_wp2_with (go_at_call 39;refine HN.out.mono ?_;rintro e w1 ⟨rfl,hb⟩)
  exact zbE
 |some n=>
  have HE:Hid (bB .see d l=fw d (eP (cC n)) (jI d.s (cC n).toNat (n.getD 1 0,n.getD 2 0)) [115,101,101]):=hI zbx;rw[HE.out];obtain⟨n0,n1,n2,rfl⟩:∃n0 n1 n2,n=[n0,n1,n2]:=PR (JZ hr dC);have HN:=hI (xt HW c 3 dC dC HS hr);clear hr HE;go_enter func80,ntmps80;go_upto_region 2 with(go_at_call 39;refine HN.out.mono ?_;rintro e w1 ⟨⟨v,rfl,ho⟩,hb⟩;have HB:=hI hb;have HO:=hI ho;clear hb ho)
  obtain⟨bn,cb,cs,rfl,-,hh,hcs⟩:=jz HO.out (by show 0<3;decide);have hq0:w1.cell? ⟨bn,0,none⟩=some (I n0):=by rw[hh.cell];exact hcs 0 _ rfl
  have hq1:w1.cell? ⟨bn,1,none⟩=some (I n1):=by rw[hh.cell];exact hcs 1 _ rfl
  have hq2:w1.cell? ⟨bn,2,none⟩=some (I n2):=by rw[hh.cell];exact hcs 2 _ rfl
  have hbl:=hh.lt;have H1:=hI (HH.out.after HB.out);have eE:=hI (HS.out.after HB.out);have hc3:=H1.out.c3;have hg:=H1.out.has.lt;clear hh hcs HO HN;by_cases hok:eP n0=true
  ·have HE2:Hid (fw d (eP (cC [n0,n1,n2])) (jI d.s (cC [n0,n1,n2]).toNat (n1,n2)) [115,101,101]=({d with s:=jI d.s n0.toNat (n1,n2)},.txt [115,101,101])):=hI (by
    rw[show cC [n0,n1,n2]=n0 from rfl,hok];rfl)
   have HX:=hI (λwx (hb:Below w1.heap.size w1 wx)=>show Calls prog 107 #[pT x.g 0,I n0,.agg #[I n1,I n2]] wx (λe w'=>e=.returned .nilIface/\cN wx B x d.L (jI d.s n0.toNat (n1,n2)) w'/\cU wx w')from by
    (obtain⟨k,hk,hk3⟩:∃k:Nat,n0=k/\k<3:=zbJ);rw[hk,cg];refine(VX (cN.start (H1.out.after hb).sys (H1.out.after hb).hB) k hk3 n1 n2).mono ?_;rintro e w' ⟨⟨v,rfl,rfl⟩,h2,h3⟩;exact⟨rfl,h2,h3⟩)
   clear hok;refine eK kR (λb0=>b0.tmps.getD 0 undef=pT g 0/\b0.tmps.getD 5 undef=.slice (some ⟨bn,0,none⟩) 3 cb/\b0.defers=[]) ⟨rfl,rfl,rfl⟩ 24 rfl (λ_=>0) (λ(Γ:jW) i=>([pT g 0,pT g 0,pT g 3,pT x.g 0,.slice (some ⟨bn,0,none⟩) 3 cb,pT bn 0,I n0,.slice (some ⟨bn,0,none⟩) 3 cb,pT bn 1,I n1,.slice (some ⟨bn,0,none⟩) 3 cb,pT bn 2,I n2,.agg #[I n1,I n2],.nilIface,.tuple #[]]:List ae).getD i undef) [14,15] kR (λi=>([[],[],[],[],[],[],[],[],[],[],[],[],[],[],[],[]]:List (List Nat)).getD i []) (λi=>([[],[],[],[],[],[],[],[],[],[],[],[],[],[],[],[]]:List (List Nat)).getD i []) 16 kR ?_ (λj Γ b=>([(λ_ _=>λwx=>Below w1.heap.size w1 wx) Γ b,(λ_ _=>λwx=>Hid (∃w2,Below w1.heap.size w1 w2/\cN w2 B x d.L (jI d.s n0.toNat (n1,n2)) wx/\cU w2 wx)) Γ b,(λ_ _=>λwx=>Hid (∃w2,Below w1.heap.size w1 w2/\cN w2 B x d.L (jI d.s n0.toNat (n1,n2)) wx/\cU w2 wx)) Γ b]:List (aa->Prop)).getD j (λ_=>True)) [8,9,10,11,12,13,14,15,16,17,18,19,20,21,22,23] kR kR ((Below.refl _ _).drew) ?_ ?_;intro Γ ei j hj hu;have hj2:j<16:=hj;have hcase:j=0\/j=1\/j=2\/j=3\/j=4\/j=5\/j=6\/j=7\/j=8\/j=9\/j=10\/j=11\/j=12\/j=13\/j=14\/j=15:=oM;clear hj hj2;rcases hcase with rfl|rfl|rfl|rfl|rfl|rfl|rfl|rfl|rfl|rfl|rfl|rfl|rfl|rfl|rfl|rfl;rfl;rfl;rfl;rfl;rfl;rfl;rfl;rfl;rfl;rfl;rfl;rfl;rfl;rfl;rfl;rfl
   ·intro b0 hb0 i o ho;have hi:i<16:=(az.1 ho).1;obtain⟨f0,f5,fp⟩:=hb0;have hcase:i=0\/i=1\/i=2\/i=3\/i=4\/i=5\/i=6\/i=7\/i=8\/i=9\/i=10\/i=11\/i=12\/i=13\/i=14\/i=15:=oM;clear hi;rcases hcase with rfl|rfl|rfl|rfl|rfl|rfl|rfl|rfl|rfl|rfl|rfl|rfl|rfl|rfl|rfl|rfl<;>simp only[ba,bf,aY]at ho<;>cases ho
    ·exact zbW
    ·exact zcp
    ·exact zcm
    ·refine .inr (.inr (.inr ⟨dC,dC,0,14,rfl,kR,λΓ b j hj=>?_⟩));have hj2:j=0:=oM;clear hj;subst hj2;exact zcs
    ·exact zbX
    ·exact zcf
    ·refine .inr (.inr (.inr ⟨dC,dC,0,14,rfl,kR,λΓ b j hj=>?_⟩));have hj2:j=0:=oM;clear hj;subst hj2;exact zcr
    ·exact zbX
    ·exact zce
    ·refine .inr (.inr (.inr ⟨dC,dC,0,14,rfl,kR,λΓ b j hj=>?_⟩));have hj2:j=0:=oM;clear hj;subst hj2;exact zbz
    ·exact zbX
    ·exact zcc
    ·refine .inr (.inr (.inr ⟨dC,dC,0,14,rfl,kR,λΓ b j hj=>?_⟩));have hj2:j=0:=oM;clear hj;subst hj2;exact zby
    ·exact zb8
    ·refine .inr (.inr (.inl ⟨dC,0,rfl,λΓ b hba=>dN rfl (λli ac wx H hn av hM K hk=>?_)⟩));have e11:ac.tmps[11]?.getD undef=pT x.g 0:=H.k av 3 11;have e14:ac.tmps[14]?.getD undef=I n0:=H.k av 6 14;have e21:ac.tmps[21]?.getD undef=.agg #[I n1,I n2]:=H.k av 13 21;exact zbD
    ·refine .inr (.inr (.inl ⟨dC,1,rfl,λΓ b hba=>dN rfl (λli ac wx H hn av hM K hk=>?_)⟩));have e22:ac.tmps[22]?.getD undef=.nilIface:=H.k av 14 22;have hM1:=hM;simp only[aL,aK]at hM1;have hdf:=hI (H.cA.defers.trans fp);clear av H;go_simp;refine(nv wx).mono ?_;exact zci
   ·intro Γ b ac wx hF hK hM0;have hM:(λ_ _=>λwx=>Hid (∃w2,Below w1.heap.size w1 w2/\cN w2 B x d.L (jI d.s n0.toNat (n1,n2)) wx/\cU w2 wx)) Γ b wx:=hM0;have aW:=hF.meet;simp only[bG,bS,ax,aI,aH]at aW;generalize ac.tmps.getD 8 undef=v8,ac.tmps.getD 9 undef=v9,ac.tmps.getD 10 undef=v10,ac.tmps.getD 11 undef=v11,ac.tmps.getD 12 undef=v12,ac.tmps.getD 13 undef=v13,ac.tmps.getD 14 undef=v14,ac.tmps.getD 15 undef=v15,ac.tmps.getD 16 undef=v16,ac.tmps.getD 17 undef=v17,ac.tmps.getD 18 undef=v18,ac.tmps.getD 19 undef=v19,ac.tmps.getD 20 undef=v20,ac.tmps.getD 21 undef=v21,ac.tmps.getD 22 undef=v22,ac.tmps.getD 23 undef=v23 at aW;clear hF hK hM0;subst aW;obtain⟨w2,h1,h2,h3⟩:=hM.out;go_wp2;go_ret;rw[HE2.out];exact cv.next HH.out (HB.out.trans (h1.mono HB.out.size)) h2 h3 rfl
  ·have HE2:Hid (fw d (eP (cC [n0,n1,n2])) (jI d.s (cC [n0,n1,n2]).toNat (n1,n2)) [115,101,101]=(d,.err 2)):=hI (by
    rw[show cC [n0,n1,n2]=n0 from rfl,Bool.eq_false_iff.2 hok];rfl)
   have HX:=hI (λwx (_:Below w1.heap.size w1 wx)=>Tq x.g n0 n1 n2 zbU wx);clear hok;refine eK kR (λb0=>b0.tmps.getD 0 undef=pT g 0/\b0.tmps.getD 5 undef=.slice (some ⟨bn,0,none⟩) 3 cb/\b0.defers=[]) ⟨rfl,rfl,rfl⟩ 24 rfl (λ_=>0) (λ(Γ:jW) i=>([pT g 0,pT g 0,pT g 3,pT x.g 0,.slice (some ⟨bn,0,none⟩) 3 cb,pT bn 0,I n0,.slice (some ⟨bn,0,none⟩) 3 cb,pT bn 1,I n1,.slice (some ⟨bn,0,none⟩) 3 cb,pT bn 2,I n2,.agg #[I n1,I n2],fX,undef]:List ae).getD i undef) [14,15] kR (λi=>([[],[],[],[],[],[],[],[],[],[],[],[],[],[],[],[]]:List (List Nat)).getD i []) (λi=>([[],[],[],[],[],[],[],[],[],[],[],[],[],[],[],[]]:List (List Nat)).getD i []) 16 kR ?_ (λj Γ b=>([(λ_ _=>λwx=>Below w1.heap.size w1 wx) Γ b,(λ_ _=>λwx=>Below w1.heap.size w1 wx) Γ b,(λ_ _=>λ_=>False) Γ b]:List (aa->Prop)).getD j (λ_=>True)) [8,9,10,11,12,13,14,15,16,17,18,19,20,21,22,23] kR kR ((Below.refl _ _).drew) ?_ ?_;intro Γ ei j hj hu;have hj2:j<16:=hj;have hcase:j=0\/j=1\/j=2\/j=3\/j=4\/j=5\/j=6\/j=7\/j=8\/j=9\/j=10\/j=11\/j=12\/j=13\/j=14\/j=15:=oM;clear hj hj2;rcases hcase with rfl|rfl|rfl|rfl|rfl|rfl|rfl|rfl|rfl|rfl|rfl|rfl|rfl|rfl|rfl|rfl;rfl;rfl;rfl;rfl;rfl;rfl;rfl;rfl;rfl;rfl;rfl;rfl;rfl;rfl;rfl;rfl
   ·intro b0 hb0 i o ho;have hi:i<16:=(az.1 ho).1;obtain⟨f0,f5,fp⟩:=hb0;have hcase:i=0\/i=1\/i=2\/i=3\/i=4\/i=5\/i=6\/i=7\/i=8\/i=9\/i=10\/i=11\/i=12\/i=13\/i=14\/i=15:=oM;clear hi;rcases hcase with rfl|rfl|rfl|rfl|rfl|rfl|rfl|rfl|rfl|rfl|rfl|rfl|rfl|rfl|rfl|rfl<;>simp only[ba,bf,aY]at ho<;>cases ho
    ·exact zbW
    ·exact zcp
    ·exact zcm
    ·refine .inr (.inr (.inr ⟨dC,dC,0,14,rfl,kR,λΓ b j hj=>?_⟩));have hj2:j=0:=oM;clear hj;subst hj2;exact zcs
    ·exact zbX
    ·exact zcf
    ·refine .inr (.inr (.inr ⟨dC,dC,0,14,rfl,kR,λΓ b j hj=>?_⟩));have hj2:j=0:=oM;clear hj;subst hj2;exact zcr
    ·exact zbX
    ·exact zce
    ·refine .inr (.inr (.inr ⟨dC,dC,0,14,rfl,kR,λΓ b j hj=>?_⟩));have hj2:j=0:=oM;clear hj;subst hj2;exact zbz
    ·exact zbX
    ·exact zcc
    ·refine .inr (.inr (.inr ⟨dC,dC,0,14,rfl,kR,λΓ b j hj=>?_⟩));have hj2:j=0:=oM;clear hj;subst hj2;exact zby
    ·exact zb8
    ·refine .inr (.inr (.inl ⟨dC,0,rfl,λΓ b hba=>dN rfl (λli ac wx H hn av hM K hk=>?_)⟩));have e11:ac.tmps[11]?.getD undef=pT x.g 0:=H.k av 3 11;have e14:ac.tmps[14]?.getD undef=I n0:=H.k av 6 14;have e21:ac.tmps[21]?.getD undef=.agg #[I n1,I n2]:=H.k av 13 21;have hM1:=hM;simp only[aK]at hM1;have hdf:=hI (H.cA.defers.trans fp);clear av H;go_simp;refine(HX.out wx hM1).mono ?_;exact zbR
    ·refine .inr (.inr (.inl ⟨dC,1,rfl,λΓ b hba=>dN rfl (λli ac wx H hn av hM K hk=>?_)⟩));have e22:ac.tmps[22]?.getD undef=fX:=H.k av 14 22;have hM1:=hM;simp only[aL,aK]at hM1;have hdf:=hI (H.cA.defers.trans fp);clear av H;go_simp;refine(eJ 2 wx (hI (eE.out.after hM1).et)).mono ?_;rintro e w' ⟨rfl,hb⟩;exact⟨hdf.out,by rw[HE2.out];exact cv.same (a:=.err 2) HH.out (HB.out.trans ((hM1.trans (hb.mono hM1.size)).mono HB.out.size)) rfl⟩
   ·exact zbQ
theorem Wm(h:dV w B g x vr d)(hf:bL T d.s)(hT:T<=9900000000)(hw:Words w A l)(c:Nat)(hs:Std w):Calls prog 70 #[pT g 0,.slice A l.length c] w (cv w B g x (bB .calm d l)):=by
 have HH:=hI h;have HW:=hI hw;have HS:=hI hs;have HF:=hI hf;clear h hw hs hf;cases hr:numsOf l 1 with
 |none=>
  have HE:Hid (bB .calm d l=(d,.err 3)):=hI zbx;rw[HE.out];have HN:=hI (fF HW c 1 dC dC HS hr);clear hr HE;go_enter func70,ntmps70;go_wp2_with (go_at_call 39;refine HN.out.mono ?_;rintro e w1 ⟨rfl,hb⟩)
  exact zbE
 |some n=>
  obtain⟨cnd,hcnd⟩:∃cnd,cnd=(decide (0<=cC n)&&decide (cC n<=100)):=⟨_,rfl⟩;have HE:Hid (bB .calm d l=fw d cnd (calm d.L 1200 d.s (cC n).toNat) [99,97,108,109]):=hI (by simp only[bB,hr,hcnd]);rw[HE.out];have Zg:=hI hcnd;clear hcnd;have HN:=hI (oT HW c HS hr);clear hr HE;generalize cC n=n0 at*;go_enter func70,ntmps70;go_upto_region 2 with(go_at_call 39;refine HN.out.mono ?_;rintro e w1 ⟨⟨bn,cb,rfl,hbl,hq0⟩,hb⟩;have HB:=hI hb;clear hb)
  have H1:=hI (HH.out.after HB.out);have eE:=hI (HS.out.after HB.out);have hc3:=H1.out.c3;have hg:=H1.out.has.lt;clear HN;by_cases h0:n0<0;(have hE2:cnd=false:=zcw);exact zbA
  ·by_cases h1:100<n0;(have hE2:cnd=false:=zcw);exact zbA
   ·(have hE2:cnd=true:=zcw);have HE2:=hI hE2;clear hE2;go_upto_region 4 with fail;have HX:=hI (λwx (hb:Below w1.heap.size w1 wx)=>show Calls prog 96 #[pT x.g 0,I n0] wx (λe w'=>e=.returned (.tuple #[])/\cN wx B x d.L (calm d.L 1200 d.s n0.toNat) w'/\cU wx w')from by
     obtain⟨k,hk,hk3⟩:∃k:Nat,n0=k/\k<=100:=⟨n0.toNat,oM,oM⟩;rw[hk,cg];refine(Tm 1200 rfl (cN.start (H1.out.after hb).sys (H1.out.after hb).hB) HF.out H1.out.ok k hk3 oM).mono ?_;rintro e w' ⟨⟨v,rfl,rfl⟩,h2,h3⟩;exact⟨rfl,h2,h3⟩)
    clear h0 h1;refine eK kR (λb0=>b0.tmps.getD 0 undef=pT g 0/\b0.tmps.getD 5 undef=.slice (some ⟨bn,0,none⟩) 1 cb/\b0.defers=[]) ⟨rfl,rfl,rfl⟩ 28 rfl (λ_=>0) (λ(Γ:jW) i=>([pT g 0,pT g 0,pT g 3,pT x.g 0,.slice (some ⟨bn,0,none⟩) 1 cb,pT bn 0,I n0,.tuple #[]]:List ae).getD i undef) [7] kR (λi=>([[],[],[],[],[],[],[],[]]:List (List Nat)).getD i []) (λi=>([[],[],[],[],[],[],[],[]]:List (List Nat)).getD i []) 8 kR ?_ (λj Γ b=>([(λ_ _=>λwx=>Below w1.heap.size w1 wx) Γ b,(λ_ _=>λwx=>Hid (∃w2,Below w1.heap.size w1 w2/\cN w2 B x d.L (calm d.L 1200 d.s n0.toNat) wx/\cU w2 wx)) Γ b]:List (aa->Prop)).getD j (λ_=>True)) [20,21,22,23,24,25,26,27] kR kR ((Below.refl _ _).drew) ?_ ?_;intro Γ ei j hj hu;have hj2:j<8:=hj;have hcase:j=0\/j=1\/j=2\/j=3\/j=4\/j=5\/j=6\/j=7:=oM;clear hj hj2;rcases hcase with rfl|rfl|rfl|rfl|rfl|rfl|rfl|rfl;rfl;rfl;rfl;rfl;rfl;rfl;rfl;rfl
    ·intro b0 hb0 i o ho;have hi:i<8:=(az.1 ho).1;obtain⟨f0,f5,fp⟩:=hb0;have hcase:i=0\/i=1\/i=2\/i=3\/i=4\/i=5\/i=6\/i=7:=oM;clear hi;rcases hcase with rfl|rfl|rfl|rfl|rfl|rfl|rfl|rfl<;>simp only[ba,bf,aY]at ho<;>cases ho
     ·exact zbW
     ·refine .inl ⟨dC,dC,λΓ M=>aM rfl (λli ac wx H hn av hM K hk=>?_)⟩;have e20:ac.tmps[20]?.getD undef=pT g 0:=H.k av 0 20;exact zbk
     ·refine .inl ⟨dC,dC,λΓ M=>aM rfl (λli ac wx H hn av hM K hk=>?_)⟩;have e21:ac.tmps[21]?.getD undef=pT g 0:=H.k av 1 21;exact zbk
     ·refine .inr (.inr (.inr ⟨dC,dC,0,7,rfl,kR,λΓ b j hj=>?_⟩));have hj2:j=0:=oM;clear hj;subst hj2;refine aM rfl (λli ac wx H hn av hM K hk=>?_);have e22:ac.tmps[22]?.getD undef=pT g 3:=H.k av 2 22;exact zbo
     ·refine .inl ⟨dC,dC,λΓ M=>aM rfl (λli ac wx H hn av hM K hk=>?_)⟩;have e5:ac.tmps[5]?.getD undef=.slice (some ⟨bn,0,none⟩) 1 cb:=bP ((H.cA.slot dC).trans f5);exact zbk
     ·refine .inl ⟨dC,dC,λΓ M=>aM rfl (λli ac wx H hn av hM K hk=>?_)⟩;have e24:ac.tmps[24]?.getD undef=.slice (some ⟨bn,0,none⟩) 1 cb:=H.k av 4 24;exact zbk
     ·refine .inr (.inr (.inr ⟨dC,dC,0,7,rfl,kR,λΓ b j hj=>?_⟩));have hj2:j=0:=oM;clear hj;subst hj2;refine aM rfl (λli ac wx H hn av hM K hk=>?_);have e25:ac.tmps[25]?.getD undef=pT bn 0:=H.k av 5 25;exact zbq
     ·refine .inr (.inr (.inl ⟨dC,0,rfl,λΓ b hba=>dN rfl (λli ac wx H hn av hM K hk=>?_)⟩));have e23:ac.tmps[23]?.getD undef=pT x.g 0:=H.k av 3 23;have e26:ac.tmps[26]?.getD undef=I n0:=H.k av 6 26;exact zbD
    ·intro Γ b ac wx hF hK hM0;have hM:(λ_ _=>λwx=>Hid (∃w2,Below w1.heap.size w1 w2/\cN w2 B x d.L (calm d.L 1200 d.s n0.toNat) wx/\cU w2 wx)) Γ b wx:=hM0;have aW:=hF.meet;simp only[bG,bS,ax,aI,aH]at aW;generalize ac.tmps.getD 20 undef=v20,ac.tmps.getD 21 undef=v21,ac.tmps.getD 22 undef=v22,ac.tmps.getD 23 undef=v23,ac.tmps.getD 24 undef=v24,ac.tmps.getD 25 undef=v25,ac.tmps.getD 26 undef=v26,ac.tmps.getD 27 undef=v27 at aW;clear hF hK hM0;subst aW;obtain⟨w2,h1,h2,h3⟩:=hM.out;go_wp2;go_ret;rw[HE2.out];exact cv.next HH.out (HB.out.trans (h1.mono HB.out.size)) h2 h3 rfl
end
theorem J4{S:Int}{xs:List Int}{d:Int}(h:ib S xs d=.ok):¬aag S xs.length d/\∀x∈xs,0<x/\x<2^S.toNat:=by
 unfold ib at h;split at h;cases h
 ·rename_i ho;refine⟨ho,?_⟩;cases hb:iX S xs with
  |some i=>rw[hb]at h;cases h
  |none=>unfold iX at hb;rw[List.findIdx?_eq_none_iff]at hb;intro x hx;have:=hb x hx;simp at this;omega
theorem Zh(xs:List Int)(h:∀x∈xs,0<=x):∃rs:List Nat,xs=zs rs:=by refine⟨xs.map Int.toNat,?_⟩;unfold zs;rw[List.map_map];apply Eq.symm;refine(List.map_congr_left (g:=id) λx hx=>?_).trans (List.map_id _);have:=h x hx;simp;omega
theorem ME{S:Int}{rs:List Nat}{d:Int}(h:ib S (zs rs) d=.ok):rs.Nodup:=by
 have ht:kZ (zs rs)=none:=by unfold ib at h;split at h;cases h;split at h;cases h;split at h;cases h;assumption
 unfold kZ at ht;rw[List.find?_eq_none]at ht;refine List.pairwise_iff_getElem.2 λi j hi hj hij e=>?_;refine ht j (by rw[bX,dw];exact hj) ?_;unfold twice;rw[List.contains_iff_mem,List.mem_iff_getElem?];refine⟨i,?_⟩;rw[List.getElem?_take,if_pos hij,sY,bg hi,aD,sY,bg hj,e];rfl
theorem zz{S:Int}{xs:List Int}{d:Int}(h:ib S xs d=.ok):∃L:Lay,L.Ok/\S=(L.secs:Int)/\xs=zs L.routes/\d=(L.delay:Int):=by obtain⟨h1,h2⟩:=J4 h;unfold aag at h1;obtain⟨rs,rfl⟩:=Zh xs (λx hx=>by have:=(h2 x hx).1;omega);obtain⟨s,rfl⟩:∃s:Nat,S=(s:Int):=⟨S.toNat,oM⟩;obtain⟨dd,rfl⟩:∃dd:Nat,d=(dd:Int):=⟨d.toNat,oM⟩;rw[dw]at h1;refine⟨⟨s,rs,dd⟩,⟨by show 1<=s;omega,by show s<=12;omega,by show 1<=rs.length;omega,by show rs.length<=8;omega,by show dd<=20;omega,λr hr=>?_,λr hr=>?_,ME h⟩,rfl,rfl,rfl⟩;have:=(h2 (r:Int) (List.mem_map.2 ⟨r,hr,rfl⟩)).1;omega;have:=(h2 (r:Int) (List.mem_map.2 ⟨r,hr,rfl⟩)).2;have e:((2:Int)^(s:Int).toNat)=((2^s:Nat):Int):=sM;rw[e]at this;show r<2^s;omega
theorem J5(n:Int)(h:¬(1<=n/\n<=20))(w:aa):Calls prog 61 #[I n] w λe w'=>e=.returned (.tuple #[.pointer none,fX])/\w=w':=by
 have he:fX=.iface 31 (I 2):=rfl;rw[he];by_cases h1:n<1;exact zbT
 ·have h2:(20:Int)<n:=by omega
  exact zbT
theorem zA(S d:Int)(A:Option Addr)(c:Nat)(xs:List Int)(win:Int)(w:aa)(hn:xs.length<=1000000)(hc:xs.length<=c)(hr:Reads w w.heap.size A (ints xs))(hbad:Hid (ib S xs d≠.ok)):
 Calls prog 40 #[.agg #[I S,.slice A xs.length c,I d],I win] w λe w'=>
  (∃v,e=.returned (.tuple #[.pointer none,v])/\Ef w w' (ib S xs d) v)/\Below w.heap.size w w':=by
 have hb1:Below w.heap.size w (w.alloc (.cells #[I S,.slice A xs.length c,I d] 51)):=(Below.refl _ _).alloc (aj _) _;have k0:=Has.new w 51 #[I S,.slice A xs.length c,I d];have hr1:=hr.below hb1;clear hr;go_enter func40,ntmps40;go_upto_region 1 with fail;generalize w.alloc (.cells #[I S,.slice A xs.length c,I d] 51)=w1 at*;have hl:=k0.lt;generalize hG:w.heap.size=g0 at*;have HG:=hI hG;clear hG;have c0:=k0.aJ 0 _ rfl;have c1:=k0.aJ 1 _ rfl;have c2:=k0.aJ 2 _ rfl;have HC:Hid (Calls prog 60 #[.agg #[I S,.slice A xs.length c,I d]] w1 (wJ w1 (ib S xs d))):=hI (uR S d A c xs w1 oM hc (hr1.more (bA hl)));go_upto_region 2 with(go_at_call 60;refine HC.out.mono ?_;rintro e w2 ⟨v,rfl,hv,hb2⟩)
 have HV:=hI hv;have jw:Below g0 w w2:=hb1.trans (hb2.mono oM);rcases V9 hv hbad.out with⟨e,rfl⟩|⟨g,rfl⟩;all_goals
  clear hv c0 c1 c2;go_wp2_with fail;go_ret2;exact⟨⟨_,rfl,HV.out.base (by rw[HG.out];omega)⟩,HG.out▸jw⟩
theorem J6(S d:Int)(A:Option Addr)(c:Nat)(xs:List Int)(win:Int)(w:aa)(hn:xs.length<=1000000)(hc:xs.length<=c)(hr:Reads w w.heap.size A (ints xs))(hok:Hid (ib S xs d=.ok))(hw:¬(1<=win/\win<=20)):
 Calls prog 40 #[.agg #[I S,.slice A xs.length c,I d],I win] w λe w'=>
  e=.returned (.tuple #[.pointer none,fX])/\Below w.heap.size w w':=by
 have hb1:Below w.heap.size w (w.alloc (.cells #[I S,.slice A xs.length c,I d] 51)):=(Below.refl _ _).alloc (aj _) _;have k0:=Has.new w 51 #[I S,.slice A xs.length c,I d];have hr1:=hr.below hb1;clear hr;go_enter func40,ntmps40;go_upto_region 1 with fail;generalize w.alloc (.cells #[I S,.slice A xs.length c,I d] 51)=w1 at*;have hl:=k0.lt;generalize hG:w.heap.size=g0 at*;have HG:=hI hG;clear hG;have c0:=k0.aJ 0 _ rfl;have c1:=k0.aJ 1 _ rfl;have c2:=k0.aJ 2 _ rfl;have HC:Hid (Calls prog 60 #[.agg #[I S,.slice A xs.length c,I d]] w1 (wJ w1 .ok)):=hI (by
  rw[<-hok.out];exact uR S d A c xs w1 oM hc (hr1.more (bA hl)))
 go_upto_region 4 with(go_at_call 60;refine HC.out.mono ?_;rintro e w2 ⟨v,rfl,hv,hb2⟩;obtain rfl:v=.nilIface:=hv)
 have jw:Below g0 w w2:=hb1.trans (hb2.mono oM);have HW:=hI (J5 win hw w2);have hrv:fX=.iface 31 (I 2):=rfl;rw[hrv]at HW;clear c0 c1 c2 hrv;go_wp2_with (go_at_call 61;refine HW.out.mono ?_;rintro e w3 ⟨rfl,rfl⟩)
 go_ret2;exact⟨rfl,HG.out▸jw⟩
def Zi(t:aw):Bool:=t==54||t==9
def Own(p:aw->Bool)(w:aa)(b:Nat):Prop:=∃t cs,Has w b t cs/\p t=true
section
variable {p:aw->Bool}{w w':aa}{F:cD}{B:Nat}{L:Lay}{s:Sys}
theorem Has.apart{g:Nat}{t:aw}{cs:bw}(h:Has w g t cs)(hF:∀b,F b->Own p w b)(hn:p t=false):¬F g:=λhf=>by
 obtain⟨t',cs',h',hm⟩:=hF g hf;have e:t=t':=by unfold Has at h h';rw[h]at h';injection h' with h';injection h' with _ ht
 rw[e,hm]at hn;cases hn
theorem Has.iN{g:Nat}{t:aw}{cs:bw}(h:Has w g t cs)(ht:Turned F w w')(hF:∀b,F b->Own p w b)(hn:p t=false):Has w' g t cs:=h.turned ht (h.apart hF hn)
theorem iO{base:Nat}{e:aw}{size n:Nat}{v:ae}{xs:List ae}(h:w.ownsRow base e size v n xs)(ht:Turned F w w')(hF:∀b,F b->Own p w b)(hn:p e=false):w'.ownsRow base e size v n xs:=
 lK h λg _ _ hh=>(show w'.heap[g]?=w.heap[g]? from(hh.iN ht hF hn).trans hh.symm)
theorem fJ.iN{gc:Nat}(h:fJ w gc L)(ht:Turned F w w')(hF:∀b,F b->Own p w b)(h1:p 198=false)(h2:p 3=false):fJ w' gc L:=by obtain⟨vr,vc,a1,a2,a3⟩:=h;exact⟨vr,vc,a1.iN ht hF h1,iO a2 ht hF h2,iO a3 ht hF h2⟩
theorem cF.J7{x:fV}(h:cF w B x L s)(ht:Turned F w w')(hF:∀b,F b->Own Zi w b):cF w' B x L s:=by refine⟨h.has.iN ht hF rfl,iO h.routes ht hF rfl,h.n3,λk hk=>⟨(h.fP k hk).has.iN ht hF rfl,(h.fP k hk).core.iN ht hF rfl rfl⟩,h.apart,⟨h.vo.has.iN ht hF rfl,iO h.vo.own ht hF rfl,h.vo.low⟩,iO h.way ht hF rfl,h.len,λi gm v e1 e2=>?_,h.low,h.uD⟩;exact(h.bytes i gm v e1 e2).keep λg cs hh=>hh.iN ht hF rfl
end
section
variable {w:aa}{g:Nat}{A:Option Addr}{l:List ay}
theorem Cn:(prog.info? 51).map (·.size)=some 3:=kR
theorem Co{w:aa}{B B':Nat}{x:fV}{L:Lay}{s:Sys}(h:cF w B' x L s)(hB:B<=B'):cF w B x L s:=
 ⟨h.has,h.routes,h.n3,h.fP,h.apart,⟨h.vo.has,iW h.vo.own hB,aS hB h.vo.low⟩,iW h.way hB,h.len,h.bytes,aS hB h.low,λk hk=>aS hB (h.uD k hk)⟩
theorem ng{l:List ay}{k:Int}{n:List Int}(h:numsOf l k=some n):n.length=l.length:=by unfold numsOf at h;split at h;cases h;exact iC h
theorem lm{l:List ay}{n:List Int}(h:numsOf l (-4)=some n):4<=n.length:=by have hl:=ng h;unfold numsOf at h;split at h;cases h;rename_i hb;unfold na at hb;rw[if_neg dC]at hb;simp at hb;omega
theorem zB{n0 n1 n2:Int}{rs:List Int}(ee:Int)(HX:Hid (∀(bn cb nl:Nat)(wx:aa),nl-3=rs.length->nl<=cb->rs.length<=100000->Reads wx wx.heap.size (some ⟨bn,3,none⟩) (ints rs)->Calls prog 40 #[.agg #[I n2,.slice (some ⟨bn,3,none⟩) (nl-3) (cb-3),I n1],I n0] wx λe w'=>e=.returned (.tuple #[.pointer none,.iface 31 (I ee)])/\Below wx.heap.size wx w'))(hr:Hid (numsOf l (-4)=some (n0::n1::n2::rs)))(hw:Hid (Words w A l))(c:Nat)(hs:Hid (Std w)):
 Calls prog 14 #[pT g 0,.slice A l.length c] w (λe w'=>e=.panicked (xl ee)/\Below w.heap.size w w'):=by
 have HN:=hI (xt hw c (-4) dC dC hs hr.out);have Wn:Hid (rs.length<=100000):=hI zbF;have TY:Hid (1<=rs.length):=hI zcu;clear hr hw;go_enter func14,ntmps14;go_upto_region 2 with(go_at_call 39;refine HN.out.mono ?_;rintro e w1 ⟨⟨v,rfl,ho⟩,hb⟩;have HB:=hI hb;have HO:=hI ho;clear hb ho)
 obtain⟨bn,cb,cs,rfl,hcb,hh,hcs⟩:=jz HO.out sM;have hq0:w1.cell? ⟨bn,0,none⟩=some (I n0):=by rw[hh.cell];exact hcs 0 _ rfl
 have hq1:w1.cell? ⟨bn,1,none⟩=some (I n1):=by rw[hh.cell];exact hcs 1 _ rfl
 have hq2:w1.cell? ⟨bn,2,none⟩=some (I n2):=by rw[hh.cell];exact hcs 2 _ rfl
 have hbl:=hh.lt;have Dn:Hid (∀(j:Nat)(u:ae),(ints rs)[j]?=some u->cs[3+j]?=some u):=hI λj u hu=>hcs (3+j) u zbI;have wS:=hI hh;have eE:=hI (hs.out.after HB.out);obtain⟨nl,hnl⟩:∃nl,nl=(n0::n1::n2::rs).length:=⟨_,rfl⟩;rw[<-hnl]at hcb⊢;have Db:4<=nl:=by rw[hnl];have:=TY.out;simp;omega
 have Xi:¬cb=3:=oM;have hi0:0<nl:=oM;have hi1:(1:Int)<(nl:Int):=oM;have hi2:(2:Int)<(nl:Int):=by rw[hnl];simp;omega
 have hi3:(3:Int)<=(nl:Int):=oM;have I4:Hid (nl-3=rs.length):=hI (by rw[hnl];simp);have TZ:Hid (nl<=cb):=hI hcb;clear hh hcs HO HN hnl hs;refine eK kR (λb0=>b0.tmps.getD 5 undef=.slice (some ⟨bn,0,none⟩) nl cb/\b0.defers=[]) ⟨rfl,rfl⟩ 38 rfl (λ_=>0) (λ(Γ:jW) i=>([.slice (some ⟨bn,0,none⟩) nl cb,pT bn 1,I n1,.slice (some ⟨bn,0,none⟩) nl cb,pT bn 2,I n2,.slice (some ⟨bn,0,none⟩) nl cb,.slice (some ⟨bn,3,none⟩) (nl-3) (cb-3),.agg #[I n2,.slice (some ⟨bn,3,none⟩) (nl-3) (cb-3),I n1],pT (Γ 0) 0,undef]:List ae).getD i undef) [10] kR (λi=>([[],[],[],[],[],[],[],[],[],[0],[]]:List (List Nat)).getD i []) (λi=>([[],[],[],[],[],[],[],[],[],[0],[]]:List (List Nat)).getD i []) 9 kR ?_ (λj Γ b=>([(λΓ b=>λwx=>Below w1.heap.size w1 wx/\(b=true->Has wx (Γ 0) 51 #[I 0,.slice none 0 0,I 0]/\w1.heap.size<=Γ 0)) Γ b,(λΓ _=>λwx=>Below w1.heap.size w1 wx/\Has wx (Γ 0) 51 #[I n2,.slice (some ⟨bn,3,none⟩) (nl-3) (cb-3),I n1]/\w1.heap.size<=Γ 0) Γ b]:List (aa->Prop)).getD j (λ_=>True)) [11,12,13,14,15,16,17,18,19,6] kR kR ⟨(Below.refl _ _).drew,λh=>by cases h⟩ ?_ ?_;intro Γ ei j hj hu;have hj2:j<11:=hj;have hcase:j=0\/j=1\/j=2\/j=3\/j=4\/j=5\/j=6\/j=7\/j=8\/j=9\/j=10:=oM;clear hj hj2;rcases hcase with rfl|rfl|rfl|rfl|rfl|rfl|rfl|rfl|rfl|rfl|rfl;rfl;rfl;rfl;rfl;rfl;rfl;rfl;rfl;rfl;exact zbB;rfl
 ·intro b0 hb0 i o ho;have hi:i<11:=(az.1 ho).1;obtain⟨f5,fp⟩:=hb0;have hcase:i=0\/i=1\/i=2\/i=3\/i=4\/i=5\/i=6\/i=7\/i=8\/i=9\/i=10:=oM;clear hi;rcases hcase with rfl|rfl|rfl|rfl|rfl|rfl|rfl|rfl|rfl|rfl|rfl<;>simp only[ba,bf,aY]at ho<;>cases ho
  ·exact zbV
  ·exact zb3
  ·refine .inr (.inr (.inr ⟨dC,dC,0,10,rfl,kR,λΓ b j hj=>?_⟩));have hj2:j=0:=oM;clear hj;subst hj2;exact zbt
  ·exact zbV
  ·exact zb2
  ·refine .inr (.inr (.inr ⟨dC,dC,0,10,rfl,kR,λΓ b j hj=>?_⟩));have hj2:j=0:=oM;clear hj;subst hj2;exact zbs
  ·exact zbV
  ·exact zb1
  ·exact zbY
  ·refine .inr (.inl ⟨rfl,dC,0,10,rfl,kR,λΓ j hj=>?_⟩);have hj2:j=0:=oM;clear hj;subst hj2;exact zbp
  ·exact zbl
 ·intro Γ b ac wx hF hK hM0;have hM:(λΓ _=>λwx=>Below w1.heap.size w1 wx/\Has wx (Γ 0) 51 #[I n2,.slice (some ⟨bn,3,none⟩) (nl-3) (cb-3),I n1]/\w1.heap.size<=Γ 0) Γ b wx:=hM0;have E6:ac.tmps.getD 6 undef=pT (Γ 0) 0:=hK 9 _ rfl 6 rfl;have aW:=hF.meet;simp only[bG,bS,ax,aI,aH,E6]at aW;generalize ac.tmps.getD 11 undef=v11,ac.tmps.getD 12 undef=v12,ac.tmps.getD 13 undef=v13,ac.tmps.getD 14 undef=v14,ac.tmps.getD 15 undef=v15,ac.tmps.getD 16 undef=v16,ac.tmps.getD 17 undef=v17,ac.tmps.getD 18 undef=v18,ac.tmps.getD 19 undef=v19 at aW;clear hF hK hM0 E6;subst aW;obtain⟨hM1,hM2,Lf⟩:=hM;have yy:=hI (HB.out.trans (hM1.mono HB.out.size));have MG:=hI (eE.out.after hM1);have hq0:=(Below.cell hM1 (p:=⟨bn,0,none⟩) hbl).trans hq0;have hbl:bn<wx.heap.size:=aT hbl hM1.size;have PS:=hI (wS.out.after hM1);have HL:=hI hM2;have hgl:=hM2.lt;have T5:Hid (Reads wx wx.heap.size (some ⟨bn,3,none⟩) (ints rs)):=hI λ_=>⟨bn,3,rfl,hbl,λj u hu=>zbM⟩;clear hM1 hM2 Lf hq1 hq2 wS eE HB;generalize Γ 0=gl at*;(go_upto_region 3 with fail;have T6:Hid (∀wy,Below wx.heap.size wx wy->Calls prog 40 #[.agg #[I n2,.slice (some ⟨bn,3,none⟩) (nl-3) (cb-3),I n1],I n0] wy λe w'=>e=.returned (.tuple #[.pointer none,.iface 31 (I ee)])/\Below wy.heap.size wy w'):=hI λwy hb=>HX.out bn cb nl wy I4.out TZ.out Wn.out ((T5.out.below hb).more hb.size);refine eK kR (λb0=>b0.tmps.getD 5 undef=.slice (some ⟨bn,0,none⟩) nl cb/\b0.tmps.getD 6 undef=pT gl 0/\b0.defers=[]) ⟨rfl,rfl,rfl⟩ 38 rfl (λ_=>0) (λ(Γ:jW) i=>([.agg #[I n2,.slice (some ⟨bn,3,none⟩) (nl-3) (cb-3),I n1],.slice (some ⟨bn,0,none⟩) nl cb,pT bn 0,I n0,.tuple #[.pointer none,.iface 31 (I ee)],.tuple #[.pointer none,.iface 31 (I ee)],.pointer none,.iface 31 (I ee),.pointer none,.iface 31 (I ee)]:List ae).getD i undef) [4] kR (λi=>([[],[],[],[],[],[],[],[],[],[]]:List (List Nat)).getD i []) (λi=>([[],[],[],[],[],[],[],[],[],[]]:List (List Nat)).getD i []) 10 kR ?_ (λj Γ b=>([(λ_ _=>λwy=>Below wx.heap.size wx wy) Γ b,(λ_ _=>λwy=>Below wx.heap.size wx wy) Γ b]:List (aa->Prop)).getD j (λ_=>True)) [21,22,23,24,25,20,26,27,7,8] kR kR ((Below.refl _ _).drew) ?_ ?_);intro Γ ei j hj hu;have hj2:j<10:=hj;have hcase:j=0\/j=1\/j=2\/j=3\/j=4\/j=5\/j=6\/j=7\/j=8\/j=9:=oM;clear hj hj2;rcases hcase with rfl|rfl|rfl|rfl|rfl|rfl|rfl|rfl|rfl|rfl;rfl;rfl;rfl;rfl;rfl;rfl;rfl;rfl;rfl;rfl
  ·intro b0 hb0 i o ho;have hi:i<10:=(az.1 ho).1;obtain⟨f5,f6,fp⟩:=hb0;have hcase:i=0\/i=1\/i=2\/i=3\/i=4\/i=5\/i=6\/i=7\/i=8\/i=9:=oM;clear hi;rcases hcase with rfl|rfl|rfl|rfl|rfl|rfl|rfl|rfl|rfl|rfl<;>simp only[ba,bf,aY]at ho<;>cases ho
   ·refine .inr (.inr (.inr ⟨dC,dC,0,4,rfl,kR,λΓ b j hj=>?_⟩));have hj2:j=0:=oM;clear hj;subst hj2;exact zbr
   ·exact zbZ
   ·exact zb0
   ·refine .inr (.inr (.inr ⟨dC,dC,0,4,rfl,kR,λΓ b j hj=>?_⟩));have hj2:j=0:=oM;clear hj;subst hj2;exact zb7
   ·refine .inr (.inr (.inl ⟨dC,0,rfl,λΓ b hba=>dN rfl (λli ac wx' H hn av hM K hk=>?_)⟩));have e21:ac.tmps[21]?.getD undef=.agg #[I n2,.slice (some ⟨bn,3,none⟩) (nl-3) (cb-3),I n1]:=H.k av 0 21;have e24:ac.tmps[24]?.getD undef=I n0:=H.k av 3 24;have hM1:=hM;simp only[aK]at hM1;have hdf:=hI (H.cA.defers.trans fp);clear av H;go_simp;refine(T6.out wx' hM1).mono ?_;exact zbR
   ·refine .inl ⟨dC,dC,λΓ M=>aM rfl (λli ac wx' H hn av hM K hk=>?_)⟩;have e25:ac.tmps[25]?.getD undef=.tuple #[.pointer none,.iface 31 (I ee)]:=H.k av 4 25;exact zbk
   ·exact zca
   ·exact zca
   ·exact zch
   ·refine .inl ⟨dC,dC,λΓ M=>aM rfl (λli ac wx' H hn av hM K hk=>?_)⟩;have e27:ac.tmps[27]?.getD undef=.iface 31 (I ee):=H.k av 7 27;exact zbk
  ·intro Γ b ac wy hF hK hM0;have hM:(λ_ _=>λwy=>Below wx.heap.size wx wy) Γ b wy:=hM0;have E7:ac.tmps.getD 7 undef=.pointer none:=hK 8 _ rfl 7 rfl;have E8:ac.tmps.getD 8 undef=.iface 31 (I ee):=hK 9 _ rfl 8 rfl;have aW:=hF.meet;simp only[bG,bS,ax,aI,aH,E7,E8]at aW;generalize ac.tmps.getD 21 undef=v21,ac.tmps.getD 22 undef=v22,ac.tmps.getD 23 undef=v23,ac.tmps.getD 24 undef=v24,ac.tmps.getD 25 undef=v25,ac.tmps.getD 20 undef=v20,ac.tmps.getD 26 undef=v26,ac.tmps.getD 27 undef=v27 at aW;clear hF hK hM0 E7 E8;subst aW;have HM:=hI hM;have PT:=hI (MG.out.after hM);(go_wp2_with (go_at_call 41;refine(eJ ee wy (hI PT.out.et)).mono ?_;rintro e w3 ⟨rfl,hb3⟩));exact zbN
theorem PU{n0 n1 n2:Int}{rs:List Int}(ee ep:Int)(HX:Hid (∀(bn cb nl:Nat)(wx:aa),nl-3=rs.length->nl<=cb->rs.length<=100000->Reads wx wx.heap.size (some ⟨bn,3,none⟩) (ints rs)->Calls prog 40 #[.agg #[I n2,.slice (some ⟨bn,3,none⟩) (nl-3) (cb-3),I n1],I n0] wx λe w'=>(∃b,e=.returned (.tuple #[.pointer none,.iface 149 (pT b 0)])/\Has w' b 151 #[I ee,I ep])/\Below wx.heap.size wx w'))(hr:Hid (numsOf l (-4)=some (n0::n1::n2::rs)))(hw:Hid (Words w A l))(c:Nat)(hs:Hid (Std w)):
 Calls prog 14 #[pT g 0,.slice A l.length c] w (λe w'=>e=.panicked (xl ee)/\Below w.heap.size w w'):=by
 have HN:=hI (xt hw c (-4) dC dC hs hr.out);have Wn:Hid (rs.length<=100000):=hI zbF;have TY:Hid (1<=rs.length):=hI zcu;clear hr hw;go_enter func14,ntmps14;go_upto_region 2 with(go_at_call 39;refine HN.out.mono ?_;rintro e w1 ⟨⟨v,rfl,ho⟩,hb⟩;have HB:=hI hb;have HO:=hI ho;clear hb ho)
 obtain⟨bn,cb,cs,rfl,hcb,hh,hcs⟩:=jz HO.out sM;have hq0:w1.cell? ⟨bn,0,none⟩=some (I n0):=by rw[hh.cell];exact hcs 0 _ rfl
 have hq1:w1.cell? ⟨bn,1,none⟩=some (I n1):=by rw[hh.cell];exact hcs 1 _ rfl
 have hq2:w1.cell? ⟨bn,2,none⟩=some (I n2):=by rw[hh.cell];exact hcs 2 _ rfl
 have hbl:=hh.lt;have Dn:Hid (∀(j:Nat)(u:ae),(ints rs)[j]?=some u->cs[3+j]?=some u):=hI λj u hu=>hcs (3+j) u zbI;have wS:=hI hh;have eE:=hI (hs.out.after HB.out);obtain⟨nl,hnl⟩:∃nl,nl=(n0::n1::n2::rs).length:=⟨_,rfl⟩;rw[<-hnl]at hcb⊢;have Db:4<=nl:=by rw[hnl];have:=TY.out;simp;omega
 have Xi:¬cb=3:=oM;have hi0:0<nl:=oM;have hi1:(1:Int)<(nl:Int):=oM;have hi2:(2:Int)<(nl:Int):=by rw[hnl];simp;omega
 have hi3:(3:Int)<=(nl:Int):=oM;have I4:Hid (nl-3=rs.length):=hI (by rw[hnl];simp);have TZ:Hid (nl<=cb):=hI hcb;clear hh hcs HO HN hnl hs;refine eK kR (λb0=>b0.tmps.getD 5 undef=.slice (some ⟨bn,0,none⟩) nl cb/\b0.defers=[]) ⟨rfl,rfl⟩ 38 rfl (λ_=>0) (λ(Γ:jW) i=>([.slice (some ⟨bn,0,none⟩) nl cb,pT bn 1,I n1,.slice (some ⟨bn,0,none⟩) nl cb,pT bn 2,I n2,.slice (some ⟨bn,0,none⟩) nl cb,.slice (some ⟨bn,3,none⟩) (nl-3) (cb-3),.agg #[I n2,.slice (some ⟨bn,3,none⟩) (nl-3) (cb-3),I n1],pT (Γ 0) 0,undef]:List ae).getD i undef) [10] kR (λi=>([[],[],[],[],[],[],[],[],[],[0],[]]:List (List Nat)).getD i []) (λi=>([[],[],[],[],[],[],[],[],[],[0],[]]:List (List Nat)).getD i []) 9 kR ?_ (λj Γ b=>([(λΓ b=>λwx=>Below w1.heap.size w1 wx/\(b=true->Has wx (Γ 0) 51 #[I 0,.slice none 0 0,I 0]/\w1.heap.size<=Γ 0)) Γ b,(λΓ _=>λwx=>Below w1.heap.size w1 wx/\Has wx (Γ 0) 51 #[I n2,.slice (some ⟨bn,3,none⟩) (nl-3) (cb-3),I n1]/\w1.heap.size<=Γ 0) Γ b]:List (aa->Prop)).getD j (λ_=>True)) [11,12,13,14,15,16,17,18,19,6] kR kR ⟨(Below.refl _ _).drew,λh=>by cases h⟩ ?_ ?_;intro Γ ei j hj hu;have hj2:j<11:=hj;have hcase:j=0\/j=1\/j=2\/j=3\/j=4\/j=5\/j=6\/j=7\/j=8\/j=9\/j=10:=oM;clear hj hj2;rcases hcase with rfl|rfl|rfl|rfl|rfl|rfl|rfl|rfl|rfl|rfl|rfl;rfl;rfl;rfl;rfl;rfl;rfl;rfl;rfl;rfl;exact zbB;rfl
 ·intro b0 hb0 i o ho;have hi:i<11:=(az.1 ho).1;obtain⟨f5,fp⟩:=hb0;have hcase:i=0\/i=1\/i=2\/i=3\/i=4\/i=5\/i=6\/i=7\/i=8\/i=9\/i=10:=oM;clear hi;rcases hcase with rfl|rfl|rfl|rfl|rfl|rfl|rfl|rfl|rfl|rfl|rfl<;>simp only[ba,bf,aY]at ho<;>cases ho
  ·exact zbV
  ·exact zb3
  ·refine .inr (.inr (.inr ⟨dC,dC,0,10,rfl,kR,λΓ b j hj=>?_⟩));have hj2:j=0:=oM;clear hj;subst hj2;exact zbt
  ·exact zbV
  ·exact zb2
  ·refine .inr (.inr (.inr ⟨dC,dC,0,10,rfl,kR,λΓ b j hj=>?_⟩));have hj2:j=0:=oM;clear hj;subst hj2;exact zbs
  ·exact zbV
  ·exact zb1
  ·exact zbY
  ·refine .inr (.inl ⟨rfl,dC,0,10,rfl,kR,λΓ j hj=>?_⟩);have hj2:j=0:=oM;clear hj;subst hj2;exact zbp
  ·exact zbl
 ·intro Γ b ac wx hF hK hM0;have hM:(λΓ _=>λwx=>Below w1.heap.size w1 wx/\Has wx (Γ 0) 51 #[I n2,.slice (some ⟨bn,3,none⟩) (nl-3) (cb-3),I n1]/\w1.heap.size<=Γ 0) Γ b wx:=hM0;have E6:ac.tmps.getD 6 undef=pT (Γ 0) 0:=hK 9 _ rfl 6 rfl;have aW:=hF.meet;simp only[bG,bS,ax,aI,aH,E6]at aW;generalize ac.tmps.getD 11 undef=v11,ac.tmps.getD 12 undef=v12,ac.tmps.getD 13 undef=v13,ac.tmps.getD 14 undef=v14,ac.tmps.getD 15 undef=v15,ac.tmps.getD 16 undef=v16,ac.tmps.getD 17 undef=v17,ac.tmps.getD 18 undef=v18,ac.tmps.getD 19 undef=v19 at aW;clear hF hK hM0 E6;subst aW;obtain⟨hM1,hM2,Lf⟩:=hM;have yy:=hI (HB.out.trans (hM1.mono HB.out.size));have MG:=hI (eE.out.after hM1);have hq0:=(Below.cell hM1 (p:=⟨bn,0,none⟩) hbl).trans hq0;have hbl:bn<wx.heap.size:=aT hbl hM1.size;have PS:=hI (wS.out.after hM1);have HL:=hI hM2;have hgl:=hM2.lt;have T5:Hid (Reads wx wx.heap.size (some ⟨bn,3,none⟩) (ints rs)):=hI λ_=>⟨bn,3,rfl,hbl,λj u hu=>zbM⟩;clear hM1 hM2 Lf hq1 hq2 wS eE HB;generalize Γ 0=gl at*;(go_upto_region 3 with fail;have T6:Hid (∀wy,Below wx.heap.size wx wy->Calls prog 40 #[.agg #[I n2,.slice (some ⟨bn,3,none⟩) (nl-3) (cb-3),I n1],I n0] wy λe w'=>(∃b,e=.returned (.tuple #[.pointer none,.iface 149 (pT b 0)])/\Has w' b 151 #[I ee,I ep])/\Below wy.heap.size wy w'):=hI λwy hb=>HX.out bn cb nl wy I4.out TZ.out Wn.out ((T5.out.below hb).more hb.size);refine eK kR (λb0=>b0.tmps.getD 5 undef=.slice (some ⟨bn,0,none⟩) nl cb/\b0.tmps.getD 6 undef=pT gl 0/\b0.defers=[]) ⟨rfl,rfl,rfl⟩ 38 rfl (λ_=>0) (λ(Γ:jW) i=>([.agg #[I n2,.slice (some ⟨bn,3,none⟩) (nl-3) (cb-3),I n1],.slice (some ⟨bn,0,none⟩) nl cb,pT bn 0,I n0,.tuple #[.pointer none,.iface 149 (pT (Γ 0) 0)],.tuple #[.pointer none,.iface 149 (pT (Γ 0) 0)],.pointer none,.iface 149 (pT (Γ 0) 0),.pointer none,.iface 149 (pT (Γ 0) 0)]:List ae).getD i undef) [4] kR (λi=>([[],[],[],[],[0],[],[],[],[],[]]:List (List Nat)).getD i []) (λi=>([[],[],[],[],[0],[0],[],[0],[],[0]]:List (List Nat)).getD i []) 10 kR ?_ (λj Γ b=>([(λ_ _=>λwy=>Below wx.heap.size wx wy) Γ b,(λΓ _=>λwy=>Below wx.heap.size wx wy/\Has wy (Γ 0) 151 #[I ee,I ep]) Γ b]:List (aa->Prop)).getD j (λ_=>True)) [21,22,23,24,25,20,26,27,7,8] kR kR ((Below.refl _ _).drew) ?_ ?_);intro Γ ei j hj hu;have hj2:j<10:=hj;have hcase:j=0\/j=1\/j=2\/j=3\/j=4\/j=5\/j=6\/j=7\/j=8\/j=9:=oM;clear hj hj2;rcases hcase with rfl|rfl|rfl|rfl|rfl|rfl|rfl|rfl|rfl|rfl;rfl;rfl;rfl;rfl;exact zbG;exact zbG;rfl;exact zbS;rfl;exact zbS
  ·intro b0 hb0 i o ho;have hi:i<10:=(az.1 ho).1;obtain⟨f5,f6,fp⟩:=hb0;have hcase:i=0\/i=1\/i=2\/i=3\/i=4\/i=5\/i=6\/i=7\/i=8\/i=9:=oM;clear hi;rcases hcase with rfl|rfl|rfl|rfl|rfl|rfl|rfl|rfl|rfl|rfl<;>simp only[ba,bf,aY]at ho<;>cases ho
   ·refine .inr (.inr (.inr ⟨dC,dC,0,4,rfl,kR,λΓ b j hj=>?_⟩));have hj2:j=0:=oM;clear hj;subst hj2;exact zbr
   ·exact zbZ
   ·exact zb0
   ·refine .inr (.inr (.inr ⟨dC,dC,0,4,rfl,kR,λΓ b j hj=>?_⟩));have hj2:j=0:=oM;clear hj;subst hj2;exact zb7
   ·refine .inr (.inr (.inl ⟨dC,0,rfl,λΓ b hba=>dN rfl (λli ac wx' H hn av hM K hk=>?_)⟩));have e21:ac.tmps[21]?.getD undef=.agg #[I n2,.slice (some ⟨bn,3,none⟩) (nl-3) (cb-3),I n1]:=H.k av 0 21;have e24:ac.tmps[24]?.getD undef=I n0:=H.k av 3 24;have hM1:=hM;simp only[aK]at hM1;have hdf:=hI (H.cA.defers.trans fp);clear av H;go_simp;refine(T6.out wx' hM1).mono ?_;rintro e w' ⟨⟨b',rfl,hat⟩,hb⟩;exact hk (Γ.set 0 b') _ (jB _ _ _) ⟨hM1.trans (hb.mono hM1.size),hat⟩
   ·refine .inl ⟨dC,dC,λΓ M=>aM rfl (λli ac wx' H hn av hM K hk=>?_)⟩;have e25:ac.tmps[25]?.getD undef=.tuple #[.pointer none,.iface 149 (pT (Γ 0) 0)]:=H.k av 4 25;exact zbk
   ·exact zb9
   ·exact zb9
   ·exact zch
   ·refine .inl ⟨dC,dC,λΓ M=>aM rfl (λli ac wx' H hn av hM K hk=>?_)⟩;have e27:ac.tmps[27]?.getD undef=.iface 149 (pT (Γ 0) 0):=H.k av 7 27;exact zbk
  ·intro Γ b ac wy hF hK hM0;have hM:(λΓ _=>λwy=>Below wx.heap.size wx wy/\Has wy (Γ 0) 151 #[I ee,I ep]) Γ b wy:=hM0;have E7:ac.tmps.getD 7 undef=.pointer none:=hK 8 _ rfl 7 rfl;have E8:ac.tmps.getD 8 undef=.iface 149 (pT (Γ 0) 0):=hK 9 _ rfl 8 rfl;have aW:=hF.meet;simp only[bG,bS,ax,aI,aH,E7,E8]at aW;generalize ac.tmps.getD 21 undef=v21,ac.tmps.getD 22 undef=v22,ac.tmps.getD 23 undef=v23,ac.tmps.getD 24 undef=v24,ac.tmps.getD 25 undef=v25,ac.tmps.getD 20 undef=v20,ac.tmps.getD 26 undef=v26,ac.tmps.getD 27 undef=v27 at aW;clear hF hK hM0 E7 E8;subst aW;have HM:=hI hM.1;have HAT:=hM.2;have PT:=hI (MG.out.after hM.1);generalize Γ 0=ga at*;(go_wp2_with (go_at_call 41;refine(TL ee ep ga wy (hI PT.out.et) HAT).mono ?_;rintro e w3 ⟨rfl,hb3⟩));exact zbN
theorem EG{n0 n1 n2:Int}{rs:List Int}(L:Lay){B:Nat}{a0 a1 a2 a3:ae}(h:Has w g 54 #[a0,a1,a2,a3])(hBg:B<=g)(hBw:B<=w.heap.size)(hL:Hid (L.Ok/\n2=(L.secs:Int)/\rs=zs L.routes/\n1=(L.delay:Int)))(hwin:Hid (1<=n0/\n0<=20))(hr:Hid (numsOf l (-4)=some (n0::n1::n2::rs)))(hw:Hid (Words w A l))(c:Nat)(hs:Hid (Std w)):
 Calls prog 14 #[pT g 0,.slice A l.length c] w (λe w'=>e=.returned (.string ⟨#[98,101,103,105,110]⟩)/\∃x vr,dV w' B g x vr ⟨L,Sys.new n0⟩/\Turned (λb=>b=g) w w'/\∀b,FS x b->w.heap.size<=b):=by
 have HN:=hI (xt hw c (-4) dC dC hs hr.out);have Wn:Hid (rs.length<=100000):=hI zbF;have TY:Hid (1<=rs.length):=hI zcu;clear hr hw;go_enter func14,ntmps14;go_upto_region 2 with(go_at_call 39;refine HN.out.mono ?_;rintro e w1 ⟨⟨v,rfl,ho⟩,hb⟩;have HB:=hI hb;have HO:=hI ho;clear hb ho)
 obtain⟨bn,cb,cs,rfl,hcb,hh,hcs⟩:=jz HO.out sM;have hq0:w1.cell? ⟨bn,0,none⟩=some (I n0):=by rw[hh.cell];exact hcs 0 _ rfl
 have hq1:w1.cell? ⟨bn,1,none⟩=some (I n1):=by rw[hh.cell];exact hcs 1 _ rfl
 have hq2:w1.cell? ⟨bn,2,none⟩=some (I n2):=by rw[hh.cell];exact hcs 2 _ rfl
 have hbl:=hh.lt;have Dn:Hid (∀(j:Nat)(u:ae),(ints rs)[j]?=some u->cs[3+j]?=some u):=hI λj u hu=>hcs (3+j) u zbI;have wS:=hI hh;have eE:=hI (hs.out.after HB.out);obtain⟨nl,hnl⟩:∃nl,nl=(n0::n1::n2::rs).length:=⟨_,rfl⟩;rw[<-hnl]at hcb⊢;have Db:4<=nl:=by rw[hnl];have:=TY.out;simp;omega
 have Xi:¬cb=3:=oM;have hi0:0<nl:=oM;have hi1:(1:Int)<(nl:Int):=oM;have hi2:(2:Int)<(nl:Int):=by rw[hnl];simp;omega
 have hi3:(3:Int)<=(nl:Int):=oM;have I4:Hid (nl-3=rs.length):=hI (by rw[hnl];simp);have TZ:Hid (nl<=cb):=hI hcb;clear hh hcs HO HN hnl hs;refine eK kR (λb0=>b0.tmps.getD 5 undef=.slice (some ⟨bn,0,none⟩) nl cb/\b0.defers=[]) ⟨rfl,rfl⟩ 38 rfl (λ_=>0) (λ(Γ:jW) i=>([.slice (some ⟨bn,0,none⟩) nl cb,pT bn 1,I n1,.slice (some ⟨bn,0,none⟩) nl cb,pT bn 2,I n2,.slice (some ⟨bn,0,none⟩) nl cb,.slice (some ⟨bn,3,none⟩) (nl-3) (cb-3),.agg #[I n2,.slice (some ⟨bn,3,none⟩) (nl-3) (cb-3),I n1],pT (Γ 0) 0,undef]:List ae).getD i undef) [10] kR (λi=>([[],[],[],[],[],[],[],[],[],[0],[]]:List (List Nat)).getD i []) (λi=>([[],[],[],[],[],[],[],[],[],[0],[]]:List (List Nat)).getD i []) 9 kR ?_ (λj Γ b=>([(λΓ b=>λwx=>Below w1.heap.size w1 wx/\(b=true->Has wx (Γ 0) 51 #[I 0,.slice none 0 0,I 0]/\w1.heap.size<=Γ 0)) Γ b,(λΓ _=>λwx=>Below w1.heap.size w1 wx/\Has wx (Γ 0) 51 #[I n2,.slice (some ⟨bn,3,none⟩) (nl-3) (cb-3),I n1]/\w1.heap.size<=Γ 0) Γ b]:List (aa->Prop)).getD j (λ_=>True)) [11,12,13,14,15,16,17,18,19,6] kR kR ⟨(Below.refl _ _).drew,λh=>by cases h⟩ ?_ ?_;intro Γ ei j hj hu;have hj2:j<11:=hj;have hcase:j=0\/j=1\/j=2\/j=3\/j=4\/j=5\/j=6\/j=7\/j=8\/j=9\/j=10:=oM;clear hj hj2;rcases hcase with rfl|rfl|rfl|rfl|rfl|rfl|rfl|rfl|rfl|rfl|rfl;rfl;rfl;rfl;rfl;rfl;rfl;rfl;rfl;rfl;exact zbB;rfl
 ·intro b0 hb0 i o ho;have hi:i<11:=(az.1 ho).1;obtain⟨f5,fp⟩:=hb0;have hcase:i=0\/i=1\/i=2\/i=3\/i=4\/i=5\/i=6\/i=7\/i=8\/i=9\/i=10:=oM;clear hi;rcases hcase with rfl|rfl|rfl|rfl|rfl|rfl|rfl|rfl|rfl|rfl|rfl<;>simp only[ba,bf,aY]at ho<;>cases ho
  ·exact zbV
  ·exact zb3
  ·refine .inr (.inr (.inr ⟨dC,dC,0,10,rfl,kR,λΓ b j hj=>?_⟩));have hj2:j=0:=oM;clear hj;subst hj2;exact zbt
  ·exact zbV
  ·exact zb2
  ·refine .inr (.inr (.inr ⟨dC,dC,0,10,rfl,kR,λΓ b j hj=>?_⟩));have hj2:j=0:=oM;clear hj;subst hj2;exact zbs
  ·exact zbV
  ·exact zb1
  ·exact zbY
  ·refine .inr (.inl ⟨rfl,dC,0,10,rfl,kR,λΓ j hj=>?_⟩);have hj2:j=0:=oM;clear hj;subst hj2;exact zbp
  ·exact zbl
 ·intro Γ b ac wx hF hK hM0;have hM:(λΓ _=>λwx=>Below w1.heap.size w1 wx/\Has wx (Γ 0) 51 #[I n2,.slice (some ⟨bn,3,none⟩) (nl-3) (cb-3),I n1]/\w1.heap.size<=Γ 0) Γ b wx:=hM0;have E6:ac.tmps.getD 6 undef=pT (Γ 0) 0:=hK 9 _ rfl 6 rfl;have aW:=hF.meet;simp only[bG,bS,ax,aI,aH,E6]at aW;generalize ac.tmps.getD 11 undef=v11,ac.tmps.getD 12 undef=v12,ac.tmps.getD 13 undef=v13,ac.tmps.getD 14 undef=v14,ac.tmps.getD 15 undef=v15,ac.tmps.getD 16 undef=v16,ac.tmps.getD 17 undef=v17,ac.tmps.getD 18 undef=v18,ac.tmps.getD 19 undef=v19 at aW;clear hF hK hM0 E6;subst aW;obtain⟨hM1,hM2,Lf⟩:=hM;have yy:=hI (HB.out.trans (hM1.mono HB.out.size));have MG:=hI (eE.out.after hM1);have hq0:=(Below.cell hM1 (p:=⟨bn,0,none⟩) hbl).trans hq0;have hbl:bn<wx.heap.size:=aT hbl hM1.size;have PS:=hI (wS.out.after hM1);have HL:=hI hM2;have hgl:=hM2.lt;have T5:Hid (Reads wx wx.heap.size (some ⟨bn,3,none⟩) (ints rs)):=hI λ_=>⟨bn,3,rfl,hbl,λj u hu=>zbM⟩;clear hM1 hM2 Lf hq1 hq2 wS eE HB;generalize Γ 0=gl at*;go_upto_region 3 with fail;have T6:Hid (∀wy,Below wx.heap.size wx wy->Calls prog 40 #[.agg #[I n2,.slice (some ⟨bn,3,none⟩) (nl-3) (cb-3),I n1],I n0] wy λe w'=>(∃x,e=.returned (.tuple #[pT x.g 0,.nilIface])/\cF w' wy.heap.size x L (Sys.new n0))/\Below wy.heap.size wy w'):=hI λwy hb=>by obtain⟨h1,h2,h3,h4⟩:=hL.out;(have hrd:Reads wy wy.heap.size (some ⟨bn,3,none⟩) (ints (zs L.routes)):=by rw[<-h3];exact(T5.out.below hb).more hb.size);(have hlen:L.routes.length=nl-3:=by rw[I4.out,h3,dw]);have h5:=V5 (some ⟨bn,3,none⟩) (nl-3) (cb-3) L wy h1 (hI hlen) (by have:=TZ.out;omega) hrd n0 hwin.out.1 hwin.out.2;rw[h2,h4];exact h5
  refine eK kR (λb0=>b0.tmps.getD 5 undef=.slice (some ⟨bn,0,none⟩) nl cb/\b0.tmps.getD 6 undef=pT gl 0/\b0.defers=[]) ⟨rfl,rfl,rfl⟩ 38 rfl (λ_=>0) (λ(Γ:jW) i=>([.agg #[I n2,.slice (some ⟨bn,3,none⟩) (nl-3) (cb-3),I n1],.slice (some ⟨bn,0,none⟩) nl cb,pT bn 0,I n0,.tuple #[pT (Γ 0) 0,.nilIface],.tuple #[pT (Γ 0) 0,.nilIface],pT (Γ 0) 0,.nilIface,pT (Γ 0) 0,.nilIface]:List ae).getD i undef) [4] kR (λi=>([[],[],[],[],[0],[],[],[],[],[]]:List (List Nat)).getD i []) (λi=>([[],[],[],[],[0],[0],[0],[],[0],[]]:List (List Nat)).getD i []) 10 kR ?_ (λj Γ b=>([(λ_ _=>λwy=>Below wx.heap.size wx wy) Γ b,(λΓ _=>λwy=>Below wx.heap.size wx wy/\∃x,x.g=Γ 0/\cF wy wx.heap.size x L (Sys.new n0)) Γ b]:List (aa->Prop)).getD j (λ_=>True)) [21,22,23,24,25,20,26,27,7,8] kR kR ((Below.refl _ _).drew) ?_ ?_;intro Γ ei j hj hu;have hj2:j<10:=hj;have hcase:j=0\/j=1\/j=2\/j=3\/j=4\/j=5\/j=6\/j=7\/j=8\/j=9:=oM;clear hj hj2;rcases hcase with rfl|rfl|rfl|rfl|rfl|rfl|rfl|rfl|rfl|rfl;rfl;rfl;rfl;rfl;exact zbP;exact zbP;exact zbB;rfl;exact zbB;rfl
  ·intro b0 hb0 i o ho;have hi:i<10:=(az.1 ho).1;obtain⟨f5,f6,fp⟩:=hb0;have hcase:i=0\/i=1\/i=2\/i=3\/i=4\/i=5\/i=6\/i=7\/i=8\/i=9:=oM;clear hi;rcases hcase with rfl|rfl|rfl|rfl|rfl|rfl|rfl|rfl|rfl|rfl<;>simp only[ba,bf,aY]at ho<;>cases ho
   ·refine .inr (.inr (.inr ⟨dC,dC,0,4,rfl,kR,λΓ b j hj=>?_⟩));have hj2:j=0:=oM;clear hj;subst hj2;exact zbr
   ·exact zbZ
   ·exact zb0
   ·refine .inr (.inr (.inr ⟨dC,dC,0,4,rfl,kR,λΓ b j hj=>?_⟩));have hj2:j=0:=oM;clear hj;subst hj2;exact zb7
   ·refine .inr (.inr (.inl ⟨dC,0,rfl,λΓ b hba=>dN rfl (λli ac wx' H hn av hM K hk=>?_)⟩));have e21:ac.tmps[21]?.getD undef=.agg #[I n2,.slice (some ⟨bn,3,none⟩) (nl-3) (cb-3),I n1]:=H.k av 0 21;have e24:ac.tmps[24]?.getD undef=I n0:=H.k av 3 24;have hM1:=hM;simp only[aK]at hM1;have hdf:=hI (H.cA.defers.trans fp);clear av H;go_simp;refine(T6.out wx' hM1).mono ?_;rintro e w' ⟨⟨x',rfl,hsy⟩,hb⟩;exact hk (Γ.set 0 x'.g) _ (jB _ _ _) ⟨hM1.trans (hb.mono hM1.size),x',rfl,Co hsy hM1.size⟩
   ·refine .inl ⟨dC,dC,λΓ M=>aM rfl (λli ac wx' H hn av hM K hk=>?_)⟩;have e25:ac.tmps[25]?.getD undef=.tuple #[pT (Γ 0) 0,.nilIface]:=H.k av 4 25;exact zbk
   ·exact zcg
   ·exact zcg
   ·refine .inl ⟨dC,dC,λΓ M=>aM rfl (λli ac wx' H hn av hM K hk=>?_)⟩;have e26:ac.tmps[26]?.getD undef=pT (Γ 0) 0:=H.k av 6 26;exact zbk
   ·refine .inl ⟨dC,dC,λΓ M=>aM rfl (λli ac wx' H hn av hM K hk=>?_)⟩;have e27:ac.tmps[27]?.getD undef=.nilIface:=H.k av 7 27;exact zbk
  ·intro Γ b ac wy hF hK hM0;have hM:(λΓ _=>λwy=>Below wx.heap.size wx wy/\∃x,x.g=Γ 0/\cF wy wx.heap.size x L (Sys.new n0)) Γ b wy:=hM0;have E7:ac.tmps.getD 7 undef=pT (Γ 0) 0:=hK 8 _ rfl 7 rfl;have E8:ac.tmps.getD 8 undef=.nilIface:=hK 9 _ rfl 8 rfl;have aW:=hF.meet;simp only[bG,bS,ax,aI,aH,E7,E8]at aW;generalize ac.tmps.getD 21 undef=v21,ac.tmps.getD 22 undef=v22,ac.tmps.getD 23 undef=v23,ac.tmps.getD 24 undef=v24,ac.tmps.getD 25 undef=v25,ac.tmps.getD 20 undef=v20,ac.tmps.getD 26 undef=v26,ac.tmps.getD 27 undef=v27 at aW;clear hF hK hM0 E7 E8;subst aW;obtain⟨hM1,x,hxg,hsy⟩:=hM;have HM:=hI hM1;have PT:=hI hsy;have HXG:=hI hxg;have kl:=HL.out.after hM1;have KD:=hI (((h.after yy.out)).after hM1);have c0:=kl.aJ 0 (I n2) rfl;have c1:=kl.aJ 1 (.slice (some ⟨bn,3,none⟩) (nl-3) (cb-3)) rfl;have c2:=kl.aJ 2 (I n1) rfl;have hgl:=kl.lt;generalize Γ 0=gx at*;have d0:=KD.out.aJ 0 a0 rfl;have d1:=KD.out.aJ 1 a1 rfl;have d2:=KD.out.aJ 2 a2 rfl;have d3:=KD.out.aJ 3 a3 rfl;have f0:=KD.out.free 0;have f1:=KD.out.free 1;have f2:=KD.out.free 2;have f3:=KD.out.free 3;have hgd:=KD.out.lt;clear hM1 hsy hxg kl;(go_wp2_with (go_at_call 41;refine(nv wy).mono ?_;rintro e w3 ⟨rfl,rfl⟩));go_ret;have hn0:∀b,b=g->Own Zi wy b:=λb e=>⟨_,_,e▸KD.out,rfl⟩;have ht:Turned (λb=>b=g) wy ((((wy.setCell ⟨g,0,none⟩ (I n2)).setCell ⟨g,1,none⟩ (.slice (some ⟨bn,3,none⟩) (nl-3) (cb-3))).setCell ⟨g,2,none⟩ (I n1)).setCell ⟨g,3,none⟩ (pT gx 0)):=((((Turned.refl (λb=>b=g) wy).setCell ⟨g,0,none⟩ (I n2) (.inl rfl)).setCell ⟨g,1,none⟩ (.slice (some ⟨bn,3,none⟩) (nl-3) (cb-3)) (.inl rfl)).setCell ⟨g,2,none⟩ (I n1) (.inl rfl)).setCell ⟨g,3,none⟩ (pT gx 0) (.inl rfl);have hd:=(((KD.out.set 0 (I n2)).set 1 (.slice (some ⟨bn,3,none⟩) (nl-3) (cb-3))).set 2 (I n1)).set 3 (pT gx 0);obtain⟨h1,h2,h3,h4⟩:=hL.out;(have hll:L.routes.length=nl-3:=by rw[I4.out,h3,dw]);have hcn:=(PS.out.after HM.out).iN ht hn0 rfl;refine⟨rfl,x,.slice (some ⟨bn,3,none⟩) (nl-3) (cb-3),⟨?_,?_,PT.out.J7 ht hn0|>(Co · (aS hBw yy.out.size)),hBg,h1,?_⟩,?_,λb hb=>aS yy.out.size (PT.out.ge hb)⟩;show Has _ g _ #[I L.secs,_,I L.delay,pT x.g 0];rw[HXG.out,<-h2,<-h4];exact hd;refine⟨bn,3,cb-3,cs,by rw[<-hll],by show L.routes.length<=_;omega,hcn,λj u hu=>Dn.out j u (by rw[h3];exact hu)⟩;exact aS hBw (aS (yy.out.trans (HM.out.mono yy.out.size)).size ht.size);exact(Turned.of_below (yy.out.trans (HM.out.mono yy.out.size)) _).trans ht (λk hk hf=>hf)
end
section
variable {w:aa}{B g:Nat}{x:fV}{vr:ae}{d:Dk}{A:Option Addr}{l:List ay}
theorem J8(h:dV w B g x vr d)(hw:Words w A l)(c:Nat)(hs:Std w)(hr:numsOf l (-4)=none):Calls prog 14 #[pT g 0,.slice A l.length c] w (cv w B g x (d,.err 3)):=by
 have HH:=hI h;have HN:=hI (fF (hI hw) c (-4) dC dC (hI hs) hr);clear h hw hs hr;go_enter func14,ntmps14;go_wp2_with (go_at_call 39;refine HN.out.mono ?_;rintro e w1 ⟨rfl,hb⟩)
 exact zbE
theorem T7(h:dV w B g x vr d)(hw:Words w A l)(c:Nat)(hs:Std w):Calls prog 14 #[pT g 0,.slice A l.length c] w (cv w B g x (bB .begin d l)):=by
 cases hr:numsOf l (-4)with
 |none=>have hE:bB .begin d l=(d,.err 3):=zbx;rw[hE];exact J8 h hw c hs hr
 |some n=>
  have hE:bB .begin d l=my d n:=zbx
  rw[hE];obtain⟨n0,n1,n2,rs,rfl⟩:∃n0 n1 n2 rs,n=n0::n1::n2::rs:=by
   match n,lm hr with
   |n0::n1::n2::rs,_=>exact⟨n0,n1,n2,rs,rfl⟩
  have hck:Mz (n0::n1::n2::rs)=ib n2 rs n1:=rfl;have ha:cC (n0::n1::n2::rs)=n0:=rfl;unfold my;rw[hck,ha];cases hc:ib n2 rs n1 with
  |bare e=>refine(zB e (hI λbn cb nl wx h1 h2 h3 h4=>?_) (hI hr) (hI hw) c (hI hs)).mono ?_;have:=zA n2 n1 (some ⟨bn,3,none⟩) (cb-3) rs n0 wx oM oM h4 (hI (by rw[hc];intro hh;cases hh));rw[<-h1,hc]at this;refine this.mono ?_;rintro e w' ⟨⟨v,rfl,rfl⟩,hb⟩;exact⟨rfl,hb⟩;exact zbO
  |place e p=>refine(PU e p (hI λbn cb nl wx h1 h2 h3 h4=>?_) (hI hr) (hI hw) c (hI hs)).mono ?_;have:=zA n2 n1 (some ⟨bn,3,none⟩) (cb-3) rs n0 wx oM oM h4 (hI (by rw[hc];intro hh;cases hh));rw[<-h1,hc]at this;refine this.mono ?_;rintro e w' ⟨⟨v,rfl,b,_,rfl,hb2⟩,hb⟩;exact⟨⟨b,rfl,hb2⟩,hb⟩;exact zbO
  |ok=>by_cases hwin:1<=n0/\n0<=20;obtain⟨L,hL,rfl,rfl,rfl⟩:=zz hc;refine(EG L h.has h.low h.hB (hI ⟨hL,rfl,rfl,rfl⟩) (hI hwin) (hI hr) (hI hw) c (hI hs)).mono ?_;rintro e w' ⟨rfl,x',vx,hd,ht,hf⟩;(have hlo:My (n0::(L.delay:Int)::(L.secs:Int)::zs L.routes)=L:=by show(⟨Int.toNat (L.secs:Int),(zs L.routes).map Int.toNat,Int.toNat (L.delay:Int)⟩:Lay)=L;(have:(zs L.routes).map Int.toNat=L.routes:=by unfold zs;rw[List.map_map];exact(List.map_congr_left (g:=id) λ_ _=>rfl).trans (List.map_id _));rw[this];rfl);rw[hlo];show cv w B g x (if 1<=n0/\n0<=20 then _ else _) _ _;rw[if_pos hwin];refine⟨rfl,x',vx,hd,ht.mono λk _ hk=>.inl hk,λb hb=>?_⟩;rcases hb with rfl|hb;exact .inl (.inl rfl);exact .inr (hf b hb);show Calls _ _ _ _ (cv w B g x (if 1<=n0/\n0<=20 then _ else _));rw[if_neg hwin];refine(zB 2 (hI λbn cb nl wx h1 h2 h3 h4=>?_) (hI hr) (hI hw) c (hI hs)).mono ?_;have:=J6 n2 n1 (some ⟨bn,3,none⟩) (cb-3) rs n0 wx oM oM h4 (hI hc) hwin;rw[<-h1]at this;exact this;exact zbO
end
theorem J9:∀(l:List Cm)(i:Nat)(c:Cm),l[i]?=some c->(gH l)[i*3]?=some (I c.1)/\(gH l)[i*3+1]?=some (I c.2.1)/\(gH l)[i*3+2]?=some (I c.2.2)
 |[],i,c,h=>by simp at h
 |a::l,0,c,h=>by
  have e:a=c:=by simpa using h
  subst e;exact⟨rfl,rfl,rfl⟩
 |a::l,i+1,c,h=>by have ih:=J9 l i c (by simpa using h);have e:gH (a::l)=I a.1::I a.2.1::I a.2.2::gH l:=rfl;rw[e,show(i+1)*3=i*3+1+1+1 by omega];exact ih
theorem T8{w:aa}{base:Nat}{v:ae}{l:List Cm}(h:w.ownsRow base 157 3 v l.length (gH l)):∃A c,v=.slice A l.length c/\l.length<=c/\∀i cm,l[i]?=some cm->∃b,A=some ⟨b,0,none⟩/\b<w.heap.size/\w.cell? ⟨b,i*3,none⟩=some (I cm.1)/\w.cell? ⟨b,i*3+1,none⟩=some (I cm.2.1)/\w.cell? ⟨b,i*3+2,none⟩=some (I cm.2.2):=by
 rcases h.2 with⟨rfl,hn⟩|⟨g,cap,cur,rfl,_,hh,hc,_,_,ht⟩;refine⟨none,0,by rw[hn],oM,λi cm hi=>?_⟩;have:=(aX.1 hi).1;omega
 ·refine⟨_,_,rfl,hc,λi cm hi=>⟨g,rfl,(az.1 hh).1,?_⟩⟩;have kg:Has w g 157 cur:=hh;have hil:=(aX.1 hi).1;obtain⟨a0,a1,a2⟩:=J9 l i cm hi;have get:∀j u,j<l.length*3->(gH l)[j]?=some u->w.cell? ⟨g,j,none⟩=some u:=λj u hj hu=>by rw[<-ht,List.getElem?_take,if_pos hj]at hu;rw[kg.cell];simpa using hu
  exact⟨get _ _ oM a0,get _ _ oM a1,get _ _ oM a2⟩
def pR(l:List Cm):List ay:=l.map λc=>⟨(jL c).toArray⟩
theorem MH(l:List Cm):(pR l).map (·.data.toList)=l.map jL:=by simp[pR]
theorem Cp{c:Cm}(h:ly c):(jL c).length<=66:=by
 unfold jL eF;refine aS (join_le 21 [32] _ (λy hy=>?_)) sM;obtain⟨z,hz,rfl⟩:=List.mem_map.1 hy;obtain⟨h1,h2,h3⟩:=h;have:eu z:=by simp at hz;rcases hz with rfl|rfl|rfl<;>assumption
 exact Lib.itoa_length_le z this.1 this.2
section
variable {w:aa}{B g:Nat}{x:fV}{vr:ae}{d:Dk}{T:Nat}{A:Option Addr}{l:List ay}
theorem T9(h:dV w B g x vr d)(hf:bL T d.s)(hw:Words w A l)(c:Nat)(hs:Std w):Calls prog 83 #[pT g 0,.slice A l.length c] w (cv w B g x (bB .trace d l)):=by
 have HH:=hI h;have HW:=hI hw;have HS:=hI hs;have HF:=hI hf;clear h hw hs hf;cases hr:numsOf l 0 with
 |none=>
  have HE:Hid (bB .trace d l=(d,.err 3)):=hI zbx;rw[HE.out];have HN:=hI (fF HW c 0 dC dC HS hr);clear hr HE;go_enter func83,ntmps83;go_wp2_with (go_at_call 39;refine HN.out.mono ?_;rintro e w1 ⟨rfl,hb⟩)
  exact zbE
 |some n=>
  have HE:Hid (bB .trace d l=(d,.txt (Lib.join (d.s.v.trace.map jL) [44,32]))):=hI zbx;rw[HE.out];have HN:=hI (oc HW c HS hr);clear hr HE;obtain⟨i0,hi0,hz0,hz1,hz2⟩:=info_parts JX;go_enter func83,ntmps83;go_upto_region 2 with(go_at_call 39;refine HN.out.mono ?_;rintro e w1 ⟨⟨v,rfl⟩,hb⟩;have HB:=hI hb;clear hb)
  have H1:=hI (HH.out.after HB.out);have eE:=hI (HS.out.after HB.out);have hc3:=H1.out.c3;have hg:=H1.out.has.lt;have hn:=HF.out.vo.many;have HM:=hI hn;have HT:Hid (∀c∈d.s.v.trace,ly c):=hI HF.out.trace;have SQ:=hI (Pg H1.out.sys hn);have HDF:Hid (∀w',Below w.heap.size w w'->cv w B g x (d,.txt (Lib.join (d.s.v.trace.map jL) [44,32])) (NL (.txt (Lib.join (d.s.v.trace.map jL) [44,32]))) w'):=hI (λw' hb=>cv.same HH.out hb rfl);generalize d.s.v.trace=tr at*;clear hn HF;go_wp2_with (go_at_call 113;refine SQ.out.mono ?_;rintro e w2 ⟨⟨vr2,rfl,ho⟩,hb2⟩;obtain⟨A2,c2,rfl,hcc,hget⟩:=T8 ho;have HG:=hI hget;have HB2:Hid (Below w.heap.size w w2):=hI (HB.out.trans (hb2.mono HB.out.size));have HS2:=hI (eE.out.after hb2);clear ho hb2 hget hc3)
  clear hg;go_loopw [5,16] (λv iv wr=>∃i:Nat,i<=tr.length/\iv=I i/\Hid (wr.ownsRow w2.heap.size 9 1 v i (strs (pR (tr.take i))))/\Hid (Below w2.heap.size w2 wr)) (λ_ iv _=>tr.length-(intOf iv).toNat)
  case atStart=>exact⟨0,bT _,rfl,hI (by simpa[pR]using World.ownsRow_nil _ _ _ _),hI (Below.refl _ _)⟩
  case round=>
   obtain⟨i,hi,rfl,HO,HW⟩:=hrel;by_cases hlt:i<tr.length
   ·obtain⟨cm,hcm⟩:=bY tr i hlt;obtain⟨b,rfl,hbb,c0,c1,c2⟩:=HG.out i _ hcm;have k0:=(Below.cell HW.out (p:=⟨b,i*3,none⟩) hbb).trans c0;have k1:=(Below.cell HW.out (p:=⟨b,i*3+1,none⟩) hbb).trans c1;have k2:=(Below.cell HW.out (p:=⟨b,i*3+2,none⟩) hbb).trans c2;have hbr:=aT hbb HW.out.size;have hii:(i:Int)<(tr.length:Int):=oM;have h64:=HT.out cm (aR hcm);have pM:=hI hlt;have HE:Hid (strs (pR (tr.take (i+1)))=strs (pR (tr.take i))++[.string ⟨(jL cm).toArray⟩]):=hI (by
     rw[List.take_add_one,hcm];simp[pR])
    obtain⟨x0,x1,x2⟩:=cm;have HJ:Hid (∀(bb:Nat)(cc:Nat)(wx:aa),Has wx bb 3 #[I x0,I x1,I x2]->Below w2.heap.size w2 wx->Calls prog 98 #[.slice (some ⟨bb,0,none⟩) 3 cc] wx λe w'=>e=.returned (.string ⟨(jL (x0,x1,x2)).toArray⟩)/\Below wx.heap.size wx w'):=hI (λbb cc wx hh hb=>sF (some ⟨bb,0,none⟩) cc [x0,x1,x2] sM (λy hy=>by
     obtain⟨h1,h2,h3⟩:=h64;simp at hy;rcases hy with rfl|rfl|rfl<;>assumption) wx (Reads.FJ hh hh.lt) (hI (HS2.out.after hb)))
    clear h64 c0 c1 c2 hcm hbb hlt hi;generalize (⟨(jL (x0,x1,x2)).toArray⟩:ay)=sv at*;dsimp only at k0 k1 k2;go_upto_region 6 with fail;have kh:=Has.new wr 157 #[I x0,I x1,I x2];have kl:wr.heap.size<(wr.alloc (.cells #[I x0,I x1,I x2] 157)).heap.size:=sM;have KB:Hid (Below w2.heap.size w2 (wr.alloc (.cells #[I x0,I x1,I x2] 157))):=hI (HW.out.alloc HW.out.size _);have KO:=hI (World.ownsRow.alloc HO.out (.cells #[I x0,I x1,I x2] 157));have Vt:=kh.aJ 0 _ rfl;have RV:=kh.aJ 1 _ rfl;have Vu:=kh.aJ 2 _ rfl;clear kh k0 k1 k2 hbr HO HW HG;generalize (wr.alloc (.cells #[I x0,I x1,I x2] 157))=wa at*;generalize wr.heap.size=ga at*;go_upto_region 7 with(first
     |(go_at_call 98;refine(HJ.out wa.heap.size 3 _ (Has.new _ _ _) (KB.out.alloc KB.out.size _)).mono ?_;rintro e w3 ⟨rfl,hb3⟩;have HW3:Hid (Below w2.heap.size w2 w3):=hI ((KB.out.alloc KB.out.size _).trans (hb3.mono (KB.out.alloc KB.out.size _).size));have lL:=hI (eD (World.ownsRow.alloc KO.out _) hb3);clear hb3 Vt RV Vu)
     |(at_builtin;refine wpList_append_own _ rfl _ _ 22 rfl w2.heap.size 9 i0 (.string ⟨#[]⟩) 1 16 underlying22 hi0 hz0 hz1 hz2 rfl dC _ _ _ rfl (World.ownsRow.alloc lL.out _) ⟨w3.heap.size,0,none⟩ 1 1 [.string sv] rfl rfl (cell_one_new _ _ _) (λu hu=>by rw[bW.1 hu];rfl) ?c3 ?c4 ?c5 ?_))
    case c3=>have hm:tr.length<=1000:=HM.out;have hl:i<tr.length:=pM.out;unfold maxLen;omega
    case c4=>have hm:tr.length<=1000:=HM.out;have hl:i<tr.length:=pM.out;omega
    case c5=>have:=HW3.out.size;simp;omega
    intro v' w' hown' hgrow _;have Ua:Hid (Below w2.heap.size w2 w'):=hI ((HW3.out.alloc HW3.out.size _).grown hgrow (by have:=HW3.out.size;simp;omega) (λq hq=>(lL.out.lt q hq).1));have FT:Hid (w'.ownsRow w2.heap.size 9 1 v' (i+1) (strs (pR (tr.take (i+1))))):=hI (by
     rw[HE.out];exact hown')
    clear hown' hgrow lL HE HW3;have hm:tr.length<=1000:=HM.out;have hl:i<tr.length:=pM.out;go_wp2_with fail;go_roundw
    case rel=>exact⟨i+1,pM.out,by go_num,FT,Ua⟩
    case measure=>have:=pM.out;simp[intOf];omega
   ·(have hil:i=tr.length:=by omega);subst hil;(have hlen:(pR tr).length=tr.length:=by simp[pR]);have gq:Hid (wr.ownsRow w2.heap.size 9 1 _ (pR tr).length (strs (pR tr))):=hI (by
     have:=HO.out;rw[bZ (aj _)]at this;rw[hlen];exact this)
    have HJ:=hI (joined ⟨#[44,32]⟩ 66 gq.out (λy hy=>by
     obtain⟨z,hz,rfl⟩:=List.mem_map.1 hy;exact Cp (HT.out z hz)) dC (by rw[hlen];have:=HM.out;omega) dC)
    (have e2:Lib.join ((pR tr).map (·.data.toList)) (⟨#[44,32]⟩:ay).data.toList=Lib.join (tr.map jL) [44,32]:=by rw[MH]);rw[e2]at HJ;clear e2 HO;(go_wp2_with (go_at_call 114;refine HJ.out.mono ?_;rintro e w3 ⟨rfl,hb3⟩));go_ret;exact HDF.out _ (HB2.out.trans ((HW.out.trans (hb3.mono HW.out.size)).mono HB2.out.size))
theorem MI(h:dV w B g x vr d)(hf:bL T d.s)(_hT:T<=9900000000)(hw:Words w A l)(c:Nat)(hs:Std w):Calls prog 79 #[pT g 0,.slice A l.length c] w (cv w B g x (bB .pQ d l)):=by
 have HH:=hI h;have HW:=hI hw;have HS:=hI hs;have HF:=hI hf;have hc3:=h.c3;have hg:=h.has.lt;clear h hw hs hf;cases hr:numsOf l 1 with
 |none=>
  have HE:Hid (bB .pQ d l=(d,.err 3)):=hI zbx;rw[HE.out];have HN:=hI (λw1 (hb:Below w.heap.size w w1)=>fF (fM HW hb) c 1 dC dC (fL HS hb) hr);clear hr HE;go_enter func79,ntmps79;(go_upto_region 1 with fail;refine eK kR (λb0=>b0.tmps.getD 0 undef=pT g 0/\b0.tmps.getD 1 undef=.slice A l.length c/\b0.defers=[]) ⟨rfl,rfl,rfl⟩ 28 rfl (λ_=>0) (λ(Γ:jW) i=>([pT g 0,pT g 0,pT g 3,pT x.g 0,.slice A l.length c,.slice (some ⟨Γ 0,0,none⟩) 1 (Γ 1),pT (Γ 0) 0,I 0,.tuple #[I 0,I 0,I 0],.tuple #[I 0,I 0,I 0],I 0,I 0,I 0,pT (Γ 2) 0,I 0,undef,I 0]:List ae).getD i undef) [5,7,8,15] kR (λi=>([[],[],[],[],[],[0,1],[],[],[],[],[],[],[],[2],[],[],[]]:List (List Nat)).getD i []) (λi=>([[],[],[],[],[],[0,1],[0],[],[],[],[],[],[],[2],[],[],[]]:List (List Nat)).getD i []) 13 kR ?_ (λj Γ b=>([(λΓ b=>λwx=>Below w.heap.size w wx/\(b=true->Has wx (Γ 2) 168 fg/\w.heap.size<=Γ 2)) Γ b,(λ_ _=>λ_=>False) Γ b,(λ_ _=>λ_=>False) Γ b,(λ_ _=>λ_=>False) Γ b,(λ_ _=>λ_=>False) Γ b]:List (aa->Prop)).getD j (λ_=>True)) [9,10,11,12,13,14,15,16,17,8,18,19,20,6,5,7] kR kR ⟨(Below.refl _ _).drew,λh=>by cases h⟩ ?_ ?_);intro Γ ei j hj hu;have hj2:j<17:=hj;have hcase:j=0\/j=1\/j=2\/j=3\/j=4\/j=5\/j=6\/j=7\/j=8\/j=9\/j=10\/j=11\/j=12\/j=13\/j=14\/j=15\/j=16:=oM;clear hj hj2;rcases hcase with rfl|rfl|rfl|rfl|rfl|rfl|rfl|rfl|rfl|rfl|rfl|rfl|rfl|rfl|rfl|rfl|rfl;rfl;rfl;rfl;rfl;rfl;exact zbH;exact zbB;rfl;rfl;rfl;rfl;rfl;rfl;show(pT (Γ 2) 0:ae)=pT (ei 2) 0;rw[hu 2 dC];rfl;rfl;rfl
  ·intro b0 hb0 i o ho;have hi:i<17:=(az.1 ho).1;obtain⟨f0,f1,fp⟩:=hb0;have hcase:i=0\/i=1\/i=2\/i=3\/i=4\/i=5\/i=6\/i=7\/i=8\/i=9\/i=10\/i=11\/i=12\/i=13\/i=14\/i=15\/i=16:=oM;clear hi;rcases hcase with rfl|rfl|rfl|rfl|rfl|rfl|rfl|rfl|rfl|rfl|rfl|rfl|rfl|rfl|rfl|rfl|rfl<;>simp only[ba,bf,aY]at ho<;>cases ho
   ·exact zbW
   ·exact zcn
   ·exact zcl
   ·refine .inr (.inr (.inr ⟨dC,dC,2,8,rfl,kR,λΓ b j hj=>?_⟩));have hj2:j=0\/j=1\/j=2:=oM;clear hj;rcases hj2 with rfl|rfl|rfl;exact zbn;exact zbv;exact zbv
   ·exact zcd
   ·refine .inr (.inr (.inl ⟨dC,0,rfl,λΓ b hba=>dN rfl (λli ac wx H hn av hM K hk=>?_)⟩));have e13:ac.tmps[13]?.getD undef=.slice A l.length c:=H.k av 4 13;have hM1:=hM;simp only[aK]at hM1;have hdf:=hI (H.cA.defers.trans fp);clear av H;go_simp;refine(HN.out wx hM1.1).mono ?_;rintro e w' ⟨rfl,hb⟩;exact⟨hdf.out,cv.same HH.out (hM1.1.trans (hb.mono hM1.1.size)) rfl⟩
   ·exact zcb
   ·refine .inr (.inr (.inl ⟨dC,1,rfl,λΓ b hba=>dN rfl (λli ac wx H hn av hM K hk=>?_)⟩));have e15:ac.tmps[15]?.getD undef=pT (Γ 0) 0:=H.k av 6 15;exact zbC
   ·refine .inr (.inr (.inl ⟨dC,2,rfl,λΓ b hba=>dN rfl (λli ac wx H hn av hM K hk=>?_)⟩));have e12:ac.tmps[12]?.getD undef=pT x.g 0:=H.k av 3 12;have e16:ac.tmps[16]?.getD undef=I 0:=H.k av 7 16;exact zbC
   ·refine .inl ⟨dC,dC,λΓ M=>aM rfl (λli ac wx H hn av hM K hk=>?_)⟩;have e17:ac.tmps[17]?.getD undef=.tuple #[I 0,I 0,I 0]:=H.k av 8 17;exact zbk
   ·exact zb6
   ·exact zb6
   ·exact zb6
   ·refine .inr (.inl ⟨rfl,dC,3,15,rfl,kR,λΓ j hj=>?_⟩);have hj2:j=0\/j=1\/j=2\/j=3:=oM;clear hj;rcases hj2 with rfl|rfl|rfl|rfl
    ·refine dN rfl (λli ac wx H hn av hM K hk=>?_);have hM1:(λΓ b=>λwx=>Below w.heap.size w wx/\(b=true->Has wx (Γ 2) 168 fg/\w.heap.size<=Γ 2)) Γ false wx:=hM;clear av H;first
      |exact hM1.elim
      |(go_simp;exact hk (Γ.set 2 wx.heap.size) _ (jB _ _ _) ⟨Below.alloc hM1.1 hM1.1.size _,λ_=>⟨Has.new _ _ _,hM1.1.size⟩⟩)
      |(go_simp;exact hk (Γ.set 2 wx.heap.size) _ (jB _ _ _) ⟨⟨Below.alloc hM1.1.1 hM1.1.1.size _,λ_=>⟨Has.new _ _ _,hM1.1.1.size⟩⟩,(World.cell?_alloc_lt _ _ ⟨Γ 0,0,none⟩ hM1.2.2).trans hM1.2.1,aT hM1.2.2 sM⟩)
    ·refine dN rfl (λli ac wx H hn av hM K hk=>?_);have hM1:(λ_ _=>λ_=>False) Γ false wx:=hM;clear av H;first
      |exact hM1.elim
      |(go_simp;exact hk (Γ.set 2 wx.heap.size) _ (jB _ _ _) ⟨Below.alloc hM1.1 hM1.1.size _,λ_=>⟨Has.new _ _ _,hM1.1.size⟩⟩)
      |(go_simp;exact hk (Γ.set 2 wx.heap.size) _ (jB _ _ _) ⟨⟨Below.alloc hM1.1.1 hM1.1.1.size _,λ_=>⟨Has.new _ _ _,hM1.1.1.size⟩⟩,(World.cell?_alloc_lt _ _ ⟨Γ 0,0,none⟩ hM1.2.2).trans hM1.2.1,aT hM1.2.2 sM⟩)
    ·refine dN rfl (λli ac wx H hn av hM K hk=>?_);have hM1:(λ_ _=>λ_=>False) Γ false wx:=hM;clear av H;first
      |exact hM1.elim
      |(go_simp;exact hk (Γ.set 2 wx.heap.size) _ (jB _ _ _) ⟨Below.alloc hM1.1 hM1.1.size _,λ_=>⟨Has.new _ _ _,hM1.1.size⟩⟩)
      |(go_simp;exact hk (Γ.set 2 wx.heap.size) _ (jB _ _ _) ⟨⟨Below.alloc hM1.1.1 hM1.1.1.size _,λ_=>⟨Has.new _ _ _,hM1.1.1.size⟩⟩,(World.cell?_alloc_lt _ _ ⟨Γ 0,0,none⟩ hM1.2.2).trans hM1.2.1,aT hM1.2.2 sM⟩)
    ·refine dN rfl (λli ac wx H hn av hM K hk=>?_);have hM1:(λ_ _=>λ_=>False) Γ false wx:=hM;clear av H;first
      |exact hM1.elim
      |(go_simp;exact hk (Γ.set 2 wx.heap.size) _ (jB _ _ _) ⟨Below.alloc hM1.1 hM1.1.size _,λ_=>⟨Has.new _ _ _,hM1.1.size⟩⟩)
      |(go_simp;exact hk (Γ.set 2 wx.heap.size) _ (jB _ _ _) ⟨⟨Below.alloc hM1.1.1 hM1.1.1.size _,λ_=>⟨Has.new _ _ _,hM1.1.1.size⟩⟩,(World.cell?_alloc_lt _ _ ⟨Γ 0,0,none⟩ hM1.2.2).trans hM1.2.1,aT hM1.2.2 sM⟩)
   ·refine .inl ⟨dC,dC,λΓ M=>aM rfl (λli ac wx H hn av hM K hk=>?_)⟩;have e18:ac.tmps[18]?.getD undef=I 0:=H.k av 10 18;exact zbk
   ·refine .inr (.inr (.inl ⟨dC,3,rfl,λΓ b hba=>dN rfl (λli ac wx H hn av hM K hk=>?_)⟩));have e6:ac.tmps[6]?.getD undef=pT (Γ 2) 0:=H.k av 13 6;have e19:ac.tmps[19]?.getD undef=I 0:=H.k av 11 19;exact zbC
   ·refine .inl ⟨dC,dC,λΓ M=>aM rfl (λli ac wx H hn av hM K hk=>?_)⟩;have e20:ac.tmps[20]?.getD undef=I 0:=H.k av 12 20;exact zbk
  ·exact zbQ
 |some n=>
  have HE:Hid (bB .pQ d l=if eP (cC n)then(d,.txt (eF [((re d.s (cC n).toNat).cycle:Int),((re d.s (cC n).toNat).state.set:Int)]))else(d,.err 2)):=hI zbx;rw[HE.out];have HN:=hI (λw1 (hb:Below w.heap.size w w1)=>oT (fM HW hb) c (fL HS hb) hr);clear hr HE;generalize cC n=n0 at*;obtain⟨cy,cs,er,st,res,HR,HX,HI2,HI3,HI4,oh,Wi⟩:∃(cy:Int)(cs:bw)(er:ae)(st:Int)(res:Dk×An),Hid ((if eP n0 then(d,.txt (eF [((re d.s n0.toNat).cycle:Int),((re d.s n0.toNat).state.set:Int)]))else(d,.err 2))=res/\((er=.nilIface/\res=(d,.txt (eF [cy,st])))\/(er=fX/\res=(d,.err 2))))/\
   Hid (∀wx,Below w.heap.size w wx->Calls prog 106 #[pT x.g 0,I n0] wx λe w'=>e=.returned (.tuple #[I cy,.agg cs,er])/\Below wx.heap.size wx w')/\
   Hid ((prog.info? 168).map (·.size)=some cs.size)/\Hid ((fg:bw).size=cs.size)/\Hid (cs.all (·.oneCell')=true)/\Hid (cs[0]?=some (I st))/\Hid (eu cy/\eu st):=by
   by_cases hok:eP n0=true;(obtain⟨k,hk,hk3⟩:∃k:Nat,n0=k/\k<3:=zbJ);have hfit:=HF.out.fits k hk3;have oN:=NG hfit.state;(have hsz:(cJ (re d.s k).state).size=17:=by unfold cJ;rw[bR,oN]);refine⟨((re d.s k).cycle:Int),cJ (re d.s k).state,.nilIface,((re d.s k).state.set:Nat),_,hI ⟨rfl,.inl ⟨rfl,?_⟩⟩,hI λwx hb=>?_,hI (by rw[hsz];exact eW),hI (by rw[hsz];rfl),hI (rN _),hI rfl,hI ⟨eu.nat (by have:=hfit.cycle;omega),eu.nat (by have:=hfit.state.set;omega)⟩⟩;rw[hok,hk,cg];rfl;rw[hk];exact JK (HH.out.after hb).sys HF.out k hk3;refine⟨0,cJ St.zero,fX,0,_,hI ⟨rfl,.inr ⟨rfl,?_⟩⟩,hI λwx hb=>?_,hI eW,hI rfl,hI (rN _),hI rfl,hI ⟨⟨dC,dC⟩,dC,dC⟩⟩;rw[Bool.eq_false_iff.2 hok];rfl;exact Gm x.g n0 zbU wx
  rw[HR.out.1];go_enter func79,ntmps79;(go_upto_region 1 with fail;refine eK kR (λb0=>b0.tmps.getD 0 undef=pT g 0/\b0.tmps.getD 1 undef=.slice A l.length c/\b0.defers=[]) ⟨rfl,rfl,rfl⟩ 28 rfl (λ_=>0) (λ(Γ:jW) i=>([pT g 0,pT g 0,pT g 3,pT x.g 0,.slice A l.length c,.slice (some ⟨Γ 0,0,none⟩) 1 (Γ 1),pT (Γ 0) 0,I n0,.tuple #[I cy,.agg cs,er],.tuple #[I cy,.agg cs,er],I cy,.agg cs,er,pT (Γ 2) 0,I cy,undef,er]:List ae).getD i undef) [5,7,8,15] kR (λi=>([[],[],[],[],[],[0,1],[],[],[],[],[],[],[],[2],[],[],[]]:List (List Nat)).getD i []) (λi=>([[],[],[],[],[],[0,1],[0],[],[],[],[],[],[],[2],[],[],[]]:List (List Nat)).getD i []) 13 kR ?_ (λj Γ b=>([(λΓ b=>λwx=>Below w.heap.size w wx/\(b=true->Has wx (Γ 2) 168 fg/\w.heap.size<=Γ 2)) Γ b,(λΓ b=>λwx=>(Below w.heap.size w wx/\(b=true->Has wx (Γ 2) 168 fg/\w.heap.size<=Γ 2))/\wx.cell? ⟨Γ 0,0,none⟩=some (I n0)/\Γ 0<wx.heap.size) Γ b,(λΓ b=>λwx=>(Below w.heap.size w wx/\(b=true->Has wx (Γ 2) 168 fg/\w.heap.size<=Γ 2))/\wx.cell? ⟨Γ 0,0,none⟩=some (I n0)/\Γ 0<wx.heap.size) Γ b,(λΓ b=>λwx=>Below w.heap.size w wx/\(b=true->Has wx (Γ 2) 168 fg/\w.heap.size<=Γ 2)) Γ b,(λΓ _=>λwx=>Below w.heap.size w wx/\Has wx (Γ 2) 168 cs) Γ b]:List (aa->Prop)).getD j (λ_=>True)) [9,10,11,12,13,14,15,16,17,8,18,19,20,6,5,7] kR kR ⟨(Below.refl _ _).drew,λh=>by cases h⟩ ?_ ?_);intro Γ ei j hj hu;have hj2:j<17:=hj;have hcase:j=0\/j=1\/j=2\/j=3\/j=4\/j=5\/j=6\/j=7\/j=8\/j=9\/j=10\/j=11\/j=12\/j=13\/j=14\/j=15\/j=16:=oM;clear hj hj2;rcases hcase with rfl|rfl|rfl|rfl|rfl|rfl|rfl|rfl|rfl|rfl|rfl|rfl|rfl|rfl|rfl|rfl|rfl;rfl;rfl;rfl;rfl;rfl;exact zbH;exact zbB;rfl;rfl;rfl;rfl;rfl;rfl;show(pT (Γ 2) 0:ae)=pT (ei 2) 0;rw[hu 2 dC];rfl;rfl;rfl
  ·intro b0 hb0 i o ho;have hi:i<17:=(az.1 ho).1;obtain⟨f0,f1,fp⟩:=hb0;have hcase:i=0\/i=1\/i=2\/i=3\/i=4\/i=5\/i=6\/i=7\/i=8\/i=9\/i=10\/i=11\/i=12\/i=13\/i=14\/i=15\/i=16:=oM;clear hi;rcases hcase with rfl|rfl|rfl|rfl|rfl|rfl|rfl|rfl|rfl|rfl|rfl|rfl|rfl|rfl|rfl|rfl|rfl<;>simp only[ba,bf,aY]at ho<;>cases ho
   ·exact zbW
   ·exact zcn
   ·exact zcl
   ·refine .inr (.inr (.inr ⟨dC,dC,2,8,rfl,kR,λΓ b j hj=>?_⟩));have hj2:j=0\/j=1\/j=2:=oM;clear hj;rcases hj2 with rfl|rfl|rfl;exact zbn;exact zbn;exact zbn
   ·exact zcd
   ·refine .inr (.inr (.inl ⟨dC,0,rfl,λΓ b hba=>dN rfl (λli ac wx H hn av hM K hk=>?_)⟩));have e13:ac.tmps[13]?.getD undef=.slice A l.length c:=H.k av 4 13;have hM1:=hM;simp only[aK]at hM1;have hdf:=hI (H.cA.defers.trans fp);clear av H;go_simp;refine(HN.out wx hM1.1).mono ?_;rintro e w' ⟨⟨bn,c',rfl,hlt,hcb⟩,hb⟩;exact hk ((Γ.set 0 bn).set 1 c') _ (aaY _ _ _ _ _) ⟨⟨hM1.1.trans (hb.mono hM1.1.size),λh=>⟨(hM1.2 h).1.after hb,(hM1.2 h).2⟩⟩,hcb,hlt⟩
   ·exact zcb
   ·refine .inr (.inr (.inl ⟨dC,1,rfl,λΓ b hba=>dN rfl (λli ac wx H hn av hM K hk=>?_)⟩));have e15:ac.tmps[15]?.getD undef=pT (Γ 0) 0:=H.k av 6 15;have hM1:=hM;simp only[aL,aK]at hM1;have hdf:=hI (H.cA.defers.trans fp);clear av H;have c0:=hM1.2.1;go_simp;exact hk Γ _ (ll Γ) hM1
   ·refine .inr (.inr (.inl ⟨dC,2,rfl,λΓ b hba=>dN rfl (λli ac wx H hn av hM K hk=>?_)⟩));have e12:ac.tmps[12]?.getD undef=pT x.g 0:=H.k av 3 12;have e16:ac.tmps[16]?.getD undef=I n0:=H.k av 7 16;have hM1:=hM;simp only[aL,aK]at hM1;have hdf:=hI (H.cA.defers.trans fp);clear av H;go_simp;refine(HX.out wx hM1.1.1).mono ?_;rintro e w' ⟨rfl,hb⟩;exact hk Γ _ (ll Γ) ⟨hM1.1.1.trans (hb.mono hM1.1.1.size),λh=>⟨(hM1.1.2 h).1.after hb,(hM1.1.2 h).2⟩⟩
   ·refine .inl ⟨dC,dC,λΓ M=>aM rfl (λli ac wx H hn av hM K hk=>?_)⟩;have e17:ac.tmps[17]?.getD undef=.tuple #[I cy,.agg cs,er]:=H.k av 8 17;exact zbk
   ·exact zb5
   ·exact zb5
   ·exact zb5
   ·refine .inr (.inl ⟨rfl,dC,3,15,rfl,kR,λΓ j hj=>?_⟩);have hj2:j=0\/j=1\/j=2\/j=3:=oM;clear hj;rcases hj2 with rfl|rfl|rfl|rfl
    ·refine dN rfl (λli ac wx H hn av hM K hk=>?_);have hM1:(λΓ b=>λwx=>Below w.heap.size w wx/\(b=true->Has wx (Γ 2) 168 fg/\w.heap.size<=Γ 2)) Γ false wx:=hM;clear av H;first
      |exact hM1.elim
      |(go_simp;exact hk (Γ.set 2 wx.heap.size) _ (jB _ _ _) ⟨Below.alloc hM1.1 hM1.1.size _,λ_=>⟨Has.new _ _ _,hM1.1.size⟩⟩)
      |(go_simp;exact hk (Γ.set 2 wx.heap.size) _ (jB _ _ _) ⟨⟨Below.alloc hM1.1.1 hM1.1.1.size _,λ_=>⟨Has.new _ _ _,hM1.1.1.size⟩⟩,(World.cell?_alloc_lt _ _ ⟨Γ 0,0,none⟩ hM1.2.2).trans hM1.2.1,aT hM1.2.2 sM⟩)
    ·refine dN rfl (λli ac wx H hn av hM K hk=>?_);have hM1:(λΓ b=>λwx=>(Below w.heap.size w wx/\(b=true->Has wx (Γ 2) 168 fg/\w.heap.size<=Γ 2))/\wx.cell? ⟨Γ 0,0,none⟩=some (I n0)/\Γ 0<wx.heap.size) Γ false wx:=hM;clear av H;first
      |exact hM1.elim
      |(go_simp;exact hk (Γ.set 2 wx.heap.size) _ (jB _ _ _) ⟨Below.alloc hM1.1 hM1.1.size _,λ_=>⟨Has.new _ _ _,hM1.1.size⟩⟩)
      |(go_simp;exact hk (Γ.set 2 wx.heap.size) _ (jB _ _ _) ⟨⟨Below.alloc hM1.1.1 hM1.1.1.size _,λ_=>⟨Has.new _ _ _,hM1.1.1.size⟩⟩,(World.cell?_alloc_lt _ _ ⟨Γ 0,0,none⟩ hM1.2.2).trans hM1.2.1,aT hM1.2.2 sM⟩)
    ·refine dN rfl (λli ac wx H hn av hM K hk=>?_);have hM1:(λΓ b=>λwx=>(Below w.heap.size w wx/\(b=true->Has wx (Γ 2) 168 fg/\w.heap.size<=Γ 2))/\wx.cell? ⟨Γ 0,0,none⟩=some (I n0)/\Γ 0<wx.heap.size) Γ false wx:=hM;clear av H;first
      |exact hM1.elim
      |(go_simp;exact hk (Γ.set 2 wx.heap.size) _ (jB _ _ _) ⟨Below.alloc hM1.1 hM1.1.size _,λ_=>⟨Has.new _ _ _,hM1.1.size⟩⟩)
      |(go_simp;exact hk (Γ.set 2 wx.heap.size) _ (jB _ _ _) ⟨⟨Below.alloc hM1.1.1 hM1.1.1.size _,λ_=>⟨Has.new _ _ _,hM1.1.1.size⟩⟩,(World.cell?_alloc_lt _ _ ⟨Γ 0,0,none⟩ hM1.2.2).trans hM1.2.1,aT hM1.2.2 sM⟩)
    ·refine dN rfl (λli ac wx H hn av hM K hk=>?_);have hM1:(λΓ b=>λwx=>Below w.heap.size w wx/\(b=true->Has wx (Γ 2) 168 fg/\w.heap.size<=Γ 2)) Γ false wx:=hM;clear av H;first
      |exact hM1.elim
      |(go_simp;exact hk (Γ.set 2 wx.heap.size) _ (jB _ _ _) ⟨Below.alloc hM1.1 hM1.1.size _,λ_=>⟨Has.new _ _ _,hM1.1.size⟩⟩)
      |(go_simp;exact hk (Γ.set 2 wx.heap.size) _ (jB _ _ _) ⟨⟨Below.alloc hM1.1.1 hM1.1.1.size _,λ_=>⟨Has.new _ _ _,hM1.1.1.size⟩⟩,(World.cell?_alloc_lt _ _ ⟨Γ 0,0,none⟩ hM1.2.2).trans hM1.2.1,aT hM1.2.2 sM⟩)
   ·refine .inl ⟨dC,dC,λΓ M=>aM rfl (λli ac wx H hn av hM K hk=>?_)⟩;have e18:ac.tmps[18]?.getD undef=I cy:=H.k av 10 18;exact zbk
   ·refine .inr (.inr (.inl ⟨dC,3,rfl,λΓ b hba=>dN rfl (λli ac wx H hn av hM K hk=>?_)⟩));have e6:ac.tmps[6]?.getD undef=pT (Γ 2) 0:=H.k av 13 6;have e19:ac.tmps[19]?.getD undef=.agg cs:=H.k av 11 19;have hM1:=hM;simp only[aL,aK]at hM1;have hdf:=hI (H.cA.defers.trans fp);clear av H;have hal:=hM1.2 (hba kR);refine wp_store_row 168 (.tmp 6) (.tmp 19) rfl (Γ 2) cs (eval_at e6) (eval_at e19) 168 _ hal.1 HI2.out HI3.out HI4.out ?_;exact hk Γ _ (ll Γ) ⟨below_setRow hM1.1 hal.2 _,hal.1.setRow _⟩
   ·refine .inl ⟨dC,dC,λΓ M=>aM rfl (λli ac wx H hn av hM K hk=>?_)⟩;have e20:ac.tmps[20]?.getD undef=er:=H.k av 12 20;exact zbk
  ·intro Γ b ac wx hF hK hM0;have hM:(λΓ _=>λwx=>Below w.heap.size w wx/\Has wx (Γ 2) 168 cs) Γ b wx:=hM0;have E5:ac.tmps.getD 5 undef=I cy:=hK 14 _ rfl 5 rfl;have E6:ac.tmps.getD 6 undef=pT (Γ 2) 0:=hK 13 _ rfl 6 rfl;have E7:ac.tmps.getD 7 undef=er:=hK 16 _ rfl 7 rfl;have aW:=hF.meet;simp only[bG,bS,ax,aI,aH,E5,E6,E7]at aW;generalize ac.tmps.getD 9 undef=v9,ac.tmps.getD 10 undef=v10,ac.tmps.getD 11 undef=v11,ac.tmps.getD 12 undef=v12,ac.tmps.getD 13 undef=v13,ac.tmps.getD 14 undef=v14,ac.tmps.getD 15 undef=v15,ac.tmps.getD 16 undef=v16,ac.tmps.getD 17 undef=v17,ac.tmps.getD 8 undef=v8,ac.tmps.getD 18 undef=v18,ac.tmps.getD 19 undef=v19,ac.tmps.getD 20 undef=v20 at aW;clear hF hK hM0 E5 E6 E7;subst aW;have HB:=hI hM.1;have KS:=hI hM.2;generalize Γ 2=ga at*;clear hM HN HX HI2 HI3 HI4 hc3 hg;have eE:=hI (HS.out.after HB.out);rcases HR.out.2 with⟨rfl,hres⟩|⟨rfl,hres⟩
   ·have Dn:=hI hres;have c0:=KS.out.aJ 0 (I st) oh.out;have hga:=KS.out.lt;clear hres HR;(go_upto_region 3 with(go_at_call 41;refine(nv wx).mono ?_;rintro e w3 ⟨rfl,rfl⟩));have HJ:Hid (Calls prog 98 #[.slice (some ⟨wx.heap.size,0,none⟩) 2 2] (wx.alloc (.cells #[I cy,I st] 3)) λe w'=>e=.returned (.string ⟨(eF [cy,st]).toArray⟩)/\Below (wx.alloc (.cells #[I cy,I st] 3)).heap.size (wx.alloc (.cells #[I cy,I st] 3)) w'):=hI (sF _ _ [cy,st] zcx (by intro y hy;simp at hy;rcases hy with rfl|rfl;exact Wi.out.1;exact Wi.out.2) _ (vy (Has.new _ _ _)) (hI (eE.out.after ((Below.refl _ _).alloc (aj _) _))));(go_wp2_with (go_at_call 98;refine HJ.out.mono ?_;rintro e w4 ⟨rfl,hb4⟩));go_ret;rw[Dn.out];exact cv.same HH.out (HB.out.trans ((((Below.refl _ _).alloc (aj _) _).trans (hb4.mono sM)).mono HB.out.size)) rfl
   ·have Dn:=hI hres;clear hres HR;(go_wp2_with (go_at_call 41;refine(eJ 2 wx (hI eE.out.et)).mono ?_;rintro e w3 ⟨rfl,hb3⟩));exact⟨rfl,by rw[Dn.out];exact cv.same HH.out (HB.out.trans (hb3.mono HB.out.size)) rfl⟩
theorem Wo(h:dV w B g x vr d)(hf:bL T d.s)(hT:T<=9900000000)(hw:Words w A l)(c:Nat)(hs:Std w):∀p∈lz,Calls prog p.2.2 #[pT g 0,.slice A l.length c] w (cv w B g x (bB p.2.1 d l)):=by unfold lz;simp only[List.forall_mem_cons];exact⟨Za h hf hT hw c hs,T7 h hw c hs,Wm h hf hT hw c hs,GA h hw c hs,TQ h hf hT hw c hs,MC h hf hT hw c hs,Wh h hw c hs,TW h hw c hs,Wd h hf hT hw c hs,Wk h hf hT hw c hs,Wj h hw c hs,MI h hf hT hw c hs,Zf h hf hT hw c hs,Wl h hf hT hw c hs,We h hf hT hw c hs,T9 h hf hw c hs,TU h hf hT hw c hs,λ_ hh=>by cases hh⟩
end
theorem Ka:∀p∈lz,∀args w,(callFunc p.2.2 args).run prog w=.ok (.enter p.2.2 args) w:=by unfold lz;simp only[List.forall_mem_cons];exact⟨enters_of func69 kR rfl,enters_of func14 kR rfl,enters_of func70 kR rfl,enters_of func71 kR rfl,enters_of func72 kR rfl,enters_of func73 kR rfl,enters_of func74 kR rfl,enters_of func75 kR rfl,enters_of func76 kR rfl,enters_of func77 kR rfl,enters_of func78 kR rfl,enters_of func79 kR rfl,enters_of func80 kR rfl,enters_of func81 kR rfl,enters_of func82 kR rfl,enters_of func83 kR rfl,enters_of func84 kR rfl,λ_ hh=>by cases hh⟩
def Kb:An->By
 |.txt t=>t
 |.err n=>[101,114,114,111,114,32]++Lib.itoa n
def dT(d:Dk)(s:ay):Dk×By:=
 match fieldsB s with
 |[]=>(d,[111,107])
 |a::l=>match lz.find? (qJ a.data.toList)with
  |none=>(d,Kb (.err 3))
  |some p=>((bB p.2.1 d l).1,Kb (bB p.2.1 d l).2)
theorem GC(S:Int)(rs:List Int)(dl:Int):0<=Gw (ib S rs dl)/\Gw (ib S rs dl)<=9:=by
 unfold ib;repeat' split
 all_goals simp[Gw]
theorem Cq(c:xm)(d:Dk)(l:List ay)(n:Int)(h:(bB c d l).2=.err n):0<=n/\n<=9:=by
 have hd:∀(ok:Bool)(s:Sys)(t:By),(fw d ok s t).2=.err n->0<=n/\n<=9:=λok s t hh=>by unfold fw at hh;split at hh;cases hh;injection hh with hh;omega
 have hb:∀m,(my d m).2=.err n->0<=n/\n<=9:=λm hh=>by have:=GC (m.getD 2 0) (m.drop 3) (m.getD 1 0);unfold my at hh;split at hh;split at hh;cases hh;injection hh with hh;omega;injection hh with hh;unfold Mz at hh;omega
 cases c<;>simp only[bB]at h<;>split at h<;>first
  |(injection h with h;omega)
  |exact hd _ _ _ h
  |exact hb _ h
  |(cases h;done)
  |(split at h;first|(cases h;done)|(injection h with h;omega))
  |skip
theorem PV(x:Nat)(w:aa):FnGives prog 48 #[] #[encR x] (.bool (qI x)) w:=by
 unfold FnGives;go_enter func48,ntmps48;go_wp2;go_ret;refine⟨?_,0,rfl⟩;show Ending.returned (.bool ((x:Int)==32))=_;have e:((x:Int)==32)=qI x:=by unfold qI;rw[Bool.eq_iff_iff,beq_iff_eq,beq_iff_eq];omega
 rw[e]
theorem yz(w:aa):PredAt prog 48 #[] encR qI w:=λW x _=>PV x W
def xu(p:Addr)(v:ae):bw:=#[.pointer (some p),v,undef,undef,v,undef,undef,undef,undef,undef,undef,undef,undef,undef,undef,undef,undef,undef,undef]
theorem zC(p:Addr)(v:ae):#[Value.pointer (some p)]++((Array.replicate 18 undef).setIfInBounds 3 v).setIfInBounds 0 v=xu p v:=by simp[Array.replicate,xu,List.replicate]
theorem sG(p:Addr)(w:aa):
 CallsD prog 45 #[.pointer (some p)] .returning w λe u' w'=>e=.returned (.tuple #[])/\u'=.returning/\w'=w:=by
 refine callsD_of_wpS func45 rfl λc₀ cs hu=>?_;apply wpS_seq;apply wpS_region;simp[wpOpsS,go_sem,recoverD,hu,ntmps45,Exit.thenS];rw[zC];unfold xu;refine wpS_of_wp ?_;go_wp2;cases c₀;simp_all [bodyPostS,results,Tryz.results45]
theorem Kc(a:aw)(n:Int)(w:aa):(Instr.typeAssert (.iface 89 (.agg #[I n])) a 89 true).run prog w=.ok (.tuple #[.agg #[I n],.bool true]) w:=by simp[Instr.typeAssert,run_underlying underlying89,Result.andThen]
theorem qC(gl:Nat)(t:ay)(n:Int)(hn:eu n)(w:aa)(hh:Has w gl 9 #[.string t])(hs:Std w):
 CallsD prog 45 #[pT gl 0] (.panicking (xl n)) w λe u' w'=>
  e=.returned (.tuple #[])/\u'=.panicking [{v:=.iface 89 (.agg #[I n]),recovered:=true}]/\∃w1,Below w.heap.size w w1/\w'=w1.setCell ⟨gl,0,none⟩ (.string (⟨#[101,114,114,111,114,32]⟩++⟨(Lib.itoa n).toArray⟩)):=by
 have HH:=hI hh;have HS:=hI hs;have HN:=hI hn;have hw0:Has (w.alloc (.cells #[I n] 89)) w.heap.size 89 #[I n]:=Has.new _ _ _;have hb0:Below w.heap.size w (w.alloc (.cells #[I n] 89)):=(Below.refl _ _).alloc (aj _) _;have HB0:=hI hb0;have HIT:Hid (Calls prog 46 #[I n] (w.alloc (.cells #[I n] 89)) λe w'=>e=.returned (.string ⟨(Lib.itoa n).toArray⟩)/\Below (w.alloc (.cells #[I n] 89)).heap.size (w.alloc (.cells #[I n] 89)) w'):=hI (sA n hn _ (hI (hs.after hb0)));have c0:=hw0.aJ 0 (I n) rfl;have hl0:=hw0.lt;have HZ:Hid (¬9223372036854775807<6+(⟨(Lib.itoa n).toArray⟩:ay).size):=hI (by have:=Lib.itoa_length_le n hn.1 hn.2;show¬_<6+(Lib.itoa n).toArray.size;simp;omega);clear hh hs hn hb0;refine callsD_of_wpS func45 rfl λc₀ cs hu=>?_;unfold xl at hu;apply wpS_seq;apply wpS_region;simp[wpOpsS,go_sem,recoverD,hu,ntmps45,Exit.thenS];rw[zC];unfold xu;refine wpS_of_wp ?_;have Ub:=λa w=>Kc a n w;go_wp2_with (go_at_call 46;refine HIT.out.mono ?_;rintro e w2 ⟨rfl,hb2⟩;have kg:=HH.out.after (HB0.out.trans (hb2.mono HB0.out.size));have q0:=kg.aJ 0 _ rfl;have q1:=kg.free 0;have q2:=kg.lt;have q3:¬9223372036854775807<6+(⟨(Lib.itoa n).toArray⟩:ay).size:=HZ.out)
 refine⟨rfl,_,rfl,.tuple #[],by simp[results,Tryz.results45,go_sem],rfl,rfl,w2,HB0.out.trans (hb2.mono HB0.out.size),rfl⟩
end Go.Proofs.YtdhekhlmdefcnaaGreatDoor
