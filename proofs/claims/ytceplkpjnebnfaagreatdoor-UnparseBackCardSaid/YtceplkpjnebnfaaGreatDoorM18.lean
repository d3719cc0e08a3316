/- Texts of this proof, joined. -/
import Derived.Test.YtceplkpjnebnfaaGreatDoorM17
set_option linter.all false
set_option maxHeartbeats 8000000
set_option maxRecDepth 100000
namespace Go.Proofs.YtceplkpjnebnfaaGreatDoor
section
open Go.RowKit Tr
theorem KeptB.setRow {B b q:Nat}{W w:World}(h:KeptB B b W w)(hq:W.heap.size<=q)(hB:B<=q)(cs:Array Value):KeptB B b W (w.setRow q cs):=
 ⟨below_setRow h.1 hB cs,λk o hk hb ho=>by
  have hlt:k<W.heap.size:=(Array.getElem?_eq_some_iff.1 hk).1;rw[setRow_other _ _ _ _ (by omega)];exact h.2 k o hk hb ho⟩
theorem IsBld.setRow {B b q:Nat}{l:List UInt8}{w:World}{old:Array Value}{T:TypeId}{fz:Nat×Nat}(h:IsBld B b l w)(hq:q≠b)(ho:w.heap[q]? =some (.cells old T fz))(hT:T≠5)(cs:Array Value):IsBld B b l (w.setRow q cs):=by
 have one:∀{p:Value},Lib.BuilderAtF 42 5 B b p (Lib.byteCells l) w->Lib.BuilderAtF 42 5 B b p (Lib.byteCells l) (w.setRow q cs):=λ{p} k=>by
  obtain⟨h1,v,h2,h3,h4⟩:=k;refine⟨h1,v,(setRow_other _ _ _ _ (Ne.symm hq)).trans h2,⟨h3.1,?_⟩,h4⟩;rcases h3.2 with h0 |⟨g,cap,cur,fz,e1,e2,e3,r⟩
  ·exact .inl h0
  refine .inr ⟨g,cap,cur,fz,e1,e2,(setRow_other _ _ _ _ ?_).trans e3,r⟩;intro e;rw[e,ho] at e3;injection e3 with e3
  injection e3 with _ e3 _
  exact hT e3
 exact h.imp one one
theorem Dda (n:Nat)(hT:WrOk 21 Ia n)(k o:Int)(m:List UInt8)(nm:Rt.Nm)(tx:List Int)(T:List Tree)(vs:List Value)(w:World)(Bt B b:Nat)(l:List UInt8)(hk:k=13\/k=14\/k=15\/k=16\/k=27)(hn:∀a∈T,SizeOf.sizeOf a<n)(ha:all (.mk k o m nm tx T)=true)
 (h:IsTree w Bt (.mk k o m nm tx T) vs) (hB:Bt<=B) (hP:PowB B w) (hL:IsBld B b l w) (hM:l.length+(Ia (.mk k o m nm tx T)).length<=140737488355000):
 Calls Tryz.prog 42 #[.pointer (some ⟨b,0,none⟩),.agg vs.toArray] w (Ld B b w (l++Ia (.mk k o m nm tx T))):=by
 obtain⟨W,hW⟩:∃W,W=w.alloc (.cells vs.toArray 28):=⟨_,rfl⟩;have hIA:=Cb h;obtain⟨A1,A2,A3,A4,c1,c2,c3,c4,us,HX,HB0,hTl⟩:=Rn h hB hL hW;have HPW:=Qd (hP.kept HX.out.kept.below);have HAL:=Qd (Sb ha);have HTT:=Qd (λ(i:Nat) (hi:i<T.length)=>And.intro (hn _ (List.getElem_mem hi)) (Ah HAL.out.2.2 hi));have CT:=Qd (λ(i:Nat) (hi:i<T.length) wx tv l' (hx:KeptB B b W wx) ht h3 h4=>hT (T[i]'hi) tv wx Bt B b l' (HTT.out i hi).1 (HTT.out i hi).2 ht hB (HPW.out.kept hx.below) h3 h4);have CI:=Qd (λ(i:Nat) (hi:i<T.length) wx tv l' (hx:KeptB B b W wx) ht h3 h4=>Gh n hT (T[i]'hi) tv wx Bt B b l' (HTT.out i hi).1 (HTT.out i hi).2 ht hB (HPW.out.kept hx.below) h3 h4);dsimp only at CI;have CP:Hid (∀b4 o4 (wx:World) (l':List UInt8),A4=some ⟨b4,o4,none⟩->0<T.length->KeptB B b W wx->IsBld B b l' wx->l'.length+(places ((T.drop 1).map kd)).length<=140737488355000->
  Calls Tryz.prog 72 #[.pointer (some ⟨b,0,none⟩),.slice (some ⟨b4,o4+8,none⟩) (T.length-1) (c4-1)] wx (Ld B b wx (l'++places ((T.drop 1).map kd)))):=Qd (λb4 o4 wx l' e h0 hx h3 h4=>by
  obtain⟨us2,HL2,HC2⟩:=Kn HX.out.kids (by have:=HX.out.lies;rwa[e] at this) h0;have:=Aq n hT (T.drop 1) us2 (some ⟨b4,o4+8,none⟩) (c4-1) wx Bt B b l' (λa h=>hn a (List.mem_of_mem_drop h)) (λa h=>by
   obtain⟨i,hi,rfl⟩:=List.getElem_of_mem (List.mem_of_mem_drop h);exact(HTT.out i hi).2) (HL2.out.keep (HX.out.far wx hx)) (HC2.out.keep (HX.out.far wx hx) Lr) hB (HPW.out.kept hx.below) h3 (by rw[List.length_drop];omega) h4
  rwa[List.length_drop] at this)
 have hcap:T.length<=c4:=HX.out.own.f4.1;have HK0:=Qd (KeptB.refl B b W);have HW:=Qd hW;have HIA:=Qd hIA;have ML:=Un HAL.out.2.1;have HO:=Bw HAL.out.1;have hnl:=Dl HAL.out.1;have h0:0<T.length:=by
  rcases hk with rfl |rfl |rfl |rfl |rfl
  ·have:=ML.2.2.2 (by simp);omega
  ·have:=ML.1 (by simp);omega
  ·have:=ML.2.1 (by simp);omega
  ·have:=ML.2.2.2 (by simp);omega
  have:=ML.2.2.2 (by simp);omega
 have hq0:(0:Int)<(T.length:Int):=by omega
 obtain⟨b4,o4,rfl⟩:∃b4 o4,A4=some ⟨b4,o4,none⟩:=by
  obtain⟨b',off,_,e,_⟩:=HX.out.sub W HK0.out 0 (by omega);exact⟨b',off,e⟩
 have HS:=Qd (HX.out.at_ rfl);have HON:Hid (∀a vs w,IsTree w Bt a vs->vs.toArray.all (·.oneCell')=true):=Qd (λa vs w h=>Zk h);obtain⟨tv0,ht0,hr0,hi0⟩:=HS.out W HK0.out 0 h0;obtain⟨WB,hWB⟩:∃WB,WB=W.alloc (.cells tv0.toArray 28):=⟨_,rfl⟩;have hbw:Below W.heap.size W WB:=by rw[hWB];exact Br.alloc Lr _
 have hlt:=HB0.out.lt;have HKB:Hid (KeptB B b W WB):=Qd (KeptB.of hbw (by omega));have HBB:=Qd (HB0.out.later hbw);have HKR:Hid (∀wx,KeptB B b WB wx->wx.heap[W.heap.size]? =some (.cells tv0.toArray 28 (0,0))):=Qd (λwx hx=>hx.row (by rw[hWB];exact heap_alloc_new W _) (by omega) Oi);have HJ0:=Qd (KeptB.refl B b WB);have HT0:Hid (∀wx,KeptB B b W wx->IsTree wx Bt T[0] tv0):=Qd (λwx hx=>ht0.keep (λp hp=>hx.below.cell (by omega)) Lr);have HTI:=Qd (Fc ht0);have HTA:=Qd (Cb ht0);have HO1:=Qd (HON.out _ _ _ ht0);have HR0:Hid (W.rangeAt b4 o4 tv0):=Qd (by simpa using hr0);have HWB:=Qd hWB;have HBT:=Qd hB;have HQB:Hid (W.heap.size≠b):=Qd (by omega);have HBQ:Hid (B<=W.heap.size):=Qd (by omega);clear hWB hbw hlt ht0 hr0 hi0;replace CP:=Qd (CP.out b4 o4);rcases hk with rfl |rfl |rfl |rfl |rfl
 ·have hlen:=ML.2.2.2 (by simp)
  have HD:=Qd (Spa (o:=o) (m:=m) (n:=nm) (t:=tx) hlen);rw[HD.out] at hM;simp only[List.length_append,List.length_cons,List.length_nil] at hM;generalize Ia (.mk 13 o m nm tx T)=R at*;clear CI ML HAL HO hnl hcap h hW hP hT hIA hL ha hn hB HTT HPW CP;have h8:=HX.out.at8 _ HK0.out;have q7:=h8.p7;simp only[Nat.zero_add] at q7;clear h8;go_enter Tryz.func42,Tryz.ntmps42
  go_upto_region 1 with fail
  rw[<-HW.out];go_upto_region 2 with(first
   |(with_reducible refine Gc rfl (.tmp 7) rfl b4 o4 rfl tv0 HR0.out HTI.out ?_)
   |(refine wpList_store_row rfl 28 (.tmp 4) (.tmp 8) rfl W.heap.size tv0.toArray rfl rfl 28 _ (heap_alloc_new W _) HTA.out (by rw[<-Option.some.injEq,<-HTA.out];rfl) HO1.out ?_;rw[World.setRow_alloc_new]))
  rw[<-HWB.out];clear q7;have h8:=HX.out.at8 _ HKB.out;have q0:=h8.p0;have q2:=h8.p2;simp only[Nat.zero_add] at q2;clear h8;go_wp2_with fail
  refine(Db B b _ m WB HBB.out (by(try simp only[List.length_append,List.length_cons,List.length_nil]);omega)).mono ?_;rintro e w1 ⟨⟨v1,rfl⟩,hb1,hk1⟩;replace hb1:=Qd hb1;have hj1:=Qd (HJ0.out.trans hk1);replace hk1:=Qd (HKB.out.trans hk1);clear q0 q2;go_wp2_with fail
  refine(Db B b _ [226,134,144] w1 hb1.out (by(try simp only[List.length_append,List.length_cons,List.length_nil]);omega)).mono ?_;rintro e w2 ⟨⟨v2,rfl⟩,hb2,hk2⟩;replace hb2:=Qd hb2;have hj2:=Qd (hj1.out.trans hk2);replace hk2:=Qd (hk1.out.trans hk2);go_wp2_with (with_reducible refine wpList_load_row rfl 28 (.tmp 4) rfl W.heap.size rfl 28 tv0.toArray (0,0) _ (HKR.out _ hj2.out) Tryz.underlying28 rfl HTA.out ?_)
  refine(CT.out 0 (by omega) w2 tv0 _ hk2.out (HT0.out _ hk2.out) hb2.out (by(try simp only[List.length_append,List.length_cons,List.length_nil]);omega)).mono ?_;rintro e w3 ⟨⟨v3,rfl⟩,hb3,hk3⟩;replace hb3:=Qd hb3;have hj3:=Qd (hj2.out.trans hk3);replace hk3:=Qd (hk2.out.trans hk3);go_wp2_with fail
  go_end0
  exact Na HX.out.kept hk3.out hb3.out (by rw[HD.out]<;>(try simp))
 ·have hlen:=ML.1 (by simp)
  have HD:=Qd (Upa (o:=o) (m:=m) (n:=nm) (t:=tx) hlen);rw[HD.out] at hM;simp only[List.length_append,List.length_cons,List.length_nil] at hM;generalize Ia (.mk 14 o m nm tx T)=R at*;have hc41:1<c4:=by omega
  have hq1:(1:Int)<=(T.length:Int):=by omega
  clear CI ML HAL HO hnl hcap h hW hP hT hIA hL ha hn hB HTT HPW;have h8:=HX.out.at8 _ HK0.out;have q7:=h8.p7;simp only[Nat.zero_add] at q7;clear h8;go_enter Tryz.func42,Tryz.ntmps42
  go_upto_region 1 with fail
  rw[<-HW.out];go_upto_region 2 with(first
   |(with_reducible refine Gc rfl (.tmp 7) rfl b4 o4 rfl tv0 HR0.out HTI.out ?_)
   |(refine wpList_store_row rfl 28 (.tmp 4) (.tmp 8) rfl W.heap.size tv0.toArray rfl rfl 28 _ (heap_alloc_new W _) HTA.out (by rw[<-Option.some.injEq,<-HTA.out];rfl) HO1.out ?_;rw[World.setRow_alloc_new]))
  rw[<-HWB.out];clear q7;have h8:=HX.out.at8 _ HKB.out;have q0:=h8.p0;have q2:=h8.p2;simp only[Nat.zero_add] at q2;clear h8;go_wp2_with fail
  refine(Db B b _ m WB HBB.out (by(try simp only[List.length_append,List.length_cons,List.length_nil]);omega)).mono ?_;rintro e w1 ⟨⟨v1,rfl⟩,hb1,hk1⟩;replace hb1:=Qd hb1;have hj1:=Qd (HJ0.out.trans hk1);replace hk1:=Qd (HKB.out.trans hk1);clear q0 q2;have h8:=HX.out.at8 _ hk1.out;have q7:=h8.p7;simp only[Nat.zero_add] at q7;clear h8;go_wp2_with fail
  refine(CP.out w1 _ (by first|rfl |trivial) (by omega) hk1.out hb1.out (by(try simp only[List.length_append,List.length_cons,List.length_nil]);omega)).mono ?_;rintro e w2 ⟨⟨v2,rfl⟩,hb2,hk2⟩;replace hb2:=Qd hb2;have hj2:=Qd (hj1.out.trans hk2);replace hk2:=Qd (hk1.out.trans hk2);clear q7;go_wp2_with fail
  refine(Db B b _ [226,134,144] w2 hb2.out (by(try simp only[List.length_append,List.length_cons,List.length_nil]);omega)).mono ?_;rintro e w3 ⟨⟨v3,rfl⟩,hb3,hk3⟩;replace hb3:=Qd hb3;have hj3:=Qd (hj2.out.trans hk3);replace hk3:=Qd (hk2.out.trans hk3);go_wp2_with (with_reducible refine wpList_load_row rfl 28 (.tmp 4) rfl W.heap.size rfl 28 tv0.toArray (0,0) _ (HKR.out _ hj3.out) Tryz.underlying28 rfl HTA.out ?_)
  refine(CT.out 0 (by omega) w3 tv0 _ hk3.out (HT0.out _ hk3.out) hb3.out (by(try simp only[List.length_append,List.length_cons,List.length_nil]);omega)).mono ?_;rintro e w4 ⟨⟨v4,rfl⟩,hb4,hk4⟩;replace hb4:=Qd hb4;have hj4:=Qd (hj3.out.trans hk4);replace hk4:=Qd (hk3.out.trans hk4);go_wp2_with fail
  go_end0
  exact Na HX.out.kept hk4.out hb4.out (by rw[HD.out]<;>(try simp))
 ·have hlen:=ML.2.1 (by simp)
  have HD:=Qd (Vpa (o:=o) (m:=m) (n:=nm) (t:=tx) hlen);rw[HD.out] at hM;simp only[List.length_append,List.length_cons,List.length_nil] at hM;generalize Ia (.mk 15 o m nm tx T)=R at*;have hq1:(1:Int)<(T.length:Int):=by omega
  clear CI ML HAL HO hnl hcap h hW hP hT hIA hL ha hn hB HTT HPW CP;have h8:=HX.out.at8 _ HK0.out;have q7:=h8.p7;simp only[Nat.zero_add] at q7;clear h8;go_enter Tryz.func42,Tryz.ntmps42
  go_upto_region 1 with fail
  rw[<-HW.out];go_upto_region 2 with(first
   |(with_reducible refine Gc rfl (.tmp 7) rfl b4 o4 rfl tv0 HR0.out HTI.out ?_)
   |(refine wpList_store_row rfl 28 (.tmp 4) (.tmp 8) rfl W.heap.size tv0.toArray rfl rfl 28 _ (heap_alloc_new W _) HTA.out (by rw[<-Option.some.injEq,<-HTA.out];rfl) HO1.out ?_;rw[World.setRow_alloc_new]))
  rw[<-HWB.out];clear q7;have h8:=HX.out.at8 _ HKB.out;have q0:=h8.p0;have q2:=h8.p2;simp only[Nat.zero_add] at q2;clear h8;go_wp2_with fail
  refine(Db B b _ m WB HBB.out (by(try simp only[List.length_append,List.length_cons,List.length_nil]);omega)).mono ?_;rintro e w1 ⟨⟨v1,rfl⟩,hb1,hk1⟩;replace hb1:=Qd hb1;have hj1:=Qd (HJ0.out.trans hk1);replace hk1:=Qd (HKB.out.trans hk1);clear q0 q2;go_wp2_with fail
  refine(Db B b _ [32] w1 hb1.out (by(try simp only[List.length_append,List.length_cons,List.length_nil]);omega)).mono ?_;rintro e w2 ⟨⟨v2,rfl⟩,hb2,hk2⟩;replace hb2:=Qd hb2;have hj2:=Qd (hj1.out.trans hk2);replace hk2:=Qd (hk1.out.trans hk2);have h8:=HX.out.at8 _ hk2.out;have q7:=h8.p7;simp only[Nat.zero_add] at q7;clear h8;obtain⟨tv,ht,hr,hi⟩:=HS.out w2 hk2.out 0 (by omega);replace ht:=Qd ht;replace hr:=Qd hr;replace hi:=Qd hi;go_wp2_with (with_reducible refine Gc rfl (.tmp 43) rfl b4 (o4) rfl tv (by have:=hr.out;simpa using this) hi.out ?_)
  refine(CT.out 0 (by omega) w2 tv _ hk2.out ht.out hb2.out (by(try simp only[List.length_append,List.length_cons,List.length_nil]);omega)).mono ?_;clear ht hr hi;rintro e w3 ⟨⟨v3,rfl⟩,hb3,hk3⟩;replace hb3:=Qd hb3;have hj3:=Qd (hj2.out.trans hk3);replace hk3:=Qd (hk2.out.trans hk3);clear q7;have h8:=HX.out.at8 _ hk3.out;have q7:=h8.p7;simp only[Nat.zero_add] at q7;clear h8;obtain⟨tv1,ht1,hr1,hi1⟩:=HS.out w3 hk3.out 1 (by omega);have HTI1:=Qd (Fc ht1);have HTA1:=Qd (Cb ht1);have HO11:=Qd (HON.out _ _ _ ht1);have HR1:Hid (w3.rangeAt b4 (o4+8) tv1):=Qd (by simpa using hr1);have HSE:Hid (tv0.toArray.size=tv1.toArray.size):=Qd (by rw[<-Option.some.injEq,<-HTA.out,<-HTA1.out]);obtain⟨WC,hWC⟩:∃WC,WC=w3.setRow W.heap.size tv1.toArray:=⟨_,rfl⟩;have HKC:Hid (KeptB B b W WC):=Qd (by rw[hWC];exact hk3.out.setRow Lr HBQ.out _);have HBC:=Qd (hb3.out.setRow HQB.out (HKR.out _ hj3.out) Oi tv1.toArray);rw[<-hWC] at HBC;have HCR:Hid (∀wx,KeptB B b WC wx->wx.heap[W.heap.size]? =some (.cells tv1.toArray 28 (0,0))):=Qd (λwx hx=>hx.row (by rw[hWC];exact setRow_heap _ _ _ _ _ _ (HKR.out _ hj3.out)) HQB.out Oi);have HT1:Hid (∀wx,KeptB B b WC wx->IsTree wx Bt T[1] tv1):=Qd (λwx hx=>ht1.keep (λp hp=>by
   have h1:=HBT.out;have h2:=HBQ.out;rw[hx.below.cell (by omega),hWC];exact cell_setRow_other _ _ _ _ (by omega)) Lr)
  have HWC:=Qd hWC;clear hWC ht1 hr1 hi1;go_upto_region 14 with(first
   |(with_reducible refine Gc rfl (.tmp 48) rfl b4 (o4+8) rfl tv1 HR1.out HTI1.out ?_)
   |(with_reducible refine wpList_store_row rfl 28 (.tmp 4) (.tmp 49) rfl W.heap.size tv1.toArray rfl rfl 28 _ (HKR.out _ hj3.out) HTA1.out HSE.out HO11.out ?_))
  rw[<-HWC.out];have HJC:=Qd (KeptB.refl B b WC);go_wp2_with fail
  refine(Db B b _ [226,134,144] WC HBC.out (by(try simp only[List.length_append,List.length_cons,List.length_nil]);omega)).mono ?_;rintro e w4 ⟨⟨v4,rfl⟩,hb4,hk4⟩;replace hb4:=Qd hb4;have hj4:=Qd (HJC.out.trans hk4);replace hk4:=Qd (HKC.out.trans hk4);go_wp2_with (with_reducible refine wpList_load_row rfl 28 (.tmp 4) rfl W.heap.size rfl 28 tv1.toArray (0,0) _ (HCR.out _ hj4.out) Tryz.underlying28 rfl HTA1.out ?_)
  refine(CT.out 1 (by omega) w4 tv1 _ hk4.out (HT1.out _ hj4.out) hb4.out (by(try simp only[List.length_append,List.length_cons,List.length_nil]);omega)).mono ?_;rintro e w5 ⟨⟨v5,rfl⟩,hb5,hk5⟩;replace hb5:=Qd hb5;have hj5:=Qd (hj4.out.trans hk5);replace hk5:=Qd (hk4.out.trans hk5);go_wp2_with fail
  go_end0
  exact Na HX.out.kept hk5.out hb5.out (by rw[HD.out]<;>(try simp))
 ·have hlen:=ML.2.2.2 (by simp)
  have HD:=Qd (Wpa (o:=o) (m:=m) (n:=nm) (t:=tx) hlen);rw[HD.out] at hM;simp only[List.length_append,List.length_cons,List.length_nil] at hM;generalize Ia (.mk 16 o m nm tx T)=R at*;have HPO:=Qd (HO.2.2.2.1 (by simp));have hdl:(Yf o).length=1:=rfl;clear CI ML HAL HO hnl hcap h hW hP hT hIA hL ha hn hB HTT HPW CP;have h8:=HX.out.at8 _ HK0.out;have q7:=h8.p7;simp only[Nat.zero_add] at q7;clear h8;go_enter Tryz.func42,Tryz.ntmps42
  go_upto_region 1 with fail
  rw[<-HW.out];go_upto_region 2 with(first
   |(with_reducible refine Gc rfl (.tmp 7) rfl b4 o4 rfl tv0 HR0.out HTI.out ?_)
   |(refine wpList_store_row rfl 28 (.tmp 4) (.tmp 8) rfl W.heap.size tv0.toArray rfl rfl 28 _ (heap_alloc_new W _) HTA.out (by rw[<-Option.some.injEq,<-HTA.out];rfl) HO1.out ?_;rw[World.setRow_alloc_new]))
  rw[<-HWB.out];clear q7;have h8:=HX.out.at8 _ HKB.out;have q0:=h8.p0;have q1:=h8.p1;simp only[Nat.zero_add] at q1;clear h8;go_wp2_with fail
  refine(Tn [226,142,149] o WB B b _ HPO.out HBB.out (by(try simp only[List.length_append,List.length_cons,List.length_nil]);omega)).mono ?_;rintro e w1 ⟨⟨v1,rfl⟩,hb1,hk1⟩;replace hb1:=Qd hb1;have hj1:=Qd (HJ0.out.trans hk1);replace hk1:=Qd (HKB.out.trans hk1);clear q0 q1;go_wp2_with fail
  refine(Db B b _ [226,134,144] w1 hb1.out (by(try simp only[List.length_append,List.length_cons,List.length_nil]);omega)).mono ?_;rintro e w2 ⟨⟨v2,rfl⟩,hb2,hk2⟩;replace hb2:=Qd hb2;have hj2:=Qd (hj1.out.trans hk2);replace hk2:=Qd (hk1.out.trans hk2);go_wp2_with (with_reducible refine wpList_load_row rfl 28 (.tmp 4) rfl W.heap.size rfl 28 tv0.toArray (0,0) _ (HKR.out _ hj2.out) Tryz.underlying28 rfl HTA.out ?_)
  refine(CT.out 0 (by omega) w2 tv0 _ hk2.out (HT0.out _ hk2.out) hb2.out (by(try simp only[List.length_append,List.length_cons,List.length_nil]);omega)).mono ?_;rintro e w3 ⟨⟨v3,rfl⟩,hb3,hk3⟩;replace hb3:=Qd hb3;have hj3:=Qd (hj2.out.trans hk3);replace hk3:=Qd (hk2.out.trans hk3);go_wp2_with fail
  go_end0
  exact Na HX.out.kept hk3.out hb3.out (by rw[HD.out]<;>(try simp))
 have hlen:=ML.2.2.2 (by simp);have HD:=Qd (Tpa (o:=o) (m:=m) (n:=nm) (t:=tx) hlen);rw[HD.out] at hM;simp only[List.length_append,List.length_cons,List.length_nil] at hM;generalize Ia (.mk 27 o m nm tx T)=R at*;clear CI ML HAL HO hnl hcap h hW hP hT hIA hL ha hn hB HTT HPW CP;have h8:=HX.out.at8 _ HK0.out;have q7:=h8.p7;simp only[Nat.zero_add] at q7;clear h8;go_enter Tryz.func42,Tryz.ntmps42
 go_upto_region 1 with fail
 rw[<-HW.out];go_upto_region 2 with(first
  |(with_reducible refine Gc rfl (.tmp 7) rfl b4 o4 rfl tv0 HR0.out HTI.out ?_)
  |(refine wpList_store_row rfl 28 (.tmp 4) (.tmp 8) rfl W.heap.size tv0.toArray rfl rfl 28 _ (heap_alloc_new W _) HTA.out (by rw[<-Option.some.injEq,<-HTA.out];rfl) HO1.out ?_;rw[World.setRow_alloc_new]))
 rw[<-HWB.out];clear q7;have h8:=HX.out.at8 _ HKB.out;have q0:=h8.p0;have q2:=h8.p2;simp only[Nat.zero_add] at q2;clear h8;go_wp2_with fail
 refine(Db B b _ m WB HBB.out (by(try simp only[List.length_append,List.length_cons,List.length_nil]);omega)).mono ?_;rintro e w1 ⟨⟨v1,rfl⟩,hb1,hk1⟩;replace hb1:=Qd hb1;have hj1:=Qd (HJ0.out.trans hk1);replace hk1:=Qd (HKB.out.trans hk1);clear q0 q2;go_wp2_with fail
 refine(Db B b _ [226,134,144] w1 hb1.out (by(try simp only[List.length_append,List.length_cons,List.length_nil]);omega)).mono ?_;rintro e w2 ⟨⟨v2,rfl⟩,hb2,hk2⟩;replace hb2:=Qd hb2;have hj2:=Qd (hj1.out.trans hk2);replace hk2:=Qd (hk1.out.trans hk2);go_wp2_with (with_reducible refine wpList_load_row rfl 28 (.tmp 4) rfl W.heap.size rfl 28 tv0.toArray (0,0) _ (HKR.out _ hj2.out) Tryz.underlying28 rfl HTA.out ?_)
 refine(CT.out 0 (by omega) w2 tv0 _ hk2.out (HT0.out _ hk2.out) hb2.out (by(try simp only[List.length_append,List.length_cons,List.length_nil]);omega)).mono ?_;rintro e w3 ⟨⟨v3,rfl⟩,hb3,hk3⟩;replace hb3:=Qd hb3;have hj3:=Qd (hj2.out.trans hk3);replace hk3:=Qd (hk2.out.trans hk3);go_wp2_with fail
 go_end0
 exact Na HX.out.kept hk3.out hb3.out (by rw[HD.out]<;>(try simp))
end
section
open Go.RowKit Tr
theorem De {k o:Int}{m:List UInt8}{n:Rt.Nm}{t:List Int}{l:List Tree}(hk:k=1\/k=2\/k=3\/k=4\/k=5\/k=6\/k=7\/k=10\/k=17\/k=18\/k=19\/k=21):Ia (.mk k o m n t l)=Xm k o m n t:=by
 show Cc k o m n t (Ve l)=_;unfold Cc;rcases hk with rfl |rfl |rfl |rfl |rfl |rfl |rfl |rfl |rfl |rfl |rfl |rfl<;>simp(config:={decide:=true}) only[if_false]
theorem Eda {k o:Int}{l:List Int}(h:Pb k o l=true):1<=k/\k<=28:=by
 by_cases h1:1<=k/\k<=28
 ·exact h1
 exfalso
 unfold Pb at h;rw[if_neg (by omega),if_neg (by omega),if_neg (by omega),if_neg (by omega),if_neg (by omega),if_neg (by omega),if_neg (by omega),if_neg (by omega),if_neg (by omega),if_neg (by omega),if_neg (by omega),if_neg (by omega)] at h;cases h
theorem Lka {w wx:World}{Bt:Nat}{k o:Int}{m:List UInt8}{n:Rt.Nm}{t:List Int}{len:Nat}{A1 A2 A3 A4:Option Addr}{c1 c2 c3 c4:Nat}(h:Own w Bt k o m n t len A1 A2 A3 A4 c1 c2 c3 c4)(hr:Rt.right n=true)(hf:∀p:Addr,p.block<Bt->wx.cell? p=w.cell? p)(hB:Bt<=wx.heap.size):
 NumR wx n (.slice A1 n.top.length c1) (.slice A2 n.bot.length c2):=by
 have ho:=A0 hr;have hl:=(Rt.right_iff ho.1 ho.2).1 hr;exact⟨⟨A1,c1,rfl,h.f1.1,h.f1.2.2,h.n1,(h.l1.keep hf).more hB⟩,⟨A2,c2,rfl,h.f2.1,h.f2.2.2,h.n2,(h.l2.keep hf).more hB⟩,ho.1,ho.2,by have:=hl.1;omega,by have:=hl.2.1;omega⟩
theorem Jha {o:Int}(h:glyph o=true):Gl.may o=true:=Lx.may_gly (Lx.glyph_gly h)
theorem U7 (n:Nat)(hT:WrOk 21 Ia n)(k o:Int)(m:List UInt8)(nm:Rt.Nm)(tx:List Int)(T:List Tree)(vs:List Value)(w:World)(Bt B b:Nat)(l:List UInt8)(hn:∀a∈T,SizeOf.sizeOf a<n)(ha:all (.mk k o m nm tx T)=true)
 (h:IsTree w Bt (.mk k o m nm tx T) vs) (hB:Bt<=B) (hP:PowB B w) (hL:IsBld B b l w) (hM:l.length+(Ia (.mk k o m nm tx T)).length<=140737488355000):
 Calls Tryz.prog 21 #[.pointer (some ⟨b,0,none⟩),.agg vs.toArray] w (Ld B b w (l++Ia (.mk k o m nm tx T))):=by
 obtain⟨W,hW⟩:∃W,W=w.alloc (.cells vs.toArray 28):=⟨_,rfl⟩;have hIA:=Cb h;obtain⟨A1,A2,A3,A4,c1,c2,c3,c4,us,HX,HB0,hTl⟩:=Rn h hB hL hW;have HPW:=Qd (hP.kept HX.out.kept.below);have HAL:=Qd (Sb ha);have HTT:=Qd (λ(i:Nat) (hi:i<T.length)=>And.intro (hn _ (List.getElem_mem hi)) (Ah HAL.out.2.2 hi));have CT:=Qd (λ(i:Nat) (hi:i<T.length) wx tv l' (hx:KeptB B b W wx) ht h3 h4=>hT (T[i]'hi) tv wx Bt B b l' (HTT.out i hi).1 (HTT.out i hi).2 ht hB (HPW.out.kept hx.below) h3 h4);have CI:=Qd (λ(i:Nat) (hi:i<T.length) wx tv l' (hx:KeptB B b W wx) ht h3 h4=>Gh n hT (T[i]'hi) tv wx Bt B b l' (HTT.out i hi).1 (HTT.out i hi).2 ht hB (HPW.out.kept hx.below) h3 h4);dsimp only at CI;have AR:=Qd (λhk=>S7 n hT k o m nm tx T vs W Bt B b l hk hn ha (HX.out.tree _ (KeptB.refl _ _ _)) hB HPW.out HB0.out hM);have GE:=Qd (λhk=>Dda n hT k o m nm tx T vs W Bt B b l hk hn ha (HX.out.tree _ (KeptB.refl _ _ _)) hB HPW.out HB0.out hM);have OP:=Qd (λhk=>Cda n hT k o m nm tx T vs W Bt B b l hk hn ha (HX.out.tree _ (KeptB.refl _ _ _)) hB HPW.out HB0.out hM);have CLI:Hid (∀F f,WrOk F f n->(∀args w,(callFunc F args).run Tryz.prog w= .ok (.enter F args) w)->∀sep (wx:World) (l':List UInt8),KeptB B b W wx->IsBld B b l' wx->l'.length+(join sep (T.map f)).length<=140737488355000->
  Calls Tryz.prog 44 #[.pointer (some ⟨b,0,none⟩),.slice A4 T.length c4,.string ⟨sep.toArray⟩,.func (.func F) #[] #[]] wx (Ld B b wx (l'++join sep (T.map f)))):=Qd (λF f hF hE sep wx l' hx h3 h4=>
  Sn F f n hF hE sep T us A4 c4 wx Bt B b l' hn (λa h=>by
   obtain⟨i,hi,rfl⟩:=List.getElem_of_mem h;exact(HTT.out i hi).2) (HX.out.lies.keep (HX.out.far wx hx)) (HX.out.kids.keep (HX.out.far wx hx) Lr) hB (HPW.out.kept hx.below) h3 hTl h4)
 have HK0:=Qd (KeptB.refl B b W);have HW:=Qd hW;have HIA:=Qd hIA;have HO:=Bw HAL.out.1;have LT:=Qd (CLI.out _ _ hT Fv);have PN:Hid (k=1->Calls Tryz.prog 37 #[.agg #[.bool nm.neg,.slice A1 nm.top.length c1,.slice A2 nm.bot.length c2]] W (Ju W (Dg.print nm))):=Qd (λhk=>by
  subst hk;exact S3 nm _ _ W (Lka HX.out.own (Fs HAL.out.1) (HX.out.far _ HK0.out) (by have:=HB0.out.lt;omega)) HPW.out.1)
 have QU:Hid (k=2->Calls Tryz.prog 38 #[.pointer (some ⟨b,0,none⟩),.slice A3 tx.length c3] W (Ld B b W (l++Tr.quoted tx))):=Qd (λhk=>by
  subst hk;have ht:=Cp HAL.out.1;exact K5 tx A3 c3 W Bt B b l (HX.out.own.l3.keep (HX.out.far _ HK0.out)) ht.2 hB HB0.out (by have:=ht.1;omega) (by rw[De (by simp)] at hM;exact hM))
 obtain⟨q0,q1,q2,q3,q4,q5,q6,q7⟩:=HX.out.at8 W HK0.out;simp only[Nat.zero_add] at q1 q2 q3 q4 q5 q6 q7;have HMK:=Qd (Eda HAL.out.2.1);have hHN:=Qd (Dl HAL.out.1);have HEM:Hid (k=10->m=[]):=Qd (λhk=>by
  subst hk;have h:=HAL.out.1;unfold Ta at h;simp(config:={decide:=true}) only[if_false,Bool.and_eq_true] at h;have h3:=h.1.2;cases m with
  |nil=>rfl
  |cons _ _=>cases h3)
 by_cases k1:k=1
 ·subst k1
  have HD:Hid (Ia (.mk 1 o m nm tx T)=Dg.print nm):=Qd (by rw[De (by simp)];rfl);rw[HD.out] at hM;generalize Ia (.mk 1 o m nm tx T)=R at*;have PN2:=Qd (PN.out rfl);clear CLI LT AR GE OP PN QU CT CI HAL HTT HPW hT hn ha h hP hL hW hIA hB;go_enter Tryz.func21,Tryz.ntmps21
  go_upto_region 1 with fail
  rw[<-HW.out];go_wp2_with fail
  refine PN2.out.mono ?_;rintro e w1 ⟨rfl,hb1'⟩;have hk1:=Qd (KeptB.of (b:=b) hb1' (by have:=HB0.out.szB;omega));have hb1:=Qd (HB0.out.later hb1');clear hb1' q0 q1 q2 q3 q4 q5 q6 q7;go_wp2_with fail
  refine(Db B b _ (Dg.print nm) w1 hb1.out (by(try simp only[List.length_append,List.length_cons,List.length_nil]);omega)).mono ?_;rintro e w2 ⟨⟨v2,rfl⟩,hb2,hk2⟩;replace hb2:=Qd hb2;replace hk2:=Qd (hk1.out.trans hk2);go_wp2_with fail
  go_end0
  exact Na HX.out.kept hk2.out hb2.out (by rw[HD.out])
 by_cases k2:k=2
 ·subst k2
  have HD:Hid (Ia (.mk 2 o m nm tx T)=Tr.quoted tx):=Qd (by rw[De (by simp)];rfl);rw[HD.out] at hM;generalize Ia (.mk 2 o m nm tx T)=R at*;have QU2:=Qd (QU.out rfl);clear CLI LT AR GE OP PN QU CT CI HAL HTT HPW hT hn ha h hP hL hW hIA hB;go_enter Tryz.func21,Tryz.ntmps21
  go_upto_region 1 with fail
  rw[<-HW.out];go_wp2_with fail
  refine QU2.out.mono ?_;rintro e w1 ⟨⟨v1,rfl⟩,hb1,hk1⟩;replace hb1:=Qd hb1;replace hk1:=Qd (HK0.out.trans hk1);go_wp2_with fail
  go_end0
  exact Na HX.out.kept hk1.out hb1.out (by rw[HD.out])
 by_cases k3:k=3
 ·subst k3
  have HD:Hid (Ia (.mk 3 o m nm tx T)=m):=Qd (by rw[De (by simp)];rfl);rw[HD.out] at hM;generalize Ia (.mk 3 o m nm tx T)=R at*;clear CLI LT AR GE OP PN QU CT CI HAL HTT HPW hT hn ha h hP hL hW hIA hB;go_enter Tryz.func21,Tryz.ntmps21
  go_upto_region 1 with fail
  rw[<-HW.out];go_wp2_with fail
  refine(Db B b _ m W HB0.out (by(try simp only[List.length_append,List.length_cons,List.length_nil]);omega)).mono ?_;rintro e w1 ⟨⟨v1,rfl⟩,hb1,hk1⟩;replace hb1:=Qd hb1;replace hk1:=Qd (HK0.out.trans hk1);go_wp2_with fail
  go_end0
  exact Na HX.out.kept hk1.out hb1.out (by rw[HD.out])
 by_cases k18:k=18
 ·subst k18
  have HD:Hid (Ia (.mk 18 o m nm tx T)=m):=Qd (by rw[De (by simp)];rfl);rw[HD.out] at hM;generalize Ia (.mk 18 o m nm tx T)=R at*;clear CLI LT AR GE OP PN QU CT CI HAL HTT HPW hT hn ha h hP hL hW hIA hB;go_enter Tryz.func21,Tryz.ntmps21
  go_upto_region 1 with fail
  rw[<-HW.out];go_wp2_with fail
  refine(Db B b _ m W HB0.out (by(try simp only[List.length_append,List.length_cons,List.length_nil]);omega)).mono ?_;rintro e w1 ⟨⟨v1,rfl⟩,hb1,hk1⟩;replace hb1:=Qd hb1;replace hk1:=Qd (HK0.out.trans hk1);go_wp2_with fail
  go_end0
  exact Na HX.out.kept hk1.out hb1.out (by rw[HD.out])
 by_cases k4:k=4
 ·subst k4
  have HD:Hid (Ia (.mk 4 o m nm tx T)=[226,141,186]):=Qd (by rw[De (by simp)];rfl);rw[HD.out] at hM;generalize Ia (.mk 4 o m nm tx T)=R at*;clear CLI LT AR GE OP PN QU CT CI HAL HTT HPW hT hn ha h hP hL hW hIA hB;go_enter Tryz.func21,Tryz.ntmps21
  go_upto_region 1 with fail
  rw[<-HW.out];go_wp2_with fail
  refine(Db B b _ [226,141,186] W HB0.out (by(try simp only[List.length_append,List.length_cons,List.length_nil]);omega)).mono ?_;rintro e w1 ⟨⟨v1,rfl⟩,hb1,hk1⟩;replace hb1:=Qd hb1;replace hk1:=Qd (HK0.out.trans hk1);go_wp2_with fail
  go_end0
  exact Na HX.out.kept hk1.out hb1.out (by rw[HD.out])
 by_cases k5:k=5
 ·subst k5
  have HD:Hid (Ia (.mk 5 o m nm tx T)=[226,141,181]):=Qd (by rw[De (by simp)];rfl);rw[HD.out] at hM;generalize Ia (.mk 5 o m nm tx T)=R at*;clear CLI LT AR GE OP PN QU CT CI HAL HTT HPW hT hn ha h hP hL hW hIA hB;go_enter Tryz.func21,Tryz.ntmps21
  go_upto_region 1 with fail
  rw[<-HW.out];go_wp2_with fail
  refine(Db B b _ [226,141,181] W HB0.out (by(try simp only[List.length_append,List.length_cons,List.length_nil]);omega)).mono ?_;rintro e w1 ⟨⟨v1,rfl⟩,hb1,hk1⟩;replace hb1:=Qd hb1;replace hk1:=Qd (HK0.out.trans hk1);go_wp2_with fail
  go_end0
  exact Na HX.out.kept hk1.out hb1.out (by rw[HD.out])
 by_cases k6:k=6
 ·subst k6
  have HD:Hid (Ia (.mk 6 o m nm tx T)=[226,142,149]++Yf o):=Qd (by rw[De (by simp)];rfl);rw[HD.out] at hM;generalize Ia (.mk 6 o m nm tx T)=R at*;have HPO:=Qd (HO.2.2.2.1 (by simp));clear CLI LT AR GE OP PN QU CT CI HAL HTT HPW hT hn ha h hP hL hW hIA hB;go_enter Tryz.func21,Tryz.ntmps21
  go_upto_region 1 with fail
  rw[<-HW.out];go_wp2_with fail
  refine(Tn [226,142,149] o W B b _ HPO.out HB0.out hM).mono ?_;rintro e w1 ⟨⟨v1,rfl⟩,hb1,hk1⟩;replace hb1:=Qd hb1;replace hk1:=Qd (HK0.out.trans hk1);go_wp2_with fail
  go_end0
  exact Na HX.out.kept hk1.out hb1.out (by rw[HD.out])
 by_cases k7:k=7
 ·subst k7
  have HD:Hid (Ia (.mk 7 o m nm tx T)=[226,141,158]++Yf o):=Qd (by rw[De (by simp)];rfl);rw[HD.out] at hM;generalize Ia (.mk 7 o m nm tx T)=R at*;have HPO:=Qd (HO.2.2.2.1 (by simp));clear CLI LT AR GE OP PN QU CT CI HAL HTT HPW hT hn ha h hP hL hW hIA hB;go_enter Tryz.func21,Tryz.ntmps21
  go_upto_region 1 with fail
  rw[<-HW.out];go_wp2_with fail
  refine(Tn [226,141,158] o W B b _ HPO.out HB0.out hM).mono ?_;rintro e w1 ⟨⟨v1,rfl⟩,hb1,hk1⟩;replace hb1:=Qd hb1;replace hk1:=Qd (HK0.out.trans hk1);go_wp2_with fail
  go_end0
  exact Na HX.out.kept hk1.out hb1.out (by rw[HD.out])
 by_cases k17:k=17
 ·subst k17
  have HD:Hid (Ia (.mk 17 o m nm tx T)=Tk.enc1 o):=Qd (by rw[De (by simp)];rfl);rw[HD.out] at hM;generalize Ia (.mk 17 o m nm tx T)=R at*;have hm17:=Jha (HO.2.2.1 rfl);obtain⟨ho0,ho1⟩:=Vn hm17;have hmay:=Qd hm17;clear hm17;clear CLI LT AR GE OP PN QU CT CI HAL HTT HPW hT hn ha h hP hL hW hIA hB;go_enter Tryz.func21,Tryz.ntmps21
  go_upto_region 1 with fail
  rw[<-HW.out];go_wp2_with fail
  refine(Dv B b _ o W HB0.out hmay.out (by omega)).mono ?_;rintro e w1 ⟨⟨v1,rfl⟩,hb1,hk1⟩;replace hb1:=Qd hb1;replace hk1:=Qd (HK0.out.trans hk1);go_wp2_with fail
  go_end0
  exact Na HX.out.kept hk1.out hb1.out (by rw[HD.out])
 by_cases k19:k=19
 ·subst k19
  have HD:Hid (Ia (.mk 19 o m nm tx T)=[226,136,135]):=Qd (by rw[De (by simp)];rfl);rw[HD.out] at hM;generalize Ia (.mk 19 o m nm tx T)=R at*;clear CLI LT AR GE OP PN QU CT CI HAL HTT HPW hT hn ha h hP hL hW hIA hB;go_enter Tryz.func21,Tryz.ntmps21
  go_upto_region 1 with fail
  rw[<-HW.out];go_wp2_with fail
  refine(Db B b _ [226,136,135] W HB0.out (by(try simp only[List.length_append,List.length_cons,List.length_nil]);omega)).mono ?_;rintro e w1 ⟨⟨v1,rfl⟩,hb1,hk1⟩;replace hb1:=Qd hb1;replace hk1:=Qd (HK0.out.trans hk1);go_wp2_with fail
  go_end0
  exact Na HX.out.kept hk1.out hb1.out (by rw[HD.out])
 by_cases k21:k=21
 ·subst k21
  have HD0:Hid (Ia (.mk 21 o m nm tx T)=[226,142,149]++(if o=1 then[85,80] else[68,67])):=Qd (by rw[De (by simp)];rfl);rw[HD0.out] at hM;generalize Ia (.mk 21 o m nm tx T)=R at*;have ho:=HO.2.2.2.2 rfl;clear CLI LT AR GE OP PN QU CT CI HAL HTT HPW hT hn ha h hP hL hW hIA hB;rcases ho with rfl |rfl
  ·have HD:Hid (R=[226,142,149,68,67]):=HD0
   clear HD0;go_enter Tryz.func21,Tryz.ntmps21
   go_upto_region 1 with fail
   rw[<-HW.out];go_wp2_with fail
   refine(Db B b _ [226,142,149,68,67] W HB0.out (by simp at hM⊢;omega)).mono ?_;rintro e w1 ⟨⟨v1,rfl⟩,hb1,hk1⟩;replace hb1:=Qd hb1;replace hk1:=Qd (HK0.out.trans hk1);go_wp2_with fail
   go_end0
   exact Na HX.out.kept hk1.out hb1.out (by rw[HD.out])
  have HD:Hid (R=[226,142,149,85,80]):=HD0;clear HD0;go_enter Tryz.func21,Tryz.ntmps21
  go_upto_region 1 with fail
  rw[<-HW.out];go_wp2_with fail
  refine(Db B b _ [226,142,149,85,80] W HB0.out (by simp at hM⊢;omega)).mono ?_;rintro e w1 ⟨⟨v1,rfl⟩,hb1,hk1⟩;replace hb1:=Qd hb1;replace hk1:=Qd (HK0.out.trans hk1);go_wp2_with fail
  go_end0
  exact Na HX.out.kept hk1.out hb1.out (by rw[HD.out])
 by_cases kg:k=8\/k=9\/k=11\/k=12\/k=13\/k=14\/k=15\/k=16\/k=27\/k=22\/k=23\/k=24
 ·obtain⟨R,hR⟩:∃R,R=Ia (.mk k o m nm tx T):=⟨_,rfl⟩
  rw[<-hR] at AR GE OP⊢;clear hR CLI LT PN QU CT CI HAL HTT HPW HMK HEM hT hn ha h hP hL hW hIA hB hM HO hHN k1 k2 k3 k18 k4 k5 k6 k7 k17 k19 k21;rcases kg with rfl |rfl |rfl |rfl |rfl |rfl |rfl |rfl |rfl |rfl |rfl |rfl
  all_goals
   go_enter Tryz.func21,Tryz.ntmps21
   go_upto_region 1 with fail
   rw[<-HW.out];go_wp2_with (with_reducible refine Wh (.tmp 3) rfl rfl w.heap.size rfl (HX.out.row _ HK0.out) HIA.out ?_)
   first|(with_reducible refine(AR.out (by simp)).mono ?_) |(with_reducible refine(GE.out (by simp)).mono ?_) |(with_reducible refine(OP.out (by simp)).mono ?_)
   rintro e w1 ⟨⟨v1,rfl⟩,hb1,hk1⟩;replace hb1:=Qd hb1;replace hk1:=Qd (HK0.out.trans hk1);go_wp2_with fail
   go_end0
   exact Na HX.out.kept hk1.out hb1.out rfl
 by_cases k20:k=20
 ·subst k20
  have HD:=Qd (Xpa (o:=o) (m:=m) (n:=nm) (t:=tx) (l:=T));rw[HD.out] at hM;generalize Ia (.mk 20 o m nm tx T)=R at*
  (try simp only[List.length_append,List.length_cons,List.length_nil] at hM)
  clear CLI AR GE OP PN QU q1 q2 q3 q4 q5 q6 q7 CT CI HAL HTT HPW hT hn ha h hP hL hW hIA hB;go_enter Tryz.func21,Tryz.ntmps21
  go_upto_region 1 with fail
  rw[<-HW.out];clear q0;have h8:=HX.out.at8 _ HK0.out;have q0:=h8.p0
  skip
  clear h8;go_wp2_with fail
  refine(Db B b _ [123] W HB0.out (by(try simp only[List.length_append,List.length_cons,List.length_nil]);omega)).mono ?_;rintro e w1 ⟨⟨v1,rfl⟩,hb1,hk1⟩;replace hb1:=Qd hb1;replace hk1:=Qd (HK0.out.trans hk1);clear q0;have h8:=HX.out.at8 _ hk1.out;have q7:=h8.p7;simp only[Nat.zero_add] at q7;clear h8;go_wp2_with fail
  refine(LT.out [226,139,132] w1 _ hk1.out hb1.out (by(try simp only[List.length_append,List.length_cons,List.length_nil]);omega)).mono ?_;rintro e w2 ⟨⟨v2,rfl⟩,hb2,hk2⟩;replace hb2:=Qd hb2;replace hk2:=Qd (hk1.out.trans hk2);clear q7;go_wp2_with fail
  refine(Db B b _ [125] w2 hb2.out (by(try simp only[List.length_append,List.length_cons,List.length_nil]);omega)).mono ?_;rintro e w3 ⟨⟨v3,rfl⟩,hb3,hk3⟩;replace hb3:=Qd hb3;replace hk3:=Qd (hk2.out.trans hk3);go_wp2_with fail
  go_end0
  exact Na HX.out.kept hk3.out hb3.out (by rw[HD.out]<;>(try simp))
 by_cases k25:k=25
 ·subst k25
  have HD:=Qd (Bqa (o:=o) (m:=m) (n:=nm) (t:=tx) (l:=T));rw[HD.out] at hM;generalize Ia (.mk 25 o m nm tx T)=R at*
  (try simp only[List.length_append,List.length_cons,List.length_nil] at hM)
  clear CLI AR GE OP PN QU q1 q2 q3 q4 q5 q6 q7 CT CI HAL HTT HPW hT hn ha h hP hL hW hIA hB;go_enter Tryz.func21,Tryz.ntmps21
  go_upto_region 1 with fail
  rw[<-HW.out];clear q0;have h8:=HX.out.at8 _ HK0.out;have q0:=h8.p0;have q7:=h8.p7;simp only[Nat.zero_add] at q7;clear h8;go_wp2_with fail
  refine(LT.out [58] W _ HK0.out HB0.out (by(try simp only[List.length_append,List.length_cons,List.length_nil]);omega)).mono ?_;rintro e w1 ⟨⟨v1,rfl⟩,hb1,hk1⟩;replace hb1:=Qd hb1;replace hk1:=Qd (HK0.out.trans hk1);clear q0 q7;go_wp2_with fail
  go_end0
  exact Na HX.out.kept hk1.out hb1.out (by rw[HD.out]<;>(try simp))
 by_cases k26:k=26
 ·subst k26
  have HD:=Qd (Cqa (o:=o) (m:=m) (n:=nm) (t:=tx) (l:=T));rw[HD.out] at hM;generalize Ia (.mk 26 o m nm tx T)=R at*
  (try simp only[List.length_append,List.length_cons,List.length_nil] at hM)
  clear CLI AR GE OP PN QU q1 q2 q3 q4 q5 q6 q7 CT CI HAL HTT HPW hT hn ha h hP hL hW hIA hB;go_enter Tryz.func21,Tryz.ntmps21
  go_upto_region 1 with fail
  rw[<-HW.out];clear q0;have h8:=HX.out.at8 _ HK0.out;have q0:=h8.p0;have q7:=h8.p7;simp only[Nat.zero_add] at q7;clear h8;go_wp2_with fail
  refine(LT.out [58,58] W _ HK0.out HB0.out (by(try simp only[List.length_append,List.length_cons,List.length_nil]);omega)).mono ?_;rintro e w1 ⟨⟨v1,rfl⟩,hb1,hk1⟩;replace hb1:=Qd hb1;replace hk1:=Qd (HK0.out.trans hk1);clear q0 q7;go_wp2_with fail
  go_end0
  exact Na HX.out.kept hk1.out hb1.out (by rw[HD.out]<;>(try simp))
 by_cases k28:k=28
 ·subst k28
  have HD:=Qd (Dqa (o:=o) (m:=m) (n:=nm) (t:=tx) (l:=T));rw[HD.out] at hM;generalize Ia (.mk 28 o m nm tx T)=R at*
  (try simp only[List.length_append,List.length_cons,List.length_nil] at hM)
  clear CLI AR GE OP PN QU q1 q2 q3 q4 q5 q6 q7 CT CI HAL HTT HPW hT hn ha h hP hL hW hIA hB;go_enter Tryz.func21,Tryz.ntmps21
  go_upto_region 1 with fail
  rw[<-HW.out];clear q0;have h8:=HX.out.at8 _ HK0.out;have q0:=h8.p0;have q7:=h8.p7;simp only[Nat.zero_add] at q7;clear h8;go_wp2_with fail
  refine(LT.out [226,139,132] W _ HK0.out HB0.out (by(try simp only[List.length_append,List.length_cons,List.length_nil]);omega)).mono ?_;rintro e w1 ⟨⟨v1,rfl⟩,hb1,hk1⟩;replace hb1:=Qd hb1;replace hk1:=Qd (HK0.out.trans hk1);clear q0 q7;go_wp2_with fail
  go_end0
  exact Na HX.out.kept hk1.out hb1.out (by rw[HD.out]<;>(try simp))
 have k10:k=10:=by have:=HMK.out;omega
 subst k10;have HD:Hid (Ia (.mk 10 o m nm tx T)=[]):=Qd (by rw[De (by simp)];exact HEM.out rfl);generalize Ia (.mk 10 o m nm tx T)=R at*;clear CLI LT AR GE OP PN QU q1 q2 q3 q4 q5 q6 q7 CT CI HAL HTT HPW hT hn ha h hP hL hW hIA hB k1 k2 k3 k18 k4 k5 k6 k7 k17 k19 k21 kg k20 k25 k26 k28;go_enter Tryz.func21,Tryz.ntmps21
 go_upto_region 1 with fail
 rw[<-HW.out];go_wp2_with fail
 go_end0
 exact Na HX.out.kept HK0.out HB0.out (by rw[HD.out];simp)
theorem Fda:∀n,WrOk 21 Ia n:=by
 intro n
 induction n with
 |zero=>intro a vs w Bt B b l h;omega
 |succ n ih=>
  intro a vs w Bt B b l hn ha h hB hP hL hM;obtain⟨k,o,m,nm,tx,T⟩:=a;exact U7 n ih k o m nm tx T vs w Bt B b l (λa h=>by
   have:=List.sizeOf_lt_of_mem h;simp only[Tree.mk.sizeOf_spec] at hn;omega) ha h hB hP hL hM
theorem Gv (a:Tree)(vs:List Value)(w:World)(B:Nat)(h:IsTree w B a vs)(hB:B<=w.heap.size)(hP:Pow10 w)(hM:right a=true->(Ia a).length<=140737488355000):
 Calls Tryz.prog 9 #[.agg vs.toArray] w (Ju w (Es a)):=by
 obtain⟨W,hW⟩:∃W,W=w.alloc (.cells vs.toArray 28):=⟨_,rfl⟩;have hWb:Below w.heap.size w W:=by rw[hW];exact Br.alloc Lr _
 have hWl:w.heap.size<W.heap.size:=by rw[hW];simp
 have HG:Hid (∀wx,Below W.heap.size W wx->wx.heap[w.heap.size]? =some (.cells vs.toArray 28 (0,0))):=Qd (λwx hx=>(hx.block _ hWl).trans (by rw[hW];exact heap_alloc_new w _));have HT:Hid (∀wx,Below W.heap.size W wx->IsTree wx B a vs):=Qd (λwx hx=>h.below ((hWb.trans (hx.mono (by omega))).mono hB));have RI:=Qd (Zu a vs W B (HT.out W Br) (by omega));have HIA:=Qd (Cb h);have HL:Hid (Es a=if right a then Ia a else[]):=Qd rfl;have HWB:=Qd hWb;have HWS:Hid (w.heap.size<=W.heap.size):=Qd (by omega);have HA:Hid (right a=true->all a=true):=Qd (λh=>by unfold right at h;simp only[Bool.and_eq_true] at h;exact h.2);have TX:Hid (∀w2,Below W.heap.size W w2->right a=true->Calls Tryz.prog 21 #[.pointer (some ⟨w2.heap.size,0,none⟩),.agg vs.toArray] (w2.alloc (.cells #[.pointer none,.slice none 0 0] 42)) (Ld w2.heap.size w2.heap.size (w2.alloc (.cells #[.pointer none,.slice none 0 0] 42)) (Ia a))):=Qd (λw2 hx hr=>by
  have hb2:Below w2.heap.size w2 (w2.alloc (.cells #[.pointer none,.slice none 0 0] 42)):=Br.alloc Lr _;have hs:=hx.size;have ht:=(HT.out w2 hx).below (hb2.mono (by omega));have hp:PowB w2.heap.size w2:=⟨hP.below (hWb.trans (hx.mono (by omega))),λg e=>by have:=hP.lt g e;omega⟩;have:=Fda _ a vs _ B w2.heap.size w2.heap.size [] (Nat.lt_succ_self _) (HA.out hr) ht (by omega) (hp.kept hb2) (Ana w2) (by simpa using hM hr)
  simpa using this)
 have HW:=Qd hW;have HBL:=Qd (Below.refl W.heap.size W);generalize Ia a=S at*;generalize Es a=R at*;generalize right a=x at*;clear h hP hM hW hWb HA;cases x
 ·replace HL:Hid (R=[]):=HL
  go_enter Tryz.func9,Tryz.ntmps9
  go_upto_region 1 with fail
  rw[<-HW.out];go_wp2_with (with_reducible refine Wh (.tmp 1) rfl rfl w.heap.size rfl (HG.out _ HBL.out) HIA.out ?_)
  refine RI.out.mono ?_;rintro e w2 ⟨rfl,hb2⟩;go_wp2_with fail
  go_ret;exact⟨by rw[HL.out];rfl,HWB.out.trans (hb2.mono HWS.out)⟩
 replace HL:Hid (R=S):=HL;go_enter Tryz.func9,Tryz.ntmps9
 go_upto_region 1 with fail
 rw[<-HW.out];go_wp2_with (with_reducible refine Wh (.tmp 1) rfl rfl w.heap.size rfl (HG.out _ HBL.out) HIA.out ?_)
 refine RI.out.mono ?_;rintro e w2 ⟨rfl,hb2⟩;have HB2:=Qd hb2;have TX2:=Qd (TX.out w2 hb2 (by first|rfl |trivial));have HG2:Hid ((w2.alloc (.cells #[.pointer none,.slice none 0 0] 42)).heap[w.heap.size]? =some (.cells vs.toArray 28 (0,0))):=Qd (by
  have hlt:w.heap.size<w2.heap.size:=(Array.getElem?_eq_some_iff.1 (HG.out w2 hb2)).1;show(w2.heap.push _)[w.heap.size]? =_;rw[Array.getElem?_push,if_neg (Nat.ne_of_lt hlt)];exact HG.out w2 hb2)
 clear hb2;go_wp2_with (with_reducible refine Wh (.tmp 1) rfl rfl w.heap.size rfl HG2.out HIA.out ?_)
 refine TX2.out.mono ?_;rintro e w3 ⟨⟨v3,rfl⟩,hb3,hk3⟩;have HB3:=Qd hb3;have HK3:=Qd hk3;clear hb3 hk3;go_wp2_with fail
 refine(Xca HB3.out).mono ?_;rintro e w4 ⟨rfl,hb4⟩;have HB4:=Qd hb4;clear hb4;go_wp2_with fail
 go_ret;refine⟨by rw[HL.out];rfl,?_⟩;have h2:=HB2.out.size;have e1:Below w2.heap.size w2 (w2.alloc (.cells #[.pointer none,.slice none 0 0] 42)):=Br.alloc Lr _;exact HWB.out.trans ((HB2.out.trans (((e1.trans HK3.out.below).trans HB4.out).mono h2)).mono HWS.out)
end
open Go.RowKit
theorem Nl {w:World}{v:Value}{l:List Nat}(h:IsRes w v l):∃A c,v= .slice A l.length c:=by obtain⟨A,c,e,-⟩:=h;exact⟨A,c,e⟩
def Nat3 (w:World)(v:Value)(x:Nat):Prop:=∃u,v= .agg #[.bool false,u]/\ResL w u (Nt.digs x)
theorem Nat3.below {w w':World}{v:Value}{x:Nat}(h:Nat3 w v x)(hb:Below w.heap.size w w'):Nat3 w' v x:=by obtain⟨u,e,r⟩:=h;exact⟨u,e,r.below hb⟩
theorem Nat3.setRow {w:World}{v:Value}{x g:Nat}{old:Array Value}{t:TypeId}(h:Nat3 w v x)(hg:w.heap[g]? =some (.cells old t (0,0)))(ho:∀(i:Nat) (k:IntKind) (n:Int),old[i]? ≠some (Value.int k n))(cs:Array Value):Nat3 (w.setRow g cs) v x:=by
 obtain⟨u,e,r⟩:=h;exact⟨u,e,r.setRow hg ho cs⟩
def N5 (w:World)(n:Rt.Nm)(e:Ending)(w':World):Prop:=∃t u,e= .returned (.agg #[.bool n.neg,t,u])/\IsRes w' t n.top/\IsRes w' u n.bot/\Below w.heap.size w w'
theorem Gda (b:Bool)(v:Value)(x:Nat)(w:World)(h:ResL w v (Nt.digs x)):
 Calls Tryz.prog 33 #[.agg #[.bool b,v]] w (N5 w ⟨Rt.nrm b x,Nt.digs x,[1]⟩):=by
 have hb0:∀o1 o2,Below w.heap.size w ((w.alloc o1).alloc o2):=λo1 o2=>(Br.alloc Lr _).alloc (by simp) _;have NM:=λo1 o2=>Ug b v _ _ (h.below (hb0 o1 o2));rw[Nt.val_digs] at NM;have HNM:=Qd NM;have HB:=Qd hb0;have HG1:Hid (∀o1 o2,((w.alloc o1).alloc o2).heap[w.heap.size+1]? =some o2):=Qd (λo1 o2=>by
  have:=heap_alloc_new (w.alloc o1) o2;rwa[show(w.alloc o1).heap.size=w.heap.size+1 by simp] at this)
 have HG0:Hid (∀o1 o2,((w.alloc o1).alloc o2).heap[w.heap.size]? =some o1):=Qd (λo1 o2=>(Below.heap_alloc _ _ _ (by simp)).trans (heap_alloc_new w o1));have HI2:Hid (∀(b:Bool) (A:Option Addr) (k c:Nat),(Tryz.prog.info? 62).map (·.size)=some (#[.bool b,.slice A k c]:Array Value).size):=Qd (λ_ _ _ _=>Gf);have HI3:Hid (∀(b:Bool) (A:Option Addr) (k c:Nat) (A':Option Addr) (k' c':Nat),(Tryz.prog.info? 24).map (·.size)=some (#[.bool b,.slice A k c,.slice A' k' c']:Array Value).size):=Qd (λ_ _ _ _ _ _ _=>Tg);have HNEW:Hid (∀wx:World,IsRes (wx.alloc (.cells #[.int .u32 1] 90)) (.slice (some ⟨wx.heap.size,0,none⟩) 1 1) [1]):=Qd (λwx=>Jl wx [1] (by decide));obtain⟨A,c,rfl⟩:=Nl h.1;clear h NM hb0;generalize Rt.nrm b x=b' at*;generalize Nt.digs x=D at*;go_enter Tryz.func33,Tryz.ntmps33
 go_wp2_with fail
 refine(HNM.out _ _).mono ?_;rintro e w3 ⟨v3,rfl,hr3,hb3⟩;have HG3:=Qd ((hb3.block (w.heap.size+1) (by simp)).trans (HG1.out _ _));have hbw3:=(HB.out _ _).trans (hb3.mono (HB.out _ _).size);have hlt3:=Ib HG3.out;have HR3:=Qd hr3.1;obtain⟨A3,c3,rfl⟩:=Nl hr3.1;clear hr3 hb3 HNM;obtain⟨w4,hw4⟩:∃w4,w4=(w3.alloc (.cells #[.bool b',.slice A3 D.length c3] 62)).alloc (.cells #[.int .u32 1] 90):=⟨_,rfl⟩;have hb34:Below w3.heap.size w3 w4:=by rw[hw4];exact(Br.alloc Lr _).alloc (by simp) _
 have HG4:=Qd ((hb34.block (w.heap.size+1) hlt3).trans HG3.out);have hN:IsRes w4 (.slice (some ⟨w3.heap.size+1,0,none⟩) 1 1) [1]:=by
  have:=HNEW.out (w3.alloc (.cells #[.bool b',.slice A3 D.length c3] 62));rw[show(w3.alloc (.cells #[.bool b',.slice A3 D.length c3] 62)).heap.size=w3.heap.size+1 by simp] at this;rw[hw4];exact this
 have HT:=Qd ((HR3.out.below hb34).setRow HG4.out (Ma _ _ _ _ _ _ _) #[.bool b',.slice A3 D.length c3,.slice (some ⟨w3.heap.size+1,0,none⟩) 1 1]);have HU:=Qd (hN.setRow HG4.out (Ma _ _ _ _ _ _ _) #[.bool b',.slice A3 D.length c3,.slice (some ⟨w3.heap.size+1,0,none⟩) 1 1]);have hbw4:=hbw3.trans (hb34.mono hbw3.size);have HF:=Qd (rBelow.setRow hbw4 (show w.heap.size<=w.heap.size+1 by omega) #[.bool b',.slice A3 D.length c3,.slice (some ⟨w3.heap.size+1,0,none⟩) 1 1]);have HG5:=Qd (Eb (cs:= #[.bool b',.slice A3 D.length c3,.slice (some ⟨w3.heap.size+1,0,none⟩) 1 1]) HG4.out);rw[hw4] at HG4 HT HU HF HG5;clear hw4 hb34 hN hbw4 hbw3 HR3;go_wp2_with (with_reducible refine Wf rfl (.tmp 2) (.tmp 11) rfl (w.heap.size+1) rfl rfl HG4.out ?_)
 refine bodyPost_ret (results_cell_row (by rfl) _ _ (w.heap.size+1) 24 #[.bool b',.slice A3 D.length c3,.slice (some ⟨w3.heap.size+1,0,none⟩) 1 1] (0,0) _ (by rfl) HG5.out Tryz.underlying24 rfl (HI3.out _ _ _ _ _ _ _)) rfl ⟨_,_,rfl,HT.out,HU.out,HF.out⟩
theorem Hda (n:Int)(w:World)(h1: -9223372036854775808<=n)(h2:n<=9223372036854775807):
 Calls Tryz.prog 19 #[.int .i64 n] w (N5 w ⟨decide (n<0),Nt.digs n.natAbs,[1]⟩):=by
 have hnr:Rt.nrm (decide (n<0)) n.natAbs=decide (n<0):=by
  unfold Rt.nrm;by_cases h:n<0
  ·have:(n.natAbs==0)=false:=by rw[beq_eq_false_iff_ne];omega
   rw[this];simp
  rw[decide_eq_false h];simp
 have HO:=Qd (λo=>C3 n (w.alloc o) h1 h2);have HWH:=Qd (λ(wx:World) (v:Value) (h:ResL wx v (Nt.digs n.natAbs))=>by
  have:=Gda (decide (n<0)) v n.natAbs wx h;rw[hnr] at this;exact this)
 have HB:Hid (∀o,Below w.heap.size w (w.alloc o)):=Qd (λo=>Br.alloc Lr _);have HG:Hid (∀o,(w.alloc o).heap[w.heap.size]? =some o):=Qd (λo=>heap_alloc_new w o);have HI3:Hid (∀(b:Bool) (A:Option Addr) (k c:Nat) (A':Option Addr) (k' c':Nat),(Tryz.prog.info? 24).map (·.size)=some (#[.bool b,.slice A k c,.slice A' k' c']:Array Value).size):=Qd (λ_ _ _ _ _ _ _=>Tg);clear hnr h1 h2;generalize decide (n<0)=bn at*;generalize Nt.digs n.natAbs=D at*;go_enter Tryz.func19,Tryz.ntmps19
 go_wp2_with fail
 refine(HO.out _).mono ?_;rintro e w2 ⟨v2,rfl,hr2,hb2⟩;have HG2:=Qd ((hb2.block w.heap.size (by simp)).trans (HG.out _));have hbw2:=(HB.out _).trans (hb2.mono (HB.out _).size);have HW2:=Qd (HWH.out w2 v2 hr2);clear hr2 hb2 HO HWH;go_wp2_with fail
 refine HW2.out.mono ?_;rintro e w3 ⟨t,u,rfl,ht,hu,hb3⟩;have HG3:=Qd ((hb3.block w.heap.size (Ib HG2.out)).trans HG2.out);have hbw3:=hbw2.trans (hb3.mono hbw2.size);dsimp only at ht hu⊢;have HT:=Qd (ht.setRow HG3.out (Ma _ _ _ _ _ _ _) #[.bool bn,t,u]);have HU:=Qd (hu.setRow HG3.out (Ma _ _ _ _ _ _ _) #[.bool bn,t,u]);obtain⟨A3,c3,rfl⟩:=Nl ht;obtain⟨A4,c4,rfl⟩:=Nl hu;clear ht hu hb3 HW2 hbw2;have HF:=Qd (rBelow.setRow hbw3 Lr #[.bool bn,.slice A3 D.length c3,.slice A4 ([1]:List Nat).length c4]);go_wp2_with (with_reducible refine wpList_store_row rfl 24 (.tmp 2) (.tmp 5) rfl w.heap.size #[.bool bn,.slice A3 D.length c3,.slice A4 ([1]:List Nat).length c4] rfl rfl 24 #[.bool false,.slice none 0 0,.slice none 0 0] HG3.out (HI3.out _ _ _ _ _ _ _) rfl (Fj _ _ _ _ _ _ _) ?_)
 refine bodyPost_ret (results_cell_row (by rfl) _ _ w.heap.size 24 #[.bool bn,.slice A3 D.length c3,.slice A4 ([1]:List Nat).length c4] (0,0) _ (by rfl) (Eb HG3.out) Tryz.underlying24 rfl (HI3.out _ _ _ _ _ _ _)) rfl ⟨_,_,rfl,HT.out,HU.out,HF.out⟩
section
open Go.RowKit Tr
theorem Eqa (w:World):Calls Tryz.prog 19 #[.int .i64 1] w (N5 w ⟨false,[1],[1]⟩):=by
 have:=Hda 1 w (by omega) (by omega);rwa[show decide ((1:Int)<0)=false from rfl,show(1:Int).natAbs=1 from rfl,digs_one] at this
def Re:Tree:= .mk 1 0 [] ⟨false,[1],[1]⟩ [] []
def Ek (c:Int):Tree:=Pr.node 17 c [] []
def Wi:Tree:=Pr.node 12 0 [] [Re,Ek 43,Re]
def Bq:Tree:=Pr.node 12 0 [] [Wi,Ek 45,Re]
theorem Hv:Nt.Ok [1]:=λx h=>by rw[List.mem_singleton.1 h];decide
theorem Kha:Rt.right ⟨false,[1],[1]⟩=true:=(Rt.right_iff Hv Hv).2 ⟨by decide,by decide,λ_=>by simp,λ_=>by simp,by simp,(λh=>by cases h),by decide⟩
theorem Lha:Dg.print ⟨false,[1],[1]⟩=[49]:=by
 unfold Dg.print;rw[show Nt.val [1]=1 from rfl,Ten.dec_small (show 1<10 by decide)];rfl
theorem Mka:one Re=true:=by
 unfold Re one Ta;simp(config:={decide:=true}) only[if_true,if_false,Kha]
theorem O5:all Re=true:=by
 have h:=Mka;unfold Re at h⊢;rw[all,h];rfl
theorem Q5 {c:Int}(h:c=43\/c=45):all (Ek c)=true:=by rcases h with rfl |rfl<;>decide
theorem Nka:all Wi=true:=by
 unfold Wi Pr.node;rw[all,Bd,Bd,Bd,Bd,O5,Q5 (.inl rfl)];decide
theorem Oka:all Bq=true:=by
 unfold Bq Pr.node;rw[all,Bd,Bd,Bd,Bd,O5,Q5 (.inr rfl),Nka];decide
theorem Ida:right Bq=true:=by
 unfold right;rw[Oka];decide
theorem R5:Ia Re=[49]:=(De (by simp)).trans Lha
theorem S5 {c:Int}(h:c=43\/c=45):Ia (Ek c)=[UInt8.ofNat c.toNat]:=by rcases h with rfl |rfl<;>decide
theorem Mha:Mc (kd Re)=[49]:=by
 unfold Mc;rw[Ik];exact R5
theorem Tx:Rg Re=[32,49]:=by
 unfold Rg Tr.behind;rw[show(kd Re).wrap=false from rfl];show[32]++Ia Re=_;rw[R5];rfl
theorem Pka:Ia Wi=[49,32,43,32,49]:=by
 unfold Wi Pr.node;rw[Ada rfl];show(if kind Re=8 then Ia Re else Mc (kd Re))++([32]++(Ia (Ek 43)++Rg Re))=_;rw[if_neg (by decide),Mha,S5 (.inl rfl),Tx];rfl
theorem U5:Ia Bq=[40,49,32,43,32,49,41,32,45,32,49]:=by
 unfold Bq Pr.node;rw[Ada rfl];show(if kind Wi=8 then Ia Wi else Mc (kd Wi))++([32]++(Ia (Ek 45)++Rg Re))=_;have e:Mc (kd Wi)=Me (Ia Wi):=by unfold Mc;rw[Ik];rfl
 rw[if_neg (by decide),e,S5 (.inr rfl),Tx,Pka];rfl
theorem Wn {k o:Int}(h:0<=k/\k<=1000/\0<=o/\o<=1000):Jd [k,o]:=Hd (by omega) (by omega)
theorem V7 (w:World)(hp:Pow10 w):
 Calls Tryz.prog 8 #[] w λe w'=>e= .returned (.bool true)/\Below w.heap.size w w':=by
 have HP:=Qd hp;clear hp;go_enter Tryz.func8,Tryz.ntmps8
 go_wp2_with fail
 refine(Eqa w).mono ?_;rintro e w1 ⟨t,u,rfl,ht,hu,hb1⟩;obtain⟨A1,c1,rfl,h11,h12,h13,h14⟩:=ht;obtain⟨A2,c2,rfl,h21,h22,h23,h24⟩:=hu;have hlen:([1]:List Nat).length=1:=rfl;rw[hlen] at h11 h21;obtain⟨V1,hV1⟩:∃V1,V1=Qa 1 0 [] ⟨false,[1],[1]⟩ [] 0 A1 A2 none none c1 c2 0 0:=⟨_,rfl⟩;obtain⟨VP,hVP⟩:∃VP:Int->List Value,VP=λc=>Qa 17 c [] Rt.none_ [] 0 none none none none 0 0 0 0:=⟨_,rfl⟩;have T1:∀wx B,Lies wx B A1 (U [1])->Lies wx B A2 (U [1])->IsTree wx B Re V1:=λwx B k1 k2=>by
  rw[hV1];unfold Re;rw[IsTree];exact⟨A1,A2,none,none,c1,c2,0,0,[],rfl,⟨Wn (by omega),by decide,⟨h11,by decide,h12⟩,⟨h21,by decide,h22⟩,He _,He _,Hv,Hv,(λ_ h=>by cases h),k1,k2,.inl rfl,h13,h23⟩,.inl rfl,by rw[IsTrees]⟩
 have TP:∀wx B (c:Int),0<=c/\c<=1000->IsTree wx B (Ek c) (VP c):=λwx B c h=>by rw[hVP];exact J7 (Wn (by omega)) (by decide)
 obtain⟨Wa,hWa⟩:∃Wa,Wa=w1.alloc (.cells V1.toArray 28):=⟨_,rfl⟩;have ba:Below w1.heap.size w1 Wa:=by rw[hWa];exact Br.alloc Lr _
 have za:Wa.heap.size=w1.heap.size+1:=by rw[hWa];simp
 obtain⟨U2,hU2⟩:∃U2,U2=V1++(VP 43++V1):=⟨_,rfl⟩;obtain⟨Wb,hWb⟩:∃Wb,Wb=Wa.alloc (.cells U2.toArray 28):=⟨_,rfl⟩;have bb:Below Wa.heap.size Wa Wb:=by rw[hWb];exact Br.alloc Lr _
 have zb:Wb.heap.size=Wa.heap.size+1:=by rw[hWb];simp
 have t1a:IsTree Wa Wa.heap.size Re V1:=T1 _ _ ((h14.below ba).more (by omega)) ((h24.below ba).more (by omega));have K2:=Vr (T:=28) (Dk t1a (Dk (TP Wa Wa.heap.size 43 (by omega)) (Tp t1a))) Lr;rw[<-hU2,<-hWb] at K2;obtain⟨V2,hV2⟩:∃V2,V2=Qa 12 0 [] Rt.none_ [] 3 none none none (some ⟨Wa.heap.size,0,none⟩) 0 0 0 3:=⟨_,rfl⟩;have t2b:IsTree Wb Wb.heap.size Wi V2:=by
  rw[hV2];exact Bj (l:=[Re,Ek 43,Re]) (Wn (by omega)) (by decide) ⟨by decide,by decide,by decide⟩ K2.2 K2.1
 obtain⟨Wc,hWc⟩:∃Wc,Wc=Wb.alloc (.cells V2.toArray 28):=⟨_,rfl⟩;have bc:Below Wb.heap.size Wb Wc:=by rw[hWc];exact Br.alloc Lr _
 have zc:Wc.heap.size=Wb.heap.size+1:=by rw[hWc];simp
 obtain⟨U3,hU3⟩:∃U3,U3=V2++(VP 45++V1):=⟨_,rfl⟩;obtain⟨Wd,hWd⟩:∃Wd,Wd=Wc.alloc (.cells U3.toArray 28):=⟨_,rfl⟩;have bd:Below Wc.heap.size Wc Wd:=by rw[hWd];exact Br.alloc Lr _
 have t2c:IsTree Wc Wc.heap.size Wi V2:=(t2b.below bc).more (by omega);have t1c:IsTree Wc Wc.heap.size Re V1:=(t1a.below (bb.trans (bc.mono (by omega)))).more (by omega);have K3:=Vr (T:=28) (Dk t2c (Dk (TP Wc Wc.heap.size 45 (by omega)) (Tp t1c))) Lr;rw[<-hU3,<-hWd] at K3;have t3:IsTree Wd Wd.heap.size Bq (Qa 12 0 [] Rt.none_ [] 3 none none none (some ⟨Wc.heap.size,0,none⟩) 0 0 0 3):=
  Bj (l:=[Wi,Ek 45,Re]) (Wn (by omega)) (by decide) ⟨by decide,by decide,by decide⟩ K3.2 K3.1
 have hbd:Below w.heap.size w Wd:=hb1.trans ((ba.trans ((bb.trans ((bc.trans (bd.mono (by omega))).mono (by omega))).mono (by omega))).mono hb1.size);have LN:=Gv Bq _ Wd Wd.heap.size t3 Lr (HP.out.below hbd) (λ_=>by rw[U5];decide);have hline:Es Bq=[40,49,32,43,32,49,41,32,45,32,49]:=by unfold Es;rw[Ida,if_pos rfl,U5]
 rw[hline] at LN;rw[show Wc.heap.size=w1.heap.size+1+1+1 by omega] at LN;rw[hV2,show Wa.heap.size=w1.heap.size+1 by omega] at hU3 hWc;rw[hVP,hV1] at hU2 hU3;rw[hV1] at hWa;rw[hWa] at hWb;rw[hU2] at hWb;rw[hWb] at hWc;rw[hWc,hU3] at hWd;have HWD:=Qd hWd;have LN2:=Qd LN;have HBD:=Qd hbd;clear LN hline hbd t3 K3 t1c t2c hWd hWc hWb hWa hU2 hU3 hV1 hV2 hVP t2b K2 t1a T1 TP ba bb bc bd za zb zc hb1 h14 h24 h11 h12 h13 h21 h22 h23 hlen;go_wp2_with fail
 refine(show Calls _ _ _ _ _ from by
  have h:=LN2.out;rw[HWD.out] at h;exact h).mono ?_
 rintro e w3 ⟨rfl,hb3⟩;rw[<-HWD.out] at hb3;go_wp2_with fail
 go_ret;exact⟨rfl,HBD.out.trans (hb3.mono HBD.out.size)⟩
end
theorem Fk (w:World)(xs:List Value)(t:TypeId)(h:xs.length<=maxLen):(w.alloc (.cells xs.toArray t)).ownsRow w.heap.size t 1 (.slice (some ⟨w.heap.size,0,none⟩) xs.length xs.length) xs.length xs:=
 ⟨by simp,.inr ⟨w.heap.size,xs.length,xs.toArray,rfl,Lr,heap_alloc_new w _,Lr,h,by simp,by simp⟩⟩
theorem Jda (x:Nat)(w:World)(hx:x<=1114111):
 Calls Tryz.prog 60 #[.int .i64 (x:Int)] w λe w'=>∃v,e= .returned v/\w'.ownsRow w.heap.size 5 1 v (Tk.enc1 (x:Int)).length (Lib.byteCells (Tk.enc1 (x:Int)))/\Below w.heap.size w w':=by
 have E:Hid (Tk.enc1 (x:Int)=(Gl.one x).map UInt8.ofNat):=Qd rfl;by_cases h1:x<128
 ·have E1:Hid (Lib.byteCells (Tk.enc1 (x:Int))=[.int .u8 (x:Int)]):=Qd (by
   rw[E.out];unfold Gl.one Lib.byteCells;rw[if_pos h1];simp;omega)
  go_enter Tryz.func60,Tryz.ntmps60
  go_wp2_with fail
  go_ret;refine⟨_,rfl,?_,Br.alloc Lr _⟩;rw[<-Lib.byteCells_length (Tk.enc1 (x:Int)),E1.out];exact Fk w [_] _ (by simp[maxLen])
 by_cases h2:x<2048
 ·have E1:Hid (Lib.byteCells (Tk.enc1 (x:Int))=[.int .u8 (192+(x:Int)/64),.int .u8 (128+(x:Int)%64)]):=Qd (by
   rw[E.out];unfold Gl.one Lib.byteCells;rw[if_neg h1,if_pos h2];simp;omega)
  go_enter Tryz.func60,Tryz.ntmps60
  go_wp2_with fail
  go_ret;refine⟨_,rfl,?_,Br.alloc Lr _⟩;rw[<-Lib.byteCells_length (Tk.enc1 (x:Int)),E1.out];exact Fk w [_,_] _ (by simp[maxLen])
 have q1:decide ((x:Int)<128)=false:=decide_eq_false (by omega);have q2:decide ((x:Int)<2048)=false:=decide_eq_false (by omega);by_cases h3:x<65536
 ·have q3:decide ((x:Int)<65536)=true:=decide_eq_true (by omega)
  have E1:Hid (Lib.byteCells (Tk.enc1 (x:Int))=[.int .u8 (224+(x:Int)/4096),.int .u8 (128+(x:Int)/64%64),.int .u8 (128+(x:Int)%64)]):=Qd (by
   rw[E.out];unfold Gl.one Lib.byteCells;rw[if_neg h1,if_neg h2,if_pos h3];simp;omega)
  have b1:(x:Int)/4096<16:=by omega
  clear h1 h2 h3;go_enter Tryz.func60,Tryz.ntmps60
  go_wp2_with fail
  go_ret;refine⟨_,rfl,?_,Br.alloc Lr _⟩;rw[<-Lib.byteCells_length (Tk.enc1 (x:Int)),E1.out];exact Fk w [_,_,_] _ (by simp[maxLen])
 have q3:decide ((x:Int)<65536)=false:=decide_eq_false (by omega);have E1:Hid (Lib.byteCells (Tk.enc1 (x:Int))=[.int .u8 (240+(x:Int)/262144),.int .u8 (128+(x:Int)/4096%64),.int .u8 (128+(x:Int)/64%64),.int .u8 (128+(x:Int)%64)]):=Qd (by
  rw[E.out];unfold Gl.one Lib.byteCells;rw[if_neg h1,if_neg h2,if_neg h3];simp;omega)
 have b1:(x:Int)/262144<16:=by omega
 clear h1 h2 h3;go_enter Tryz.func60,Tryz.ntmps60
 go_wp2_with fail
 go_ret;refine⟨_,rfl,?_,Br.alloc Lr _⟩;rw[<-Lib.byteCells_length (Tk.enc1 (x:Int)),E1.out];exact Fk w [_,_,_,_] _ (by simp[maxLen])
theorem Iv {w w':World}{base:Nat}{e:TypeId}{size n:Nat}{v:Value}{xs:List Value}(h:w.ownsRow base e size v n xs)(hb:Below w.heap.size w w'):w'.ownsRow base e size v n xs:=by
 refine⟨h.1,?_⟩;rcases h.2 with h0 |⟨g,cap,cur,hv,hbs,hg,r⟩
 ·exact .inl h0
 exact .inr ⟨g,cap,cur,hv,hbs,(hb.block g (Array.getElem?_eq_some_iff.1 hg).1).trans hg,r⟩
def Vq:Option (Nat×Nat)->Nat×Nat
 |none=>(0,0)
 |some p=>p
theorem Nla {s:ByteArray}{i:Nat}(h:i<s.size):s[i].toNat=Gl.by_ s i:=by unfold Gl.by_;rw[Gl.get_at h]
theorem V5 {b c n:Nat}(hb:b<256)(h:Gl.first b=some (c,n)):c<128/\1<=n/\n<=4:=by
 unfold Gl.first at h;repeat' split at h
 all_goals (first|(cases h;omega) |cases h)
theorem Qka {c k b:Nat}(h:c<128*64^(k-1))(hk:1<=k)(hb:b<=191):64*c+b-128<128*64^(k+1-1):=by
 obtain⟨m,rfl⟩:∃m,k=m+1:=⟨k-1,by omega⟩;rw[Nat.add_sub_cancel] at h;rw[show m+1+1-1=m+1 by omega,Nat.pow_succ];omega
theorem Fqa {c k:Nat}(h:c<128*64^(k-1))(hk:1<=k)(h3:k<=3):c<524288:=by
 rcases(show k=1\/k=2\/k=3 by omega) with rfl |rfl |rfl
 all_goals (simp at h;omega)
theorem W5 (s:ByteArray)(i:Nat)(w:World)(hi:i<s.size)(hs:s.size<=100000000):
 Calls Tryz.prog 58 #[.string s,.int .i64 (i:Int)] w λe w'=>e= .returned (.tuple #[.int .i64 ((Vq (Gl.guess s i)).1:Int),.int .i64 ((Vq (Gl.guess s i)).2:Int)])/\w=w':=by
 have HG:Hid (Gl.guess s i=match Gl.first (Gl.by_ s i) with
  |none=>none
  |some (c,n)=>if s.size-i<n then none else(Gl.more s c (i+1) (n-1)).map λc=>(c,n)):=Qd rfl
 have hb0:=Gl.by_lt s i;have hb1:=Nla hi;obtain⟨b,hb⟩:∃b,b=Gl.by_ s i:=⟨_,rfl⟩;rw[<-hb] at HG hb0 hb1;have E0:Hid (wrap64 (s[i].toNat:Int)=(b:Int)):=Qd (by rw[hb1];exact IntWalk.wrap64_in _ (by omega));obtain⟨G,hG⟩:∃G,G=Gl.guess s i:=⟨_,rfl⟩;rw[<-hG] at HG⊢;clear hb hb1 hG;go_enter Tryz.func58,Tryz.ntmps58
 go_upto_region 3 with fail
 rw[E0.out];go_upto_if 14 with fail
 go_cut [6,7] from 15 (λx6 x7 wx=>wx=w/\∃c n:Nat,x6= .int .i64 (c:Int)/\x7= .int .i64 (n:Int)/\Hid (Gl.first b=some (c,n)))
 case first=>
  by_cases h1:240<=b
  ·go_wp2_with fail
   go_meet
   exact⟨rfl,b-240,4,congrArg (Value.int .i64) (by omega),rfl,Qd (Gl.first_4 h1)⟩
  have q1:decide (240<=(b:Int))=false:=decide_eq_false (by omega);by_cases h2:224<=b
  ·have H:=Qd (Gl.first_3 h2 (by omega))
   go_wp2_with fail
   go_meet
   exact⟨rfl,b-224,3,congrArg (Value.int .i64) (by omega),rfl,H⟩
  have q2:decide (224<=(b:Int))=false:=decide_eq_false (by omega);by_cases h3:192<=b
  ·have H:=Qd (Gl.first_2 h3 (by omega))
   go_wp2_with fail
   go_meet
   exact⟨rfl,b-192,2,congrArg (Value.int .i64) (by omega),rfl,H⟩
  have q3:decide (192<=(b:Int))=false:=decide_eq_false (by omega);by_cases h4:128<=b
  ·have H:=Qd (Gl.first_mid h4 (by omega))
   have HE:Hid (G=none):=Qd (by rw[HG.out,H.out]);go_wp2_with fail
   go_ret2
   exact⟨by rw[HE.out];rfl,rfl⟩
  have q4:decide (128<=(b:Int))=false:=decide_eq_false (by omega);have H:=Qd (Gl.first_lt (show b<128 by omega));go_wp2_with fail
  go_meet
  exact⟨rfl,b,1,rfl,rfl,H⟩
 case rest=>
  obtain⟨hwx,c,n,rfl,rfl,HF⟩:=hcut;rw[hwx];clear hwx;obtain⟨hc,hn1,hn4⟩:=V5 hb0 HF.out;have HG2:Hid (G=if s.size-i<n then none else(Gl.more s c (i+1) (n-1)).map λc=>(c,n)):=Qd (by rw[HG.out,HF.out]);clear HG HF E0;by_cases hlen:s.size-i<n
  ·have HE:Hid (G=none):=Qd (by rw[HG2.out,if_pos hlen])
   have hlen':(s.size:Int)-(i:Int)<(n:Int):=by omega
   clear hlen;go_wp2_with fail
   go_ret2
   exact⟨by rw[HE.out];rfl,rfl⟩
  have HE:Hid (G=(Gl.more s c (i+1) (n-1)).map λc=>(c,n)):=Qd (by rw[HG2.out,if_neg hlen]);have hlen':decide ((s.size:Int)-(i:Int)<(n:Int))=false:=decide_eq_false (by omega);have hin:i+n<=s.size:=by omega
  clear hlen HG2;go_wp2_with fail
  go_loop [6,8] (λcv kv=>∃c' k:Nat,cv= .int .i64 (c':Int)/\kv= .int .i64 (k:Int)/\1<=k/\k<=n/\Hid (c'<128*64^(k-1))/\Hid (Gl.more s c (i+1) (n-1)=Gl.more s c' (i+k) (n-k))) (λ_ kv=>n-(intOf kv).toNat)
  case atStart=>exact⟨c,1,rfl,rfl,Lr,hn1,Qd (by simpa using hc),Qd rfl⟩
  case round=>
   clear hlen';obtain⟨c',k,rfl,rfl,hk1,hkn,HB,HM⟩:=hrel;by_cases hlt:k<n
   ·have hc3:=Fqa HB.out hk1 (by omega)
    have hik:i+k<s.size:=by omega
    have hby:=Nla hik;have hb3:=Gl.by_lt s (i+k);obtain⟨b',hb'⟩:∃b',b'=Gl.by_ s (i+k):=⟨_,rfl⟩;rw[<-hb'] at hby hb3;have HMS:Hid (Gl.more s c' (i+k) (n-k)=if b'<128\/191<b' then none else Gl.more s (64*c'+b'-128) (i+(k+1)) (n-(k+1))):=Qd (by
     rw[show n-k=(n-(k+1))+1 by omega,hb'];rfl)
    have HBY:=Qd hby
    have e2:wrap64 (s[i+k].toNat:Int)=(s[i+k].toNat:Int):=IntWalk.wrap64_in _ (by rw[hby];omega);clear hb' hby
    by_cases h1:b'<128
    ·have q1:decide ((s[i+k].toNat:Int)<128)=true:=decide_eq_true (by rw[HBY.out];omega)
     have HE2:Hid (G=none):=Qd (by rw[HE.out,HM.out,HMS.out,if_pos (.inl h1)];rfl);go_wp2_with fail
     go_ret2
     exact⟨by rw[HE2.out];rfl,rfl⟩
    have q1:decide ((s[i+k].toNat:Int)<128)=false:=decide_eq_false (by rw[HBY.out];omega);by_cases h2:191<b'
    ·have q2:decide (191<(s[i+k].toNat:Int))=true:=decide_eq_true (by rw[HBY.out];omega)
     have HE2:Hid (G=none):=Qd (by rw[HE.out,HM.out,HMS.out,if_pos (.inr h2)];rfl);go_wp2_with fail
     go_ret2
     exact⟨by rw[HE2.out];rfl,rfl⟩
    have q2:decide (191<(s[i+k].toNat:Int))=false:=decide_eq_false (by rw[HBY.out];omega);have HM2:Hid (Gl.more s c (i+1) (n-1)=Gl.more s (64*c'+b'-128) (i+(k+1)) (n-(k+1))):=Qd (by rw[HM.out,HMS.out,if_neg (by omega)]);have HB2:Hid (64*c'+b'-128<128*64^(k+1-1)):=Qd (Qka HB.out hk1 (by omega));have hbb:(s[i+k].toNat:Int)<256:=by rw[HBY.out];omega
    have hv:Hid ((64*(c':Int)+(s[i+k].toNat:Int)-128)=((64*c'+b'-128:Nat):Int)):=Qd (by rw[HBY.out];omega);go_wp2_with fail
    go_round
    case rel=>exact⟨64*c'+b'-128,k+1,congrArg (Value.int .i64) hv.out,by go_num,by omega,by omega,HB2,HM2⟩
    case measure=>simp[intOf];omega
   obtain rfl:k=n:=by omega
   have HE2:Hid (G=some (c',k)):=Qd (by rw[HE.out,HM.out,Nat.sub_self];rfl);go_wp2_with fail
   go_ret2
   exact⟨by rw[HE2.out];rfl,rfl⟩
theorem Rka {c:Nat}(h:c<=1114111):∀x∈Gl.one c,x<256:=by
 unfold Gl.one;repeat' split
 all_goals
  intro x hx;simp only[List.mem_cons,List.not_mem_nil,or_false] at hx;omega
theorem Nha {s:ByteArray}{i n:Nat}(h:i+n<=s.size):(s.extract i (i+n)).toList=(List.range n).map (λk=>s.get! (i+k)):=by
 rw[ByteArray.toList_eq];have e:(s.extract i (i+n)).data.toList=(s.data.toList.drop i).take n:=by
  rw[ByteArray.data_extract,Array.toList_extract,List.extract_eq_take_drop,Nat.add_sub_cancel_left]
 rw[e];have hl:s.data.toList.length=s.size:=Array.length_toList;apply List.ext_getElem
 ·simp;omega
 intro k h1 h2;have hk:k<n:=by simpa using h2
 rw[List.getElem_take,List.getElem_drop,List.getElem_map,List.getElem_range,Gl.get_at (by omega)];rfl
theorem Kda {s:ByteArray}{i n c:Nat}(h:i+n<=s.size)(hc:c<=1114111):Tk.enc1 (c:Int)=(s.extract i (i+n)).toList↔Gl.one c=(List.range n).map (λk=>Gl.by_ s (i+k)):=by
 rw[Nha h];have e1:Tk.enc1 (c:Int)=(Gl.one c).map UInt8.ofNat:=rfl;have e2:(List.range n).map (λk=>Gl.by_ s (i+k))=((List.range n).map (λk=>s.get! (i+k))).map UInt8.toNat:=by rw[List.map_map];rfl
 rw[e1,e2]
 constructor
 ·intro h
  rw[<-h,List.map_map];have hb:=Rka hc;have:∀(l:List Nat),(∀x∈l,x<256)->l=l.map (UInt8.toNat∘UInt8.ofNat):=by
   intro l hl
   induction l with
   |nil=>rfl
   |cons a r ih=>
    rw[List.map_cons,<-ih (λx hx=>hl x (List.mem_cons_of_mem _ hx))]
    congr 1
    have:=hl a (List.mem_cons_self ..);simp[UInt8.toNat_ofNat'];omega
  exact this _ hb
 intro h;rw[h,List.map_map];have:∀(l:List UInt8),l.map (UInt8.ofNat∘UInt8.toNat)=l:=by
  intro l
  induction l with
  |nil=>rfl
  |cons a r ih=>rw[List.map_cons,ih];simp
 exact this _
theorem Ska {s:ByteArray}{i c n:Nat}(hi:i<s.size)(h:Gl.guess s i=some (c,n)):1<=n/\i+n<=s.size:=by
 unfold Gl.guess at h
 split at h
 ·cases h
 rename_i c0 n0 hf;have hb:=V5 (Gl.by_lt s i) hf
 split at h
 ·cases h
 rw[Option.map_eq_some_iff] at h;obtain⟨c1,_,h⟩:=h;cases h;omega
theorem Lda {s:ByteArray}{i c n:Nat}(hi:i<s.size)(h:Vq (Gl.guess s i)=(c,n)):
 i+n<=s.size/\(Gl.read s i).isNone=(((n:Int)==0)|| !Gl.may (c:Int)|| !(Tk.enc1 (c:Int)==(s.extract i (i+n)).toList))/\((Gl.read s i).isNone=false->Gl.read s i=some (c,n)):=by
 rw[<-Gl.refRead_eq s i hi];unfold Gl.refRead;cases hg:Gl.guess s i with
 |none=>rw[hg] at h;cases h;exact⟨by omega,rfl,λh=>by cases h⟩
 |some p=>
  rw[hg] at h;obtain⟨c',n'⟩:=p;cases h;have hk:=Ska hi hg;have h0:((n:Int)==0)=false:=beq_eq_false_iff_ne.2 (by omega);refine⟨hk.2,?_⟩;dsimp only;rw[h0,Bool.false_or];by_cases hm:Gl.may (c:Int)=true
  ·have hb:=Kda (s:=s) (i:=i) (n:=n) (c:=c) hk.2 (by unfold Gl.may at hm;simp at hm;omega)
   by_cases h:Gl.one c=(List.range n).map (λk=>Gl.by_ s (i+k))
   ·rw[if_pos ⟨hm,h⟩,hm,hb.2 h];simp
   rw[if_neg (λh'=>h h'.2),beq_eq_false_iff_ne.2 (λe=>h (hb.1 e))];simp
  rw[if_neg (λh'=>hm h'.1),Bool.eq_false_iff.2 hm];simp
theorem Ry (s:ByteArray)(w:World)(hs:s.size<=100000000):
 Calls Tryz.prog 32 #[.string s] w (Lla w (Gl.ints (Gl.dec s 0).1) (Gl.badI (Gl.dec s 0).2)):=by
 obtain⟨i0,hi,hz0,hz1,hz2⟩:=info_parts Gn;have GU:=Qd (λ(i:Nat) (h:i<s.size) wx=>W5 s i wx h hs);have MY:=Qd (λ(x:Int) wx=>Qu x wx);have ON:=Qd (λ(m:Nat) (h:m<=1114111) wx=>Jda m wx h);go_enter Tryz.func32,Tryz.ntmps32
 go_wp2_with fail
 go_loopw [4,5] (λov pv wr=>∃(pos:Nat) (done:List Nat),pv= .int .i64 (pos:Int)/\pos<=s.size/\Hid (wr.ownsRow w.heap.size 3 1 ov done.length (Sa (Gl.ints done)))/\Hid (Below w.heap.size w wr)/\Hid (Gl.DecAt s pos done)) (λ_ pv _=>s.size-(intOf pv).toNat)
 case atStart=>exact⟨0,[],rfl,Nat.zero_le _,Qd (World.ownsRow_nil _ _ _ _),Qd Br,Qd (Gl.DecAt.start s)⟩
 case round=>
  obtain⟨pos,done,rfl,hps,HOW,HB,H⟩:=hrel;have hdl:=H.out.len;by_cases hp:pos<s.size
  ·have G1:=Qd (GU.out pos hp wr)
   obtain⟨c,n,hcn⟩:∃c n,Vq (Gl.guess s pos)=(c,n):=⟨_,_,rfl⟩;obtain⟨hk,hR,hS⟩:=Lda hp hcn;have HRS:=Qd hS;rw[hcn] at G1;clear hcn hS;obtain⟨R,hR2⟩:∃R,R=(Gl.read s pos).isNone:=⟨_,rfl⟩;rw[<-hR2] at hR;have HR:=Qd hR;clear hR;go_wp2_with fail
   refine G1.out.mono ?_;rintro e w' ⟨rfl,rfl⟩;go_upto_region 5 with fail
   go_cut [36] from 18 to 45 (λx36 wx=>x36= .bool R/\Hid (Below wr.heap.size wr wx))
   case first=>
    have MYC:=Qd (λwx=>MY.out (c:Int) wx);have ONC:Hid (Gl.may (c:Int)=true->_):=Qd (λh wx=>ON.out c (by unfold Gl.may at h;simp at h;omega) wx);have hR:=HR.out;obtain⟨Z,hZ⟩:∃Z,Z=((n:Int)==0):=⟨_,rfl⟩;generalize Gl.may (c:Int)=M at*;obtain⟨L,hL⟩:∃L,L=Tk.enc1 (c:Int):=⟨_,rfl⟩;obtain⟨r,hr⟩:∃r,r= !(L==(s.extract pos (pos+n)).toList):=⟨_,rfl⟩;rw[<-hZ,<-hL,<-hr] at hR;rw[<-hL] at ONC;have HZ:=Qd hZ.symm;have HE:=Qd hr.symm;have hww:IntKind.i64.wrap ((pos:Int)+(n:Int))=(pos:Int)+(n:Int):=IntWalk.i64_in _ (by omega);have HIN:Hid ((0:Int)<=(pos:Int)+(n:Int)/\(pos:Int)+(n:Int)<=(s.size:Int)/\(pos:Int)<=(pos:Int)+(n:Int)/\((pos:Int)+(n:Int)).toNat=pos+n):=Qd (by omega);have HRR:=Qd hR;clear hR hZ hL hr hR2 HR HRS;refine Sk (λxs=>{tmps:= #[_,_,_,_,_,_,_,_,_,_,_,_,_,_,_,_,_,_,xs 0,xs 1,xs 2,xs 3,xs 4,xs 5,xs 6,xs 7,xs 8,xs 9,xs 10,xs 11,xs 12,xs 13,xs 14,xs 15,xs 16,xs 17,xs 18,_,_,_,_,_,_,_,_,_,_],defers:=[]}) wr
     [pv (.int .i64 (n:Int)),pv (.bool Z),pv (.bool Z),pv (cond Z undef (.int .i64 (c:Int))),pv (cond Z undef (.bool M)),pv (cond Z undef (.bool !M)),pv (.bool (Z|| !M)),pv (.bool (Z|| !M)),pv (cond (Z|| !M) undef (.int .i64 (c:Int))),pq (λw v=>(Z|| !M)=false->w.ownsRow 0 5 1 v L.length (Lib.byteCells L)) (λw w' v h hb e=>Iv (h e) hb),pv (cond (Z|| !M) undef (.string ⟨L.toArray⟩)),pv (cond (Z|| !M) undef (.string s)),pv (cond (Z|| !M) undef (.int .i64 (pos:Int))),pv (cond (Z|| !M) undef (.int .i64 (pos:Int))),pv (cond (Z|| !M) undef (.int .i64 (n:Int))),pv (cond (Z|| !M) undef (.int .i64 ((pos:Int)+(n:Int)))),pv (cond (Z|| !M) undef (.string (s.extract pos (pos+n)))),pv (cond (Z|| !M) undef (.bool r)),pv (.bool (Z|| !M||r))] 19
     (by kernel_rfl) (by kernel_rfl) (by kernel_rfl) (Xaa [_,_,_,_,_,_,_,_,_,_,_,_,_,_,_,_,_,_,_]) rfl Br ?_ ?_
    ·cases Z<;>cases M
     all_goals
      simp only[Mv]
      and_intros
     all_goals try trivial
     all_goals
      intro xs w1 hb hd hv;simp[Ii,Ob,Region.binds,pv,pq] at hv;obtain⟨k1,k2,k3,k4⟩:=HIN.out;have q:=HZ.out
      first
       |(refine Rk rfl ?_ ?_;(focus (simp[Region.wanted,yielded,hv];done));first|(refine⟨_,?_,rfl,Br⟩;simp only[Ja];simp[Act.put];done) |(refine⟨undef,?_,λh=>Bool.noConfusion h,Br⟩;simp only[Ja];simp[Act.put];done))
       |(refine Ca rfl rfl ?_;unfold Oper.wp;(try simp only[hv]);go_simp;refine⟨_,?_,rfl,Br⟩;simp only[Ja];first|(simp[hv];done) |(simp;done))
       |(refine Uh rfl ?_ ?_;(focus (simp[Region.wanted,yielded,hv];done));have r9:w1.ownsRow 0 5 1 (xs 9) L.length (Lib.byteCells L):=hd 9 (by rfl) rfl;have hcv:=L3 r9;unfold Oper.wp;simp only[hv];go_simp;refine⟨_,?_,rfl,Br⟩;simp only[Ja];simp[hv];done)
       |(refine Uh rfl ?_ ?_;(focus (simp[Region.wanted,yielded,hv];done));unfold Oper.wp;simp only[hv];go_simp;first|(refine⟨_,?_,rfl,Br⟩;simp only[Ja];simp[hv];done) |(refine⟨_,?_,congrArg Value.bool HE.out,Br⟩;simp only[Ja];simp[hv];done) |((with_reducible refine(MYC.out w1).mono ?_);rintro e w3 ⟨rfl,rfl⟩;refine⟨_,?_,rfl,Br⟩;simp only[Ja];simp[hv];done) |((with_reducible refine(ONC.out rfl w1).mono ?_);rintro e w3 ⟨v9,rfl,ho9,hb2⟩;refine⟨v9,?_,World.ownsRow.mono_ ho9 (Nat.zero_le _),hb2⟩;simp only[Ja];simp[hv];done))
       |fail
    intro xs w1 hb hx hv;have h18:=hx 18 (by decide);go_wp2_with fail
    go_meet
    exact⟨by rw[HRR.out];exact h18,Qd hb⟩
   case rest=>
    obtain⟨rfl,HB2⟩:=hcut;have HO2:=Qd (Iv HOW.out HB2.out);have HBB:Hid (Below w.heap.size w wc):=Qd (HB.out.trans (HB2.out.mono HB.out.size));cases hread:Gl.read s pos with
    |none=>
     rw[hread] at hR2;have HD:=Qd (H.out.bad hp hread);have HNE:Hid (Gl.ints (Gl.dec s 0).1=Gl.ints done/\Gl.badI (Gl.dec s 0).2=(pos:Int)):=Qd (by rw[HD.out];exact⟨rfl,rfl⟩);have HL:=Qd (IsCh.of_own (w:=wc) (base:=w.heap.size) (v:=u4) (l:=Gl.ints done) (by rw[show(Gl.ints done).length=done.length by simp[Gl.ints]];exact HO2.out));subst hR2;clear hread HRS HR;go_wp2_with fail
     go_ret2
     exact⟨_,by rw[HNE.out.2];rfl,by rw[HNE.out.1];exact HL.out,HBB.out⟩
    |some p=>
     rw[hread] at hR2;obtain rfl:p=(c,n):=Option.some.inj (hread.symm.trans (HRS.out (by rw[hread];rfl)));have HST:=Qd (H.out.step hp hread);have hrp:=Gl.read_pos hread;have hrl:=Gl.read_le hp hread;subst hR2;obtain⟨A2,C2,rfl,hC1,hC2⟩:=Kb HO2.out;have hlen:(Sa (Gl.ints done)).length=done.length:=by simp[Sa,Gl.ints]
     have HAP:Hid (Sa (Gl.ints (done++[c]))=Sa (Gl.ints done)++[.int .i64 (c:Int)]):=Qd (by unfold Gl.ints;rw[List.map_append,List.map_singleton,Hu]);have HSZ:Hid (w.heap.size<=wc.heap.size):=Qd HBB.out.size;clear hread HRS HR H;go_wp2_with (at_builtin;refine wpList_append_own _ rfl _ _ 25 rfl w.heap.size 3 i0 (.int .i64 0) 1 8 Tryz.underlying25 hi hz0 hz1 hz2 rfl (by decide) _ _ _ rfl (HO2.out.alloc _) ⟨_,0,none⟩ 1 1 [.int .i64 (c:Int)] rfl rfl (cell_one_new _ _ _) (by intro u hu;simp only[List.mem_singleton] at hu;subst hu;rfl) (by unfold maxLen;omega) (by omega) (by have:=HSZ.out;simp;omega) ?_;intro v3 w3 hown3 hgrow3 hnn3)
     have HB3:Hid (Below w.heap.size w w3):=Qd ((HBB.out.alloc HBB.out.size _).grown hgrow3 (by have:=HSZ.out;simp;omega) (λk hk=>(HO2.out.lt k hk).1));have HO3:Hid (w3.ownsRow w.heap.size 3 1 v3 (done++[c]).length (Sa (Gl.ints (done++[c])))):=Qd (by rw[HAP.out];simpa using hown3);clear hown3 hgrow3 hnn3;go_wp2_with fail
     go_round
     case rel=>exact⟨pos+n,done++[c],by go_num,hrl,HO3,HB3,HST⟩
     case measure=>simp[intOf];omega
  have HD:=Qd (H.out.done hp);have HNE:Hid (Gl.ints (Gl.dec s 0).1=Gl.ints done/\Gl.badI (Gl.dec s 0).2= -1):=Qd (by rw[HD.out];exact⟨rfl,rfl⟩);have HL:=Qd (IsCh.of_own (w:=wr) (base:=w.heap.size) (v:=u4) (l:=Gl.ints done) (by rw[show(Gl.ints done).length=done.length by simp[Gl.ints]];exact HOW.out));go_wp2_with fail
  go_ret2
  exact⟨_,by rw[HNE.out.2];rfl,by rw[HNE.out.1];exact HL.out,HB.out⟩
section
open Go.RowKit Tr
theorem Oha (s:ByteArray)(w:World)(hs:s.size<=100000000):Calls Tryz.prog 17 #[.string s] w (La w (decide (2000<(Gl.dec s 0).1.length))):=by
 have DC:=Qd (Ry s w hs);have HL:Hid ((Gl.ints (Gl.dec s 0).1).length=(Gl.dec s 0).1.length):=Qd (by unfold Gl.ints;simp);generalize(Gl.dec s 0).1.length=n at*;go_enter Tryz.func17,Tryz.ntmps17
 go_wp2_with fail
 refine DC.out.mono ?_;rintro e w2 ⟨v,rfl,⟨A,c,rfl,hc1,hc2,-⟩,hb⟩;rw[HL.out] at hc1⊢;clear HL DC;have hn:n<=9223372036854775807:=by omega
 go_wp2_with fail
 go_ret;exact⟨Aa (by rw[Bool.eq_iff_iff];simp;try omega),hb⟩
theorem X5:∀{l:List Tree} {i:Nat} (h:i<l.length),Qe l[i]=false->Cg l=false
 | [],_,h,_=>by simp at h
 |t::r,0,_,h=>by unfold Cg;rw[show Qe t=false from h];rfl
 |t::r,i+1,h,ha=>by unfold Cg;rw[X5 (l:=r) (i:=i) (by simpa using h) ha,Bool.and_false]
theorem Ux:∀{l:List Tree},(∀i (h:i<l.length),Qe l[i]=true)->Cg l=true
 | [],_=>rfl
 |t::r,h=>by unfold Cg;rw[show Qe t=true from h 0 (by simp),Ux (l:=r) (λi hi=>h (i+1) (by simpa using hi))];rfl
theorem Tka (n:Nat):∀(a:Tree) (vs:List Value) (w:World) (B:Nat),SizeOf.sizeOf a<n->IsTree w B a vs->B<=w.heap.size->
 Calls Tryz.prog 16 #[.agg vs.toArray] w (La w (Qe a)):=by
 induction n with
 |zero=>intro a vs w B h;omega
 |succ n ih=>
  intro a vs w B hn h hB;obtain⟨k,o,m,nm,t,l⟩:=a;obtain⟨W,hW⟩:∃W,W=w.alloc (.cells vs.toArray 28):=⟨_,rfl⟩;obtain⟨A1,A2,A3,A4,c1,c2,c3,c4,us,HO,HL,HC,hW8,HG,hWl,hWb⟩:=Vb h hW;have hf1:=HO.out.f1.le (by omega);have hf2:=HO.out.f2.le (by omega);have hf4:=HO.out.f4.le (by omega);have HSZ:=Qd (λ(i:Nat) (hi:i<l.length)=>(by have:=Vg (k:=k) (o:=o) (m:=m) (n:=nm) (t:=t) hi;omega:SizeOf.sizeOf l[i]<n));have HR:Hid (Qe (.mk k o m nm t l)=(decide (nm.top.length<=16)&&decide (nm.bot.length<=16)&&Cg l)):=Qd (by rw[Qe]);have AB:Hid (∀i (hi:i<l.length),Qe l[i]=false->Cg l=false):=Qd (λi hi h=>X5 hi h);have AG:=Qd (@Ux l);have q4:W.cell? ⟨w.heap.size,4,none⟩=_:=hW8.p4;have q5:W.cell? ⟨w.heap.size,5,none⟩=_:=hW8.p5;generalize Qe (.mk k o m nm t l)=R at*;generalize Cg l=Y at*;have HQ:Hid (∀wx,Below W.heap.size W wx->wx.cell? ⟨w.heap.size,7,none⟩=some (.slice A4 l.length c4)):=Qd (λwx hx=>(hx.cell (p:=⟨w.heap.size,7,none⟩) hWl).trans hW8.p7);have HKB:Hid (∀wx,Below W.heap.size W wx->∀p:Addr,p.block<B->wx.cell? p=w.cell? p):=Qd (λwx hx p hp=>by rw[hx.cell (by omega),hWb.cell (by omega)]);have HWB:=Qd hWb;have HWS:Hid (w.heap.size<=W.heap.size):=Qd (by omega);have HW:=Qd hW;clear hW8 HO hWb hW h hn;have q7:=HQ.out W Br;by_cases hbad:16<nm.top.length\/16<nm.bot.length
  ·have HZ:Hid (R=false):=Qd (by rw[HR.out];rcases hbad with e |e<;>simp<;>omega)
   clear HR AG AB;rcases(show 16<nm.top.length\/(nm.top.length<=16/\16<nm.bot.length) by omega) with h1 |⟨h1,h2⟩
   all_goals
    clear hbad;go_enter Tryz.func16,Tryz.ntmps16
    go_upto_region 1 with fail
    rw[<-HW.out];go_wp2_with fail
    go_ret;exact⟨Aa (by rw[HZ.out]),HWB.out⟩
  have h1:nm.top.length<=16:=by omega
  have h2:nm.bot.length<=16:=by omega
  have HRY:Hid (R=Y):=Qd (by rw[HR.out];simp[h1,h2]);clear HR hbad;go_enter Tryz.func16,Tryz.ntmps16
  go_upto_region 1 with fail
  rw[<-HW.out];go_wp2_with fail
  go_loopw [3] (λi wr=>∃(j:Nat),j<=l.length/\i= .int .i64 j/\Hid (∀i (hi:i<l.length),i<j->Qe l[i]=true)/\Below W.heap.size W wr) (λi _=>l.length-(intOf i).toNat)
  case atStart=>exact⟨0,Nat.zero_le _,rfl,Qd (λi hi h=>by omega),Br⟩
  case round=>
   clear q7 q4 q5;obtain⟨j,hj,rfl,HI,hbel⟩:=hrel;have q7:=HQ.out wr hbel;by_cases hlt:j<l.length
   ·obtain⟨b,off,tv,rfl,hb,HT,HR2⟩:=Dd HC.out HL.out (HKB.out wr hbel) hlt
    have IH:=Qd (ih l[j] _ wr B (HSZ.out j hlt) (HT.out.keep (HKB.out wr hbel) Lr) (by have:=hbel.size;omega));have HI2:=Qd (Fc HT.out);have HS:Hid (Qe l[j]=true->∀i (hi:i<l.length),i<j+1->Qe l[i]=true):=Qd (λh i hi hij=>by
     by_cases e:i=j
     ·subst e;exact h
     exact HI.out i hi (by omega))
    have HF:=Qd (AB.out j hlt);generalize Qe l[j]=z at*;clear HT;cases z
    ·have HZ:Hid (R=false):=Qd (by rw[HRY.out];exact HF.out rfl)
     go_wp2_with (with_reducible refine Gc rfl (.tmp 26) rfl b (off+j*8) rfl tv HR2.out HI2.out ?_)
     refine IH.out.mono ?_;rintro e w3 ⟨rfl,hb3⟩;go_wp2_with fail
     go_ret;exact⟨Aa (by rw[HZ.out]),HWB.out.trans ((hbel.trans (hb3.mono hbel.size)).mono HWS.out)⟩
    have HN:=Qd (HS.out rfl);go_wp2_with (with_reducible refine Gc rfl (.tmp 26) rfl b (off+j*8) rfl tv HR2.out HI2.out ?_)
    refine IH.out.mono ?_;rintro e w3 ⟨rfl,hb3⟩;go_wp2_with fail
    go_roundw
    case rel=>exact⟨j+1,by omega,by go_num,HN,hbel.trans (hb3.mono hbel.size)⟩
    case measure=>simp[intOf];omega
   have HZ:Hid (R=true):=Qd (by rw[HRY.out];exact AG.out (λi hi=>HI.out i hi (by omega)));go_wp2_with fail
   go_ret;exact⟨Aa (by rw[HZ.out]),HWB.out.trans (hbel.mono HWS.out)⟩
end
section
open Go.RowKit Tr
namespace S21
def slotsL:List Value->Nat->Value
 | [],_=>undef
 |v::_,0=>v
 |_::l,n+1=>slotsL l n
end S21
open S21
def Fb (s0 s1 s2 s3 s4 s5 s6 s7 s8 s9 s10 s11 s12 s13 s14 s15 s16 s17 s18 s19 s20 s21 s22 s23 s24 s25 s26 s27 s28 s29 s30 s31 s32 s33 s34 s35 s36 s37 s38 s39 s40 s41 s42 s43 s44 s45 s46 s47 s48 s49 s50 s51 s52 s53 s54 s55 s56:Value)(xs:Nat->Value):Act:={tmps:= #[s0,s1,s2,s3,s4,s5,s6,s7,s8,s9,s10,s11,s12,s13,s14,s15,s16,s17,s18,s19,s20,s21,s22,s23,s24,s25,s26,s27,s28,s29,s30,s31,s32,s33,s34,s35,s36,s37,s38,s39,s40,s41,s42,s43,s44,s45,s46,s47,s48,s49,s50,s51,s52,s53,s54,s55,s56,xs 0,xs 1,xs 2,xs 3,xs 4,xs 5,xs 6,xs 7,xs 8,xs 9,xs 10,xs 11],defers:=[]}
def Ena (B0 j n1 n2 c1 c2 b off b2 off2:Nat)(tv uv:List Value):Nat->World->Value->Prop
 | 0,w,v=>v= .pointer (some ⟨B0,7,none⟩)
 | 1,w,v=>v= .slice (some ⟨b,off,none⟩) n1 c1
 | 2,w,v=>v= .int .i64 (j:Int)
 | 3,w,v=>v= .pointer (some ⟨b,off+j*8,none⟩)
 | 4,w,v=>v= .agg tv.toArray
 | 5,w,v=>v= .pointer (some ⟨(B0+1),7,none⟩)
 | 6,w,v=>v= .slice (some ⟨b2,off2,none⟩) n2 c2
 | 7,w,v=>v= .int .i64 (j:Int)
 | 8,w,v=>v= .pointer (some ⟨b2,off2+j*8,none⟩)
 | 9,w,v=>v= .agg uv.toArray
 | 10,w,v=>v= .bool true
 |_,w,v=>v= .bool false
theorem Mda (n:Nat):∀(a:Tree) (vs us:List Value) (w:World) (B:Nat),SizeOf.sizeOf a<n->IsTree w B a vs->IsTree w B a us->B<=w.heap.size->
 Calls Tryz.prog 15 #[.agg vs.toArray,.agg us.toArray] w (La w true):=by
 induction n with
 |zero=>intro a vs us w B h;omega
 |succ n ih=>
  intro a vs us w B hn h k0 hB;obtain⟨k,o,m,nm,t,l⟩:=a;obtain⟨W1,hW1⟩:∃W,W=w.alloc (.cells vs.toArray 28):=⟨_,rfl⟩;obtain⟨A1,A2,A3,A4,c1,c2,c3,c4,ks,HO,HL,HC,hV8,HG,hWl,hWb⟩:=Vb h hW1;have hs1:W1.heap.size=w.heap.size+1:=by rw[hW1];simp
  obtain⟨W,hW⟩:∃W,W=W1.alloc (.cells us.toArray 28):=⟨_,rfl⟩;obtain⟨D1,D2,D3,D4,d1,d2,d3,d4,js,JO,JL,JC,hU8,JG,hWl2,hWb2⟩:=Vb (k0.below (hWb.mono hB)) hW;rw[hs1] at hU8;have hWW:Below w.heap.size w W:=hWb.trans (hWb2.mono (by omega));have hsW:W.heap.size=w.heap.size+2:=by rw[hW];simp[hs1]
  have HV:Hid (∀wx,Below W.heap.size W wx->At8 wx w.heap.size 0 k o m nm t l.length A1 A2 A3 A4 c1 c2 c3 c4):=Qd (λwx hx=>hV8.keep (λq=>(hx.cell (p:=⟨w.heap.size,q,none⟩) (by show w.heap.size<_;omega)).trans (hWb2.cell (p:=⟨w.heap.size,q,none⟩) (by show w.heap.size<_;omega))));have HU:Hid (∀wx,Below W.heap.size W wx->At8 wx (w.heap.size+1) 0 k o m nm t l.length D1 D2 D3 D4 d1 d2 d3 d4):=Qd (λwx hx=>hU8.keep (λq=>hx.cell (p:=⟨w.heap.size+1,q,none⟩) (by show w.heap.size+1<_;omega)));have HQ:Hid (∀wx,Below W.heap.size W wx->wx.cell? ⟨w.heap.size,7,none⟩=some (.slice A4 l.length c4)):=Qd (λwx hx=>(HV.out wx hx).p7);have HP:Hid (∀wx,Below W.heap.size W wx->wx.cell? ⟨w.heap.size+1,7,none⟩=some (.slice D4 l.length d4)):=Qd (λwx hx=>(HU.out wx hx).p7);have HKB:Hid (∀wx,Below W.heap.size W wx->∀p:Addr,p.block<B->wx.cell? p=w.cell? p):=Qd (λwx hx p hp=>by rw[hx.cell (by omega),hWW.cell (by omega)]);have HSZ:=Qd (λ(i:Nat) (hi:i<l.length)=>(by have:=Vg (k:=k) (o:=o) (m:=m) (n:=nm) (t:=t) hi;omega:SizeOf.sizeOf l[i]<n));have hf1:=HO.out.f1;have hf2:=HO.out.f2;have hf3:=HO.out.f3;have hf4:=HO.out.f4.le (by omega);have RS:Hid (∀wx,Below W.heap.size W wx->Calls Tryz.prog 30 #[.agg #[.bool nm.neg,.slice A1 nm.top.length c1,.slice A2 nm.bot.length c2],.agg #[.bool nm.neg,.slice D1 nm.top.length d1,.slice D2 nm.bot.length d2]] wx (La wx true)):=Qd (λwx hx=>by
   have hk:=HKB.out wx hx;have:=Uk nm.neg nm.neg nm.top nm.top nm.bot nm.bot A1 A2 D1 D2 c1 c2 d1 d2 wx B (HO.out.l1.keep hk) ((JO.out.l1.keep (λp hp=>(hk p hp).trans (hWb.cell (Nat.lt_of_lt_of_le hp hB)).symm))) (HO.out.l2.keep hk) ((JO.out.l2.keep (λp hp=>(hk p hp).trans (hWb.cell (Nat.lt_of_lt_of_le hp hB)).symm))) (by have:=hx.size;omega) (by have:=hf1.1;have:=hf1.2.2;omega) (by have:=hf1.1;have:=hf1.2.2;omega) (by have:=hf2.1;have:=hf2.2.2;omega) (by have:=hf2.1;have:=hf2.2.2;omega);have e:Od nm.neg nm.neg nm.top nm.top nm.bot nm.bot=true:=by simp[Od]
   rw[e] at this;exact this)
  have IS:Hid (∀wx,Below W.heap.size W wx->Calls Tryz.prog 31 #[.slice A3 t.length c3,.slice D3 t.length d3] wx (La wx true)):=Qd (λwx hx=>by
   have hk:=HKB.out wx hx;have:=Kz t t A3 D3 c3 d3 wx B (HO.out.l3.keep hk) (JO.out.l3.keep (λp hp=>(hk p hp).trans (hWb.cell (Nat.lt_of_lt_of_le hp hB)).symm)) (by have:=hf3.1;have:=hf3.2.2;omega) (by have:=hf3.1;have:=hf3.2.2;omega);have e:(t==t)=true:=by simp
   rw[e] at this;exact this)
  have e0:(k !=k)=false:=by simp
  have e1:(o !=o)=false:=by simp
  have e7:((l.length:Int)!=(l.length:Int))=false:=by simp
  obtain⟨q0,q1,q2,q3,q4,q5,q6,q7⟩:=HV.out W Br;obtain⟨p0,p1,p2,p3,p4,p5,p6,p7⟩:=HU.out W Br;have HWB:=Qd hWW;have HWS:Hid (w.heap.size<=W.heap.size):=Qd (by omega);have HW:Hid (W=(w.alloc (.cells vs.toArray 28)).alloc (.cells us.toArray 28)):=Qd (by rw[hW,hW1]);have HB2:Hid (B<=W.heap.size):=Qd (by omega);have JC2:Hid (IsTrees w B l js):=Qd (IsTrees.keep (λp hp=>(hWb.cell (Nat.lt_of_lt_of_le hp hB)).symm) Lr _ _ JC.out);have JL2:Hid (Lies w B D4 js):=Qd (JL.out.keep (λp hp=>(hWb.cell (Nat.lt_of_lt_of_le hp hB)).symm));clear h k0 hW hW1 HO JO HG JG hV8 hU8 hWb hWb2 hWl hWl2 hWW hs1 hsW JC JL hn hf1 hf2 hf3;go_enter Tryz.func15,Tryz.ntmps15
  go_upto_region 1 with fail
  rw[<-HW.out];go_wp2_with fail
  refine(RS.out W Br).mono ?_;rintro e w2 ⟨rfl,hb2⟩;clear q0 q1 q2 q3 q4 q5 q6 q7 p0 p1 p2 p3 p4 p5 p6 p7;have q6:=(HV.out w2 hb2).p6;have q7:=(HV.out w2 hb2).p7;have p6:=(HU.out w2 hb2).p6;have p7:=(HU.out w2 hb2).p7;go_wp2_with fail
  refine(IS.out w2 hb2).mono ?_;rintro e w3 ⟨rfl,hb3⟩;have hb3':=hb2.trans (hb3.mono hb2.size);clear q6 q7 p6 p7;have q7:=HQ.out w3 hb3';have p7:=HP.out w3 hb3';go_wp2_with fail
  go_loopw [5] (λi wr=>∃(j:Nat),j<=l.length/\i= .int .i64 j/\Below W.heap.size W wr) (λi _=>l.length-(intOf i).toNat)
  case atStart=>exact⟨0,Nat.zero_le _,rfl,hb3'⟩
  case round=>
   clear q7 p7;obtain⟨j,hj,rfl,hbel⟩:=hrel;have q7:=HQ.out wr hbel;by_cases hlt:j<l.length
   ·obtain⟨b,off,tv,rfl,hb,HT,HR⟩:=Dd HC.out HL.out (HKB.out wr hbel) hlt
    obtain⟨b2,off2,uv,rfl,hbb,HT2,HRR⟩:=Dd JC2.out JL2.out (HKB.out wr hbel) hlt;have hblt:b<wr.heap.size:=by have:=hbel.size;have:=HB2.out;omega
    have hblt2:b2<wr.heap.size:=by have:=hbel.size;have:=HB2.out;omega
    have HR1:Hid (∀wx,Below wr.heap.size wr wx->wx.rangeAt b (off+j*8) tv):=Qd (λwx hx q v hv=>(hx.cell (p:=⟨b,off+j*8+q,none⟩) hblt).trans (HR.out q v hv));have HR2:Hid (∀wx,Below wr.heap.size wr wx->wx.rangeAt b2 (off2+j*8) uv):=Qd (λwx hx q v hv=>(hx.cell (p:=⟨b2,off2+j*8+q,none⟩) hblt2).trans (HRR.out q v hv));have IH:=Qd (λ(wx:World) (hx:Below wr.heap.size wr wx)=>ih l[j] tv uv wx B (HSZ.out j hlt) (HT.out.keep (HKB.out wx (hbel.trans (hx.mono hbel.size))) Lr) (HT2.out.keep (HKB.out wx (hbel.trans (hx.mono hbel.size))) Lr) (by have:=hbel.size;have:=hx.size;have:=HB2.out;omega));have HI1:=Qd (Fc HT.out);have HI2:=Qd (Fc HT2.out);have hj0:(0:Int)<=(j:Int):=by omega
    have hj1:(j:Int)<(l.length:Int):=by omega
    clear HT HT2 hb hbb HR HRR;go_upto_region 6 with fail
    refine Xf (Fb _ _ _ _ _ _ _ _ _ _ _ _ _ _ _ _ _ _ _ _ _ _ _ _ _ _ _ _ _ _ _ _ _ _ _ _ _ _ _ _ _ _ _ _ _ _ _ _ _ _ _ _ _ _ _ _ _) wr (Ena w.heap.size j l.length l.length c4 d4 b off b2 off2 tv uv) (by kernel_rfl) ?_ (by kernel_rfl) (S21.slotsL [_,_,_,_,_,_,_,_,_,_,_,_]) rfl Br ?_ ?_
    ·intro i w1 w2 v hv hb
     match i with
     | 0=>exact hv
     | 1=>exact hv
     | 2=>exact hv
     | 3=>exact hv
     | 4=>exact hv
     | 5=>exact hv
     | 6=>exact hv
     | 7=>exact hv
     | 8=>exact hv
     | 9=>exact hv
     | 10=>exact hv
     |i+11=>exact hv
    ·intro i xs w1 hi hb hdep
     have hi6:i<12:=hi;clear hi;rcases(show i=0\/i=1\/i=2\/i=3\/i=4\/i=5\/i=6\/i=7\/i=8\/i=9\/i=10\/i=11 by omega) with rfl |rfl |rfl |rfl |rfl |rfl |rfl |rfl |rfl |rfl |rfl |rfl
     ·refine Ca rfl rfl ?_
      unfold Fb Oper.wp;go_simp
      exact⟨_,by simp only[Fb,Ja];simp[Act.put],rfl,Br⟩
     ·have h0:xs 0= .pointer (some ⟨w.heap.size,7,none⟩):=hdep 0 (by kernel_rfl)
      refine Ca rfl rfl ?_;have qq:=HQ.out w1 (hbel.trans (hb.mono hbel.size));unfold Fb Oper.wp;simp only[h0];go_simp
      exact⟨_,by simp only[Fb,Ja];simp[Act.put,h0],rfl,Br⟩
     ·refine Ca rfl rfl ?_
      unfold Fb Oper.wp;go_simp
      exact⟨_,by simp only[Fb,Ja];simp[Act.put],rfl,Br⟩
     ·have h1:xs 1= .slice (some ⟨b,off,none⟩) l.length c4:=hdep 1 (by kernel_rfl)
      have h2:xs 2= .int .i64 (j:Int):=hdep 2 (by kernel_rfl);refine Ca rfl rfl ?_;unfold Fb Oper.wp;simp only[h1,h2];go_simp
      exact⟨_,by simp only[Fb,Ja];simp[Act.put,h1,h2],rfl,Br⟩
     ·have h3:xs 3= .pointer (some ⟨b,off+j*8,none⟩):=hdep 3 (by kernel_rfl)
      refine Ca rfl rfl ?_;refine wp_load_mid 28 (.tmp 60) rfl b (off+j*8) (by unfold Fb;simp only[h3];rfl) tv _ (HR1.out w1 hb) Tryz.underlying28 rfl HI1.out ?_;exact⟨_,by simp only[Fb,Ja];simp[Act.put,h3],rfl,Br⟩
     ·refine Ca rfl rfl ?_
      unfold Fb Oper.wp;go_simp
      exact⟨_,by simp only[Fb,Ja];simp[Act.put],rfl,Br⟩
     ·have h5:xs 5= .pointer (some ⟨(w.heap.size+1),7,none⟩):=hdep 5 (by kernel_rfl)
      refine Ca rfl rfl ?_;have qq:=HP.out w1 (hbel.trans (hb.mono hbel.size));unfold Fb Oper.wp;simp only[h5];go_simp
      exact⟨_,by simp only[Fb,Ja];simp[Act.put,h5],rfl,Br⟩
     ·refine Ca rfl rfl ?_
      unfold Fb Oper.wp;go_simp
      exact⟨_,by simp only[Fb,Ja];simp[Act.put],rfl,Br⟩
     ·have h6:xs 6= .slice (some ⟨b2,off2,none⟩) l.length d4:=hdep 6 (by kernel_rfl)
      have h7:xs 7= .int .i64 (j:Int):=hdep 7 (by kernel_rfl);refine Ca rfl rfl ?_;unfold Fb Oper.wp;simp only[h6,h7];go_simp
      exact⟨_,by simp only[Fb,Ja];simp[Act.put,h6,h7],rfl,Br⟩
     ·have h8:xs 8= .pointer (some ⟨b2,off2+j*8,none⟩):=hdep 8 (by kernel_rfl)
      refine Ca rfl rfl ?_;refine wp_load_mid 28 (.tmp 65) rfl b2 (off2+j*8) (by unfold Fb;simp only[h8];rfl) uv _ (HR2.out w1 hb) Tryz.underlying28 rfl HI2.out ?_;exact⟨_,by simp only[Fb,Ja];simp[Act.put,h8],rfl,Br⟩
     ·have h4:xs 4= .agg tv.toArray:=hdep 4 (by kernel_rfl)
      have h9:xs 9= .agg uv.toArray:=hdep 9 (by kernel_rfl);refine Ca rfl rfl ?_;unfold Fb Oper.wp;simp only[h4,h9];go_simp
      refine(IH.out w1 hb).mono ?_;rintro e w2 ⟨rfl,hb2⟩;exact⟨_,by simp only[Fb,Ja];simp[Act.put,h4,h9],rfl,hb2⟩
     have h10:xs 10= .bool true:=hdep 10 (by kernel_rfl);refine Ca rfl rfl ?_;unfold Fb Oper.wp;simp only[h10];go_simp
     exact⟨_,by simp only[Fb,Ja];simp[Act.put,h10],rfl,Br⟩
    intro xs w1 hb hx;have h11:xs 11= .bool false:=hx 11 (by decide);clear hx;unfold Fb;simp only[h11];clear h11;have hbx:=hbel.trans (hb.mono hbel.size);have HBX:=Qd hbx;clear hb hbx;go_wp2_with fail
    go_roundw
    case rel=>exact⟨j+1,by omega,by go_num,HBX.out⟩
    case measure=>simp[intOf];omega
   go_wp2_with fail
   go_ret;exact⟨rfl,HWB.out.trans (hbel.mono HWS.out)⟩
end
section
open Go.RowKit Tr
theorem Fna:Dec:=λl ho hl=>by
 have:=Kl ho (show l.length<=1000 by omega);omega
theorem Vx {a:Tree}(hf:few a=true)(hr:right a=true):(Ia a).length<=90000000:=by
 have h1:=(Jw hf).2;have h2:all a=true:=by unfold right at hr;simp only[Bool.and_eq_true] at hr;exact hr.2
 have h3:=O8 Fna a h2;unfold Yz at h3;have h4:=Nat.mul_le_mul_left 30000 h1;omega
theorem Y5:∀C:List Int,(Tk.enc C).length<=4*C.length
 | []=>Nat.zero_le _
 |c::r=>by
  have h1:(Tk.enc1 c).length<=4:=by unfold Tk.enc1;rw[List.length_map,Gl.one_len];unfold Gl.wide;split<;>(try omega);split<;>(try omega);split<;>omega
  have h2:=Y5 r;have h3:(Tk.enc (c::r)).length=(Tk.enc1 c).length+(Tk.enc r).length:=by
   unfold Tk.enc;rw[List.flatMap_cons,List.length_append]
  rw[h3,List.length_cons];omega
theorem Uka {a:Tree}(hk:kind a=28)(hr:right a=true)(hd:Qe a=true)(hl:¬2000<(Gl.dec (⟨(Ia a).toArray⟩:ByteArray) 0).1.length):
 (Ia a).length<=10000/\Sd ⟨(Ia a).toArray⟩=some a:=by
 have ha:all a=true:=by unfold right at hr;simp only[Bool.and_eq_true] at hr;exact hr.2
 have hs:=Lx.shw_pc ha;have hm:=Lx.mays _ a (Nat.lt_succ_self _) ha;have hde:=Lx.dec_enc _ hm;have hB:(⟨(Ia a).toArray⟩:ByteArray)=Lx.B (Tk.enc (Lx.pcC (Lx.pc a))):=by rw[hs];rfl
 rw[hB,hde] at hl;have hl2:(Lx.pcC (Lx.pc a)).length<=2000:=by simpa using hl
 obtain⟨-,T,h1,h2⟩:=Lx.line_again ha hk (Ax _ a (Nat.lt_succ_self _) ha hd) hl2;refine⟨?_,?_⟩
 ·have:=Y5 (Lx.pcC (Lx.pc a))
  rw[hs] at this;omega
 unfold Sd;have h1':Tk.cut (⟨(Ia a).toArray⟩:ByteArray)=(T,0,0):=h1;rw[h1',if_pos rfl,h2];show(if right a=true then some a else none)=some a;rw[if_pos hr]
theorem Ys (a:Tree)(C:Array Value)(w:World)(h:IsTree w w.heap.size a C.toList)(hp:Pow10 w):
 Calls Tryz.prog 6 #[.agg C] w λe w'=>e= .returned (.bool true)/\Below w.heap.size w w':=by
 obtain⟨vs,rfl⟩:∃vs:List Value,C=vs.toArray:=⟨C.toList,by simp⟩;rw[show vs.toArray.toList=vs from rfl] at h;obtain⟨k,hk0⟩:∃k,k=kind a:=⟨_,rfl⟩;obtain⟨W,hW⟩:∃W,W=w.alloc (.cells vs.toArray 28):=⟨_,rfl⟩;have hcell:W.cell? ⟨w.heap.size,0,none⟩=some (.int .i64 k)/\w.heap.size<W.heap.size/\Below w.heap.size w W:=by
  obtain⟨k',o,m,nm,t,l⟩:=a;obtain⟨A1,A2,A3,A4,c1,c2,c3,c4,us,HO,HL,HC,hW8,HG,hWl,hWb⟩:=Vb h hW;exact⟨by rw[hk0];exact hW8.p0,hWl,hWb⟩
 obtain⟨hc0,hWl,hWb⟩:=hcell;have HC0:Hid (∀wx,Below W.heap.size W wx->wx.cell? ⟨w.heap.size,0,none⟩=some (.int .i64 k)):=Qd (λwx hx=>(hx.cell (p:=⟨w.heap.size,0,none⟩) hWl).trans hc0);have HG:Hid (∀wx,Below W.heap.size W wx->wx.heap[w.heap.size]? =some (.cells vs.toArray 28 (0,0))):=Qd (λwx hx=>(hx.block _ hWl).trans (by rw[hW];exact heap_alloc_new w _));have HT:Hid (∀wx,Below W.heap.size W wx->IsTree wx w.heap.size a vs):=Qd (λwx hx=>h.below (hWb.trans (hx.mono (by omega))));have HSB:Hid (∀wx,Below W.heap.size W wx->w.heap.size<=wx.heap.size):=Qd (λwx hx=>by have:=hx.size;omega);have HPW:Hid (∀wx,Below W.heap.size W wx->Pow10 wx):=Qd (λwx hx=>hp.below (hWb.trans (hx.mono (by omega))));have FE:=Qd (Cga a vs W w.heap.size (HT.out W Br) (by omega));have HIA:=Qd (Cb h);have RI:=Qd (λwx hx (hf:few a=true)=>Q7 a vs wx w.heap.size (HT.out wx hx) (HSB.out wx hx) (by have:=(Jw hf).2;omega));have DG:=Qd (λwx hx=>Tka _ a vs wx w.heap.size (Nat.lt_succ_self _) (HT.out wx hx) (HSB.out wx hx));have UL:=Qd (λwx hx (hf:few a=true)=>Gv a vs wx w.heap.size (HT.out wx hx) (HSB.out wx hx) (HPW.out wx hx) (λhr=>by have:=Vx hf hr;omega));have AW:=Qd (λwx hx=>V7 wx (HPW.out wx hx));have SM:=Qd (λus wx B hx (hy:IsTree wx B a us) (hB:B<=wx.heap.size) (hW:w.heap.size<=B)=>Mda _ a vs us wx B (Nat.lt_succ_self _) ((HT.out wx hx).more hW) hy hB);have HL:Hid (right a=true->Es a=Ia a):=Qd (λh=>by unfold Es;rw[if_pos h]);have BL:=Qd (λhk hr hd hl=>Uka (a:=a) hk hr hd hl);have SZ:=Qd (λhf hr=>Vx (a:=a) hf hr);have HWB:=Qd hWb;have HWS:Hid (w.heap.size<=W.heap.size):=Qd (by omega);have HW:=Qd hW;have HK:=Qd hk0;have END:Hid (∀w3 w4,Below W.heap.size W w3->Below w3.heap.size w3 w4->Below w.heap.size w w4):=Qd (λw3 w4 h1 h2=>HWB.out.trans ((h1.trans (h2.mono h1.size)).mono HWS.out));clear hW hWb hc0 h hp hk0;go_enter Tryz.func6,Tryz.ntmps6
 go_upto_region 1 with fail
 rw[<-HW.out];go_wp2_with (with_reducible refine Wh (.tmp 1) rfl rfl w.heap.size rfl (HG.out _ Br) HIA.out ?_)
 refine FE.out.mono ?_;rintro e w2 ⟨rfl,hb2⟩;have q0:=HC0.out w2 hb2;cases hx:few a
 ·replace hx:=Qd hx
  go_wp2_with fail
  refine(AW.out _ hb2).mono ?_;rintro e w9 ⟨rfl,hb9⟩;go_wp2_with fail
  go_ret;exact⟨rfl,END.out _ _ hb2 hb9⟩
 replace RI:=Qd (RI.out w2 hb2 hx);replace UL:=Qd (λwx hy=>UL.out wx hy hx);replace SZ:=Qd (SZ.out hx);replace hx:=Qd hx;by_cases hk:k=28
 ·subst hk
  go_wp2_with (first|(refine Kx (.tmp 1) rfl rfl w.heap.size rfl (HG.out _ hb2) HIA.out ?_) |(with_reducible refine Wh (.tmp 1) rfl rfl w.heap.size rfl (HG.out _ hb2) HIA.out ?_))
  refine RI.out.mono ?_;rintro e w3 ⟨rfl,hb3'⟩;have hb3:=hb2.trans (hb3'.mono hb2.size);clear hb3' q0;cases hr:right a
  ·replace hr:=Qd hr
   go_wp2_with fail
   refine(AW.out _ hb3).mono ?_;rintro e w9 ⟨rfl,hb9⟩;go_wp2_with fail
   go_ret;exact⟨rfl,END.out _ _ hb3 hb9⟩
  replace HL:=Qd (HL.out hr);replace SZ:=Qd (SZ.out hr);replace BL:=Qd (λhd hl=>BL.out HK.out.symm hr hd hl);replace hr:=Qd hr;have DG3:=Qd (DG.out w3 hb3);go_wp2_with (first|(refine Kx (.tmp 1) rfl rfl w.heap.size rfl (HG.out _ hb3) HIA.out ?_) |(with_reducible refine Wh (.tmp 1) rfl rfl w.heap.size rfl (HG.out _ hb3) HIA.out ?_))
  refine DG3.out.mono ?_;rintro e w4 ⟨rfl,hb4'⟩;have hb4:=hb3.trans (hb4'.mono hb3.size);clear hb4';cases hd:Qe a
  ·replace hd:=Qd hd
   go_wp2_with fail
   refine(AW.out _ hb4).mono ?_;rintro e w9 ⟨rfl,hb9⟩;go_wp2_with fail
   go_ret;exact⟨rfl,END.out _ _ hb4 hb9⟩
  replace BL:=Qd (BL.out hd);replace hd:=Qd hd;go_wp2_with (first|(refine Kx (.tmp 1) rfl rfl w.heap.size rfl (HG.out _ hb4) HIA.out ?_) |(with_reducible refine Wh (.tmp 1) rfl rfl w.heap.size rfl (HG.out _ hb4) HIA.out ?_))
  refine(UL.out w4 hb4).mono ?_;rintro e w5 ⟨rfl,hb5'⟩;have hb5:=hb4.trans (hb5'.mono hb4.size);clear hb5';rw[HL.out];have LG:=Qd (Oha ⟨(Ia a).toArray⟩ w5 (by have:=SZ.out;show(Ia a).length<=_;omega));have LN:=Qd (λ(h:(Ia a).length<=10000) wx=>Kka ⟨(Ia a).toArray⟩ h wx);generalize Ia a=S at*;go_wp2_with fail
  refine LG.out.mono ?_;rintro e w6 ⟨rfl,hb6'⟩;have hb6:=hb5.trans (hb6'.mono hb5.size);clear hb6';cases hlg:decide (2000<(Gl.dec (⟨S.toArray⟩:ByteArray) 0).1.length)
  ·replace BL:=Qd (BL.out (of_decide_eq_false hlg))
   replace LN:=Qd (LN.out BL.out.1 w6);replace hlg:=Qd hlg;go_wp2_with fail
   refine LN.out.mono ?_;rintro e w7 ⟨hb7',hres⟩;have hb7:=hb6.trans (hb7'.mono hb6.size);clear hb7';rcases hres with⟨t,y,hgl,rfl,hT⟩ |⟨hn,-⟩
   ·rw[BL.out.2] at hgl
    injection hgl with hgl
    subst hgl;obtain⟨w8,hw8⟩:∃w8,w8=w7.alloc (.cells #[.int .i64 y.k,.int .i64 y.o,.string ⟨y.m.toArray⟩,.bool y.g,.slice y.A1 y.n1 y.c1,.slice y.A2 y.n2 y.c2,.slice y.A3 y.n3 y.c3,.slice y.A4 y.n4 y.c4] 28):=⟨_,rfl⟩;have hb8':Below w7.heap.size w7 w8:=by rw[hw8];exact Br.alloc Lr _
    have hb8:=hb7.trans (hb8'.mono hb7.size);have Y8:w8.heap[w7.heap.size]? =some (.cells #[.int .i64 y.k,.int .i64 y.o,.string ⟨y.m.toArray⟩,.bool y.g,.slice y.A1 y.n1 y.c1,.slice y.A2 y.n2 y.c2,.slice y.A3 y.n3 y.c3,.slice y.A4 y.n4 y.c4] 28 (0,0)):=by rw[hw8];exact heap_alloc_new w7 _
    have SM8:Hid (Calls Tryz.prog 15 #[.agg vs.toArray,.agg #[.int .i64 y.k,.int .i64 y.o,.string ⟨y.m.toArray⟩,.bool y.g,.slice y.A1 y.n1 y.c1,.slice y.A2 y.n2 y.c2,.slice y.A3 y.n3 y.c3,.slice y.A4 y.n4 y.c4]] w8 (La w8 true)):=Qd (SM.out y.l w8 w7.heap.size hb8 (hT.below hb8') hb8'.size (HSB.out _ hb7));have HW8:=Qd hw8;have HB8:=Qd hb8;have HG8:=Qd (HG.out _ hb8);have HY8:=Qd Y8;clear hT hw8 hb8' Y8 hb7 hb8 hb6 hb5 hb4 hb3 hb2;go_upto_region 7 with fail
    rw[<-HW8.out];go_wp2_with (first|(refine Kx (.tmp 1) rfl rfl w.heap.size rfl HG8.out HIA.out ?_) |(refine Kx (.tmp 4) rfl rfl w7.heap.size rfl HY8.out (by kernel_rfl) ?_))
    refine SM8.out.mono ?_;rintro e w10 ⟨rfl,hb10'⟩;have hb10:=HB8.out.trans (hb10'.mono HB8.out.size);clear hb10';go_wp2_with fail
    refine(AW.out _ hb10).mono ?_;rintro e w9 ⟨rfl,hb9⟩;go_wp2_with fail
    go_ret;exact⟨rfl,END.out _ _ hb10 hb9⟩
   rw[BL.out.2] at hn;cases hn
  replace hlg:=Qd hlg;go_wp2_with fail
  refine(AW.out _ hb6).mono ?_;rintro e w9 ⟨rfl,hb9⟩;go_wp2_with fail
  go_ret;exact⟨rfl,END.out _ _ hb6 hb9⟩
 have ek:(k !=28)=true:=by simp[hk]
 replace hk:=Qd hk;go_wp2_with fail
 refine(AW.out _ hb2).mono ?_;rintro e w9 ⟨rfl,hb9⟩;go_wp2_with fail
 go_ret;exact⟨rfl,END.out _ _ hb2 hb9⟩
end
end Go.Proofs.YtceplkpjnebnfaaGreatDoor
