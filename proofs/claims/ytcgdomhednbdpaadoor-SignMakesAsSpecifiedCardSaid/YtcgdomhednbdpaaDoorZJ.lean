/- Part 10 of the proof of SignMakesAsSpecified (several texts in one; no further condition). -/
import Derived.Test.YtcgdomhednbdpaaDoorZI
set_option linter.unusedSimpArgs false
set_option linter.unusedVariables false
set_option linter.unusedSectionVars false
namespace Go.Proofs.YtcgdomhednbdpaaDoor
section
open Go Go.RowKit
set_option maxRecDepth 100000
theorem z32 (k:Nat) (d:Dg):∀ (n i m:Nat) (a:List Int) (c:Nat),i+n=16→n<m→c≤i→zd6 k d m (i:Int) a c=some (a++d.l.drop i,c+n)
  |0,i,m+1,a,c,h1,h2,h3=>by
    rw [zd6,if_neg (by omega),List.drop_eq_nil_of_le (by rw [d.h];omega),List.append_nil];rfl
  |n+1,i,m+1,a,c,h1,h2,h3=>by
    have hi:i<d.l.length:=by rw [d.h];omega
    have hg:gx d.l (i:Int)=d.l[i]:=by show d.l.getD i default=_;rw [List.getD_eq_getElem?_getD,List.getElem?_eq_getElem hi];rfl
    rw [zd6,if_pos (by omega),if_pos (by omega),if_pos (by omega),wi (by omega),show (i:Int)+1=((i+1:Nat):Int) by omega,z32 k d n (i+1) m _ (c+1) (by omega) (by omega) (by omega),List.drop_eq_getElem_cons hi,hg,List.append_assoc,show c+1+n=c+(n+1) by omega];rfl
theorem znz (k:Nat) (d:Dg):ze7 (k+20) d=some (strL d.l):=by
  unfold ze7;have:=z32 (k+20) d 16 0 (k+20) [] 0 rfl (by omega) (by omega);rw [show ((0:Nat):Int)=0 from rfl] at this;rw [this,Option.bind_some,List.nil_append,List.drop_zero,if_pos (by rw [d.h])]
theorem yck {s:ByteArray} (hs:16≤s.size) {j:Nat} (hj:j<16):gx (cpA (zA 16) s).l (j:Int)=((bx s (j:Int)).toNat:Int):=by
  have hl:s.data.toList.length=s.size:=Array.length_toList;show ((bytL s).take (min s.size 16)++(zA 16).l.drop (min s.size 16)).getD j default=_;rw [show min s.size 16=16 by omega,List.getD_eq_getElem?_getD,List.getElem?_append_left (by rw [List.length_take,zk1];omega),List.getElem?_take_of_lt hj];unfold bytL;rw [List.getElem?_map,List.getElem?_eq_getElem (by omega)];show _=((s.data.toList.getD j 0).toNat:Int);rw [List.getD_eq_getElem?_getD,List.getElem?_eq_getElem (by omega)];rfl
theorem z91 (k:Nat) {s:ByteArray} (hs:16≤s.size):∀ (n i m:Nat) (x:Dg),i+n=16→n<m→(∀ j:Nat,j<i→gx x.l (j:Int)=gx (cpA (zA 16) s).l (j:Int))→zco k s m (i:Int) x=some (cpA (zA 16) s)
  |0,i,m+1,x,h1,h2,h3=>by
    rw [zco,if_neg (by omega)];congr 1;exact Ar.ext_gx fun j hj=>h3 j (by omega)
  |n+1,i,m+1,x,h1,h2,h3=>by
    rw [zco,if_pos (by omega),if_pos (by omega),if_pos (by omega),wi (by omega),show (i:Int)+1=((i+1:Nat):Int) by omega];refine z91 k hs n (i+1) m _ (by omega) (by omega) fun j hj=>?_;rw [zex _ _ (by omega) (by omega)];by_cases hij:(i:Int)=(j:Int)
    · rw [if_pos hij];have:i=j:=by omega
      subst this;rw [yck hs (by omega)]
    · rw [if_neg hij];exact h3 j (by omega)
theorem z67 (k:Nat) {s:ByteArray} (hs:16≤s.size):zi0 (k+20) s=some (cpA (zA 16) s):=by
  unfold zi0;have:=z91 (k+20) hs 16 0 (k+20) (zA 16) rfl (by omega) (fun j hj=>absurd hj (by omega));rw [show ((0:Nat):Int)=0 from rfl] at this;rw [this];rfl
theorem zqw (k:Nat) (l:List Int) (f:Nat→List Int) (hf:∀ j:Nat,j<l.length→zhj k (gx l (j:Int))=some (f j)∧(f j).length≤100) (hl:l.length≤1000):∀ (n i m:Nat) (a:List Int) (c:Nat),i+n=l.length→n<m→c≤1000+100*i→a.length=c→zdc k l m (i:Int) a c=some (a++catL f i n,c+(catL f i n).length)
  |0,i,m+1,a,c,h1,h2,h3,h4=>by
    rw [zdc,if_neg (by omega)]
    simp [catL]
  |n+1,i,m+1,a,c,h1,h2,h3,h4=>by
    have hi:=hf i (by omega);rw [zdc,if_pos (by omega),if_pos (by omega),hi.1];simp only [Option.bind_some];rw [if_pos (by omega),wi (by omega)];by_cases h0:(f i).length=0
    · rw [if_pos h0];have e:f i=[]:=List.eq_nil_of_length_eq_zero h0;have:=zqw k l f hf hl n (i+1) m a c (by omega) (by omega) (by omega) h4;rw [show catL f i (n+1)=catL f (i+1) n by show f i++_=_;rw [e];rfl];exact this
    · rw [if_neg h0];have:=zqw k l f hf hl n (i+1) m (a++f i) (c+(f i).length) (by omega) (by omega) (by omega) (by rw [List.length_append,h4]);rw [show ((i:Int)+1)=((i+1:Nat):Int) by omega,this];show some (a++f i++catL f (i+1) n,_)=some (a++(f i++catL f (i+1) n),c+(f i++catL f (i+1) n).length);rw [List.append_assoc,List.length_append,Nat.add_assoc]
theorem ygg (k:Nat) {a b:Nat} (ha:a<64) (hb:b<64):zgv (k+10) [(a:Int),(b:Int)]=some [4,2*(a:Int),2*(b:Int)]:=by
  unfold zgv;rw [show (([(a:Int),(b:Int)]:List Int).length:Int)=((2:Nat):Int) from rfl,zr8 (k+9) (by omega)];simp only [Option.bind_some]
  have:=zqw (k+10) [(a:Int),(b:Int)] (fun j=>[2*gx [(a:Int),(b:Int)] (j:Int)]) (fun j hj=>by
    have:j=0∨j=1:=by simp only [List.length_cons,List.length_nil] at hj;omega
    rcases this with rfl|rfl
    · exact ⟨zir (k+9) ha,by simp⟩
    · exact ⟨zir (k+9) hb,by simp⟩) (by simp) 2 0 (k+10) [2*((2:Nat):Int)] 1 rfl (by omega) (by omega) rfl
  rw [show ((0:Nat):Int)=0 from rfl] at this;rw [this];simp only [Option.bind_some];rw [if_pos (by rfl)];rfl
theorem ykz (k:Nat) {a b c:Nat} (ha:a<64) (hb:b<64) (hc:c<64):zgv (k+10) [(a:Int),(b:Int),(c:Int)]=some [6,2*(a:Int),2*(b:Int),2*(c:Int)]:=by
  unfold zgv;rw [show (([(a:Int),(b:Int),(c:Int)]:List Int).length:Int)=((3:Nat):Int) from rfl,zr8 (k+9) (by omega)];simp only [Option.bind_some]
  have:=zqw (k+10) [(a:Int),(b:Int),(c:Int)] (fun j=>[2*gx [(a:Int),(b:Int),(c:Int)] (j:Int)]) (fun j hj=>by
    have:j=0∨j=1∨j=2:=by simp only [List.length_cons,List.length_nil] at hj;omega
    rcases this with rfl|rfl|rfl
    · exact ⟨zir (k+9) ha,by simp⟩
    · exact ⟨zir (k+9) hb,by simp⟩
    · exact ⟨zir (k+9) hc,by simp⟩) (by simp) 3 0 (k+10) [2*((3:Nat):Int)] 1 rfl (by omega) (by omega) rfl
  rw [show ((0:Nat):Int)=0 from rfl] at this;rw [this];simp only [Option.bind_some];rw [if_pos (by rfl)];rfl
theorem zyy (k:Nat) {i j:Nat} (hi:i<64) (hj:j<64) (to':Nat) (hto:to'≤15):∀ (n t m:Nat) (x:Dg),t+n=to'+1→n<m→zda (k+20) (i:Int) (j:Int) (to':Int) m (t:Int) x=some (zdm i j t n x)
  |0,t,m+1,x,h1,h2=>by
    rw [zda,if_neg (by omega)];rfl
  |n+1,t,m+1,x,h1,h2=>by
    rw [zda,if_pos (by omega),ykz (k+10) hi hj (show t<64 by omega)];simp only [Option.bind_some];rw [znz];simp only [Option.bind_some];rw [yku _ _ (by rw [zck];simp) (zl0 _)];simp only [Option.bind_some];rw [wi (by omega)];exact zyy k hi hj to' hto n (t+1) m _ (by omega) (by omega)
theorem zyx (k:Nat) {i j:Nat} (hi:i<64) (hj:j<64) {fr to':Nat} (h:fr≤to') (hto:to'≤15) (v:Dg):zio (k+30) (i:Int) (j:Int) v (fr:Int) (to':Int)=some (zdm i j (fr+1) (to' - fr) v):=by
  unfold zio;rw [wi (by omega)];have:=zyy (k+10) hi hj to' hto (to' - fr) (fr+1) (k+30) v (by omega) (by omega);rw [show ((fr+1:Nat):Int)=(fr:Int)+1 by omega] at this;rw [this];rfl
theorem yay (a b:ByteArray):(macS a b).size=32:=by
  unfold macS;have h:=zq3 a.data.toList b.data.toList;generalize macB a.data.toList b.data.toList=L at h ⊢;show L.toArray.size=32;rw [List.size_toArray];exact h
theorem yjo {s:ByteArray} (hs:16≤s.size):cpA (zA 16) (s.extract 0 16)=cpA (zA 16) s:=by
  have hz:(s.extract 0 16).size=16:=by rw [ByteArray.size_extract];omega
  refine Ar.ext_gx fun j hj=>?_;rw [yck (by omega) hj,yck hs hj];have hl:s.data.toList.length=s.size:=Array.length_toList
  have h1:(s.extract 0 16).data.toList=s.data.toList.take 16:=by
    rw [ByteArray.data_extract,Array.toList_extract];simp
  show ((((s.extract 0 16).data.toList).getD j 0).toNat:Int)=(((s.data.toList).getD j 0).toNat:Int);rw [h1,List.getD_eq_getElem?_getD,List.getElem?_take_of_lt hj,← List.getD_eq_getElem?_getD]
theorem yd6 (k:Nat) {a b:ByteArray} (ha:a.size≤4000) (hb:b.size≤4000):zye k a b=some (macS a b):=if_pos ⟨ha,hb⟩
theorem zyt (k:Nat) {seed:ByteArray} (hs:seed.size≤4000) {i j:Nat} (hi:i<64) (hj:j<64):zin (k+20) seed (i:Int) (j:Int)=some (zg4 seed i j):=by
  have e:=yd6 (k+20) hs (b:=strL [4,2*(i:Int),2*(j:Int)]) (by rw [zck];simp);have hz:=yay seed (strL [4,2*(i:Int),2*(j:Int)]);have e2:=ygg (k+10) hi hj;have e4:zg4 seed i j=cpA (zA 16) (macS seed (strL [4,2*(i:Int),2*(j:Int)])):=rfl;rw [e4];generalize macS seed (strL [4,2*(i:Int),2*(j:Int)])=M at *;unfold zin;rw [e2];simp only [Option.bind_some];rw [e];simp only [Option.bind_some];rw [if_pos (by omega),show (16:Int).toNat=16 from rfl,z67 _ (by rw [ByteArray.size_extract];omega),Option.bind_some,yjo (by omega)]
theorem zzl (f:Nat→Dg):∀ (n i:Nat),(mapR f i n).flatMap (fun d=>d.l)=catL (fun j=>(f j).l) i n
  |0,i=>rfl
  |n+1,i=>by
    show (f i :: mapR f (i+1) n).flatMap _=_;rw [List.flatMap_cons,zzl f n (i+1)];rfl
theorem z40 {α:Type} {f:Nat→α} {P:α→Prop} (h:∀ j,P (f j)):∀ (n i:Nat),∀ d∈mapR f i n,P d
  |n+1,i,d,hd=>by
    rcases List.mem_cons.1 hd with rfl|hd
    · exact h i
    · exact z40 h n (i+1) d hd
theorem yed (k:Nat) (f:Nat→Dg) (hf:∀ j,∀ x∈(f j).l,0≤x∧x<256):zlk k (mapR f 0 35)=some (ztq f):=by
  unfold zlk;have hl:(mapR f 0 35).length=35:=zew f 35 0
  have e:digB (mapR f 0 35)=[70]++catL (fun j=>(f j).l) 0 35:=by
    unfold digB;rw [hl,zzl];rfl
  rw [show yd9 k (mapR f 0 35)=some (digB (mapR f 0 35)) from if_pos ⟨by omega,by omega,z40 (f:=f) (P:=fun d:Dg=>∀ x∈d.l,0≤x∧x<256) hf 35 0⟩,Option.bind_some,e,ykv _ _ (by rw [zck];exact z0z f)];rfl
theorem yeb (k:Nat) {level n:Nat} (h1:level<64) (h2:n<64) (a b:Dg):zlj (k+20) (level:Int) (n:Int) a b=some (zss level n a b):=by
  have e:=yd4 (k+20) 2 (a:=strL [4,2*(level:Int),2*(n:Int)]) (b:=strL a.l) (c:=strL b.l) (by rw [zck];simp) (zl0 a) (zl0 b);have e2:=ygg (k+10) h1 h2;have e3:∀ x:Dg,ze7 (k+20) x=some (strL x.l):=fun x=>znz k x;have e4:zss level n a b=ofD 2 [strL [4,2*(level:Int),2*(n:Int)],strL a.l,strL b.l]:=rfl;rw [e4];generalize ofD 2 [strL [4,2*(level:Int),2*(n:Int)],strL a.l,strL b.l]=D at *;unfold zlj;rw [e2];simp only [Option.bind_some,e3,e]
theorem zyn (k:Nat) {seed:ByteArray} (hs:seed.size≤4000) {p:Nat} (hp:p<64):∀ (n j m:Nat) (a:List Dg) (c:Nat),j+n=35→n<m→c≤j→zc9 (k+100) seed (p:Int) m (j:Int) a c=some (a++mapR (fun j=>zdm p j 1 15 (zg4 seed p j)) j n,c+n)
  |0,j,m+1,a,c,h1,h2,h3=>by
    rw [zc9,if_neg (by omega)]
    simp [mapR]
  |n+1,j,m+1,a,c,h1,h2,h3=>by
    have e:=zyx (k+70) hp (show j<64 by omega) (fr:=0) (to':=15) (by omega) (by omega) (zg4 seed p j);rw [show ((0:Nat):Int)=0 from rfl,show ((15:Nat):Int)=15 from rfl] at e;rw [zc9,if_pos (by omega),zyt (k+80) hs hp (by omega),Option.bind_some,e,Option.bind_some,if_pos (by omega),wi (by omega),show (j:Int)+1=((j+1:Nat):Int) by omega,zyn k hs hp n (j+1) m _ (c+1) (by omega) (by omega) (by omega),List.append_assoc,show c+1+n=c+(n+1) by omega];rfl
theorem zwa (k:Nat) {seed:ByteArray} (hs:seed.size≤4000):∀ (l m n:Nat),l<m→(n+1)*2 ^ l≤64→zd2 (k+100) m seed (l:Int) (n:Int)=some (valF seed l n)
  |0,m+1,n,h1,h2=>by
    have hn:n<64:=by rw [Nat.pow_zero] at h2;omega
    have e:=zyn k hs hn 35 0 (k+100) [] 0 rfl (by omega) (by omega);rw [show ((0:Nat):Int)=0 from rfl] at e;rw [zd2,if_neg (by omega),e,Option.bind_some,List.nil_append];dsimp only;rw [if_pos (by rw [zew]),yed (k+100) (fun j=>zdm n j 1 15 (zg4 seed n j)) fun j=>zpj _ _ _ _ _ (ycl _)];rfl
  |l+1,m+1,n,h1,h2=>by
    have hp:1≤2 ^ l:=Nat.one_le_two_pow
    have h2':(2*n+1+1)*2 ^ l≤64:=by
      have:(n+1)*2 ^ (l+1)=(2*n+1+1)*2 ^ l:=by rw [Nat.pow_succ,Nat.mul_comm (2 ^ l) 2,← Nat.mul_assoc];congr 1;omega
      omega
    have hq:(2*n+1+1)*1≤(2*n+1+1)*2 ^ l:=Nat.mul_le_mul_left _ hp
    have hl:l<64:=by
      have:l<2 ^ l:=Nat.lt_two_pow_self;have:1*2 ^ l≤(2*n+1+1)*2 ^ l:=Nat.mul_le_mul_right _ (by omega);omega
    have a1:=zwa k hs l m (2*n) (by omega) (Nat.le_trans (Nat.mul_le_mul_right _ (by omega)) h2');have a2:=zwa k hs l m (2*n+1) (by omega) h2'
    have hl2:l+1<64:=by
      by_cases h:l=63
      · subst h;omega
      · omega
    rw [zd2,if_pos (by omega),wi (show _∧((l+1:Nat):Int) - 1≤_ by omega),wi (show _∧2*(n:Int)≤_ by omega),wi (show _∧2*(n:Int)+1≤_ by omega),show ((l+1:Nat):Int) - 1=(l:Int) by omega,show 2*(n:Int)+1=((2*n+1:Nat):Int) by omega,show 2*(n:Int)=((2*n:Nat):Int) by omega,a1,Option.bind_some,a2,Option.bind_some,yeb (k+80) hl2 (by omega),Option.bind_some];rfl
theorem zym (k:Nat) {seed:ByteArray} (hs:seed.size≤4000) {l n:Nat} (hl:l≤6) (h2:(n+1)*2 ^ l≤64):zme (k+100) seed (l:Int) (n:Int)=some (valF seed l n):=zwa k hs l (k+100) n (by omega) h2
theorem zmh (k:Nat) {seed:ByteArray} (hs:seed.size≤4000) {h:Nat} (hh:h≤6):zdj (k+100) seed (h:Int)=some (valF seed h 0,0):=by
  have hp:=zfu hh;have e:=zym k hs hh (n:=0) (by omega);rw [show ((0:Nat):Int)=0 from rfl] at e;unfold zdj;rw [zn1 (k+80) h hh,Option.bind_some,if_neg (by omega),e];rfl
theorem zum (k:Nat) (seed:ByteArray) {h:Int} (hh:h<0∨6<h):zdj k seed h=some (zA 16,1):=by
  unfold zdj;rw [zyv k hh,Option.bind_some,if_pos rfl]
def msgG (pub:Dg) (i:Int) (m:ByteArray):Dg:=ofD 3 [strL pub.l,strL (encI i),m]
theorem z7b (pub:Dg) {i:Nat} (hi:i<64) (m:ByteArray):msgG pub (i:Int) m=msgF pub i m:=by
  unfold msgG msgF;rw [z7h hi]
theorem z4x (k:Nat) (pub:Dg) {i:Int} (h1:-9223372036854775808≤i) (h2:i≤9223372036854775807) {m:ByteArray} (hm:m.size≤4000):zb2 (k+20) pub i m=some (msgG pub i m)∧zd5 (k+20) pub i m=some (msgG pub i m):=by
  have e:=yd4 (k+20) 3 (a:=strL pub.l) (b:=strL (encI i)) (c:=m) (zl0 pub) (by rw [zck];have:=yfe h1 h2;omega) hm;have e2:=ye5 k i h1 h2;have e4:msgG pub i m=ofD 3 [strL pub.l,strL (encI i),m]:=rfl;rw [e4];generalize ofD 3 [strL pub.l,strL (encI i),m]=D at *;constructor
  · unfold zb2;rw [show zem (k+20) pub=some (strL pub.l) from rfl];simp only [Option.bind_some,e2.1,e]
  · unfold zd5;rw [znz];simp only [Option.bind_some,e2.2,e]
theorem yiu (k:Nat) (pub:Dg) {i:Nat} (hi:i<64) {m:ByteArray} (hm:m.size≤4000):zd5 (k+20) pub (i:Int) m=some (msgF pub i m):=by
  rw [← z7b pub hi m];exact (z4x k pub (by omega) (by omega) hm).2
theorem z3e (a b:List Int):strL a++strL b=strL (a++b):=by
  apply ByteArray.ext;rw [ByteArray.data_append];show (a.map u8o).toArray++(b.map u8o).toArray=((a++b).map u8o).toArray;rw [List.map_append];simp
theorem z34 (k:Nat) {seed:ByteArray} (hs:seed.size≤4000) {i:Nat} (hi:i<64) (D:Ar 16) (hD:Byt D):∀ (n j m:Nat) (a:List Int),j+n=35→n<m→a.length≤10+16*j→zd4 (k+100) seed (i:Int) (digA D) m (strL a) (j:Int)=some (strL (a++catL (fun j=>(sgB seed i D j).l) j n))
  |0,j,m+1,a,h1,h2,h3=>by
    rw [zd4,if_neg (by omega)]
    simp [catL]
  |n+1,j,m+1,a,h1,h2,h3=>by
    have hd:=z5y hD (show j<35 by omega);have e:=zyx (k+70) hi (show j<64 by omega) (fr:=0) (Nat.zero_le _) hd.1 (zg4 seed i j);rw [show ((0:Nat):Int)=0 from rfl,Nat.zero_add,Nat.sub_zero] at e;have eB:sgB seed i D j=zdm i j 1 (dgN D j) (zg4 seed i j):=if_pos (by omega);rw [zd4,if_pos (by omega),zyt (k+80) hs hi (by omega),Option.bind_some,if_pos (by omega),hd.2,e,Option.bind_some,znz (k+80),Option.bind_some,← eB];have hz:(sgB seed i D j).l.length=16:=(sgB seed i D j).h;rw [if_pos (by rw [zck,zck,hz];omega),z3e,wi (by omega),show (j:Int)+1=((j+1:Nat):Int) by omega,z34 k hs hi D hD n (j+1) m _ (by omega) (by omega) (by rw [List.length_append,hz];omega),List.append_assoc];rfl
theorem z33 (k:Nat) {seed:ByteArray} (hs:seed.size≤4000) {h i:Nat} (hh:h≤6) (hi:i<2 ^ h) (D:Ar 16):∀ (n l m:Nat) (a:List Int),l+n=h→n<m→a.length≤1000+16*l→zd3 (k+100) seed (h:Int) m (strL a) ((i / 2 ^ l:Nat):Int) (l:Int)=some (strL (a++catL (fun j=>(sgB seed i D j).l) (35+l) n))
  |0,l,m+1,a,h1,h2,h3=>by
    rw [zd3,if_neg (by omega)]
    simp [catL]
  |n+1,l,m+1,a,h1,h2,h3=>by
    have hp:=zfu hh;have hq:i / 2 ^ l<64:=Nat.lt_of_le_of_lt (Nat.div_le_self _ _) (by omega);have hlt:=yf2 ⟨h,by omega⟩ ⟨i,by omega⟩ ⟨l,by omega⟩ hi (by simp only;omega);simp only at hlt
    have hv:(sib i l+1)*2 ^ l≤64:=by
      have h3:(sib i l+1)*2 ^ l≤2 ^ (h - l)*2 ^ l:=Nat.mul_le_mul_right _ hlt;rw [← Nat.pow_add,show h - l+l=h by omega] at h3;omega
    have es:(if ((i / 2 ^ l:Nat):Int) % 2=1 then some (IntKind.i64.wrap (((i / 2 ^ l:Nat):Int) - 1)) else some (IntKind.i64.wrap (((i / 2 ^ l:Nat):Int)+1)):Option Int)=some ((sib i l:Nat):Int):=by
      unfold sib;generalize i / 2 ^ l=q at hq ⊢;by_cases hb:q % 2=1
      · rw [if_pos (by omega),if_neg (by omega),wi (by omega)];congr 1;omega
      · rw [if_neg (by omega),if_pos (by omega),wi (by omega)];congr 1
    have eB:sgB seed i D (35+l)=valF seed l (sib i l):=by
      unfold sgB;rw [if_neg (by omega),show 35+l - 35=l by omega]
    have hz:(sgB seed i D (35+l)).l.length=16:=(sgB seed i D (35+l)).h
    have hd:((i / 2 ^ l:Nat):Int) / 2=((i / 2 ^ (l+1):Nat):Int):=by
      rw [Nat.pow_succ,← Nat.div_div_eq_div_mul];omega
    have hw:∀ q:Nat,q<64→IntKind.i64.wrap (q:Int)=q:=fun q h=>wi (by omega);have hq1:i / 2 ^ (l+1)<64:=Nat.lt_of_le_of_lt (Nat.div_le_self _ _) (by omega);rw [zd3,if_pos (by omega),if_pos ⟨Int.natCast_nonneg _,by decide⟩,es,Option.bind_some,zym k hs (by omega) hv,Option.bind_some,znz (k+80),Option.bind_some,← eB,if_pos (by rw [zck,zck,hz];omega),z3e,hd,hw _ hq1,wi (by omega),show (l:Int)+1=((l+1:Nat):Int) by omega,z33 k hs hh hi D n (l+1) m _ (by omega) (by omega) (by rw [List.length_append,hz];omega),List.append_assoc];rfl
theorem yea (k:Nat) {seed m:ByteArray} (hs:seed.size≤4000) (hm:m.size≤4000) {h i:Nat} (hh:h≤6) (hi:i<2 ^ h):ze6 (k+100) seed (h:Int) (i:Int) m=some (strL (sgL (sgB seed i (mdF seed h i m)) i (35+h)),0):=by
  have hp:=zfu hh;have hM:Byt (mdF seed h i m):=zq2 _ _ _;have e0:=z34 k hs (show i<64 by omega) (mdF seed h i m) hM 35 0 (k+100) [2*(i:Int)] (by omega) (by omega) (by simp);rw [show ((0:Nat):Int)=0 from rfl] at e0;have e1:=z33 k hs hh hi (mdF seed h i m) h 0 (k+100) ([2*(i:Int)]++catL (fun j=>(sgB seed i (mdF seed h i m) j).l) 0 35) (by omega) (by omega) (by rw [List.length_append,zon _ 16 _ _ fun j _ _=>(sgB seed i (mdF seed h i m) j).h];simp);rw [show ((0:Nat):Int)=0 from rfl,Nat.add_zero,Nat.pow_zero,Nat.div_one] at e1;have ec:=zxn (fun j=>(sgB seed i (mdF seed h i m) j).l) 35 0 h;rw [Nat.zero_add] at ec;unfold ze6;rw [zmh k hs hh,Option.bind_some,if_neg (by simp),if_neg (by omega),zn1 (k+80) h hh,Option.bind_some,Option.bind_some,if_neg (by rw [decide_eq_true_eq];omega),show k+100=(k+99)+1 from rfl,zir (k+99) (by omega),Option.bind_some,yiu (k+80) _ (by omega) hm,Option.bind_some,show msgF (valF seed h 0,(0:Int)).1 i m=mdF seed h i m from rfl,z66 (k+80) _ hM,Option.bind_some,e0,Option.bind_some,e1,Option.bind_some,List.append_assoc,ec];rfl
theorem z9u (k:Nat) (seed m:ByteArray) {h i:Int} (hh:h<0∨6<h):ze6 k seed h i m=some (⟨#[]⟩,1):=by
  unfold ze6;rw [zum k seed hh,Option.bind_some,if_pos (by simp)]
theorem z1z (k:Nat) {seed:ByteArray} (hs:seed.size≤4000) (m:ByteArray) {h:Nat} (hh:h≤6) {i:Int} (hi:i<0∨((2 ^ h:Nat):Int)≤i):ze6 (k+100) seed (h:Int) i m=some (⟨#[]⟩,14):=by
  unfold ze6;rw [zmh k hs hh,Option.bind_some,if_neg (by simp)];by_cases h0:i<0
  · rw [if_pos h0];rfl
  · rw [if_neg h0,zn1 (k+80) h hh];simp only [Option.bind_some];rw [if_pos (by rw [decide_eq_true_eq];omega)]
end
section
open Go Go.RowKit
set_option maxRecDepth 100000
def zcl (k:Nat) (seed:ByteArray) (height:Int) (index:Int) (message:ByteArray) (public_:Ar 16):Option Bool:=((zln k ).bind fun rsanity=>(((if 200<(seed.size:Int) then some true else (if 200<(message.size:Int) then some true else (if 2<height then some (decide (height≤6)) else some false))):Option Bool).bind fun s_=>(if s_=true then some rsanity else ((zb6 k seed height).bind fun rPublic=>((zdj k seed height).bind fun rPublic2=>((zcq k seed height index message).bind fun rSign=>((ze6 k seed height index message).bind fun rSign2=>(if rsanity=true then (if rPublic.1=rPublic2.1 then (if rPublic.2=rPublic2.2 then (if rSign.1=rSign2.1 then (if rSign.2=rSign2.2 then ((zb2 k public_ index message).bind fun rMessage=>((zd5 k public_ index message).bind fun rMessage2=>some (decide (rMessage=rMessage2)))) else some false) else some false) else some false) else some false) else some false))))))))
set_option maxHeartbeats 8000000 in
theorem zjd (ax:Axs) (hx:Pl ax) (k:Nat) (seed:ByteArray) (height:Int) (index:Int) (message:ByteArray) (public_:Ar 16) (v:Bool) (H:zcl k seed height index message public_=some v):Pure Tryd.prog (EE ax) GLs 4 [.str seed,.int .i64 height,.int .i64 index,.str message,.agg (public_.l.map (T.int .u8))] (.bool v):=by
 rw [zcl] at H;refine en [.tmp 10] 98 [0,1,2,3,4] (hx.no _ (by decide)) (fn4 ax) ?_;intro h hh;repeat apply TW.seq
 refine rk [0,1,2,3,9] [] hh ?_;clear hh h;intro h hh;obtain ⟨rsanity,e1,H⟩:=zak H;repeat apply TW.seq
 refine rkc [0,1,2,3,9,11] [] [(.bool rsanity,stL [.cells true 16 (public_.l.map (T.int .u8))])] hh ?_ ?_
 ·exact ⟨zax.call ((zyc ax hx k  rsanity e1 ).call _),trivial⟩
 clear hh h;intro h hh;obtain ⟨s_,H1,H⟩:=zak H;repeat apply TW.seq
 refine cu [0,1,2,3,9,11,36] 1 (fun h bs=>(h 0=.str seed∧h 1=.int .i64 height∧h 2=.int .i64 index∧h 3=.str message∧h 9=.ptr 0 0 16∧h 11=.bool rsanity∧h 36=.bool s_)∧bs=[.cells true 16 (public_.l.map (T.int .u8))]) ?_ ?_
 ·skip;rcases isp H1 with ⟨c2,H1⟩|⟨c2,H1⟩;rotate_left
  ·skip;rcases isp H1 with ⟨c3,H1⟩|⟨c3,H1⟩;rotate_left
   ·skip;rcases isp H1 with ⟨c4,H1⟩|⟨c4,H1⟩;rotate_left
    ·skip;repeat apply TW.seq
     refine rk [0,1,2,3,9,11,36] [] (f3 hh (decide_eq_false c2) (f2 (decide_eq_false c3) (decide_eq_false c4))) ?_;clear hh h;intro h hh;cases H1;exact ce hh ⟨kq hh,rfl⟩
    repeat apply TW.seq
    refine rk [0,1,2,3,9,11,36] [] (f3 hh (decide_eq_false c2) (f2 (decide_eq_false c3) (decide_eq_true c4))) ?_;clear hh h;intro h hh;cases H1;exact ce hh ⟨kq hh,rfl⟩
   repeat apply TW.seq
   refine rk [0,1,2,3,9,11,36] [] (f3 hh (decide_eq_false c2) (decide_eq_true c3)) ?_;clear hh h;intro h hh;cases H1;exact ce hh ⟨kq hh,rfl⟩
  repeat apply TW.seq
  refine rk [0,1,2,3,9,11,36] [] (f2 hh (decide_eq_true c2)) ?_;clear hh h;intro h hh;cases H1;exact ce hh ⟨kq hh,rfl⟩
 clear hh h;rintro h bs ⟨hh,rfl⟩;rcases isb H with ⟨c5,H⟩|⟨c5,H⟩;rotate_left
 ·skip;repeat apply TW.seq
  refine cf (f2 hh c5) ?_;repeat apply TW.seq
  refine sk ?_;obtain ⟨rPublic,e6,H⟩:=zak H;repeat apply TW.seq
  refine rkc [0,1,2,3,9,11,12,13] [] [(.tup [.agg (rPublic.1.l.map (T.int .u8)),.int .i64 rPublic.2],stL [.cells true 16 (public_.l.map (T.int .u8))])] (f2 hh c5) ?_ ?_
  ·exact ⟨zax.call (Pure.clr (ziz ax hx k seed height rPublic e6 ) (by first|rfl|simp only [c5])),trivial⟩
  clear hh h;intro h hh;obtain ⟨rPublic2,e7,H⟩:=zak H;repeat apply TW.seq
  refine rkc [0,1,2,3,9,11,12,13,14,15] [] [(.tup [.agg (rPublic2.1.l.map (T.int .u8)),.int .i64 rPublic2.2],stL [.cells true 16 (public_.l.map (T.int .u8)),.cells true 16 (rPublic.1.l.map (T.int .u8))])] (f2 hh c5) ?_ ?_
  ·exact ⟨zax.call (Pure.clr (zm0 ax hx k seed height rPublic2 e7 ) (by first|rfl|simp only [c5])),trivial⟩
  clear hh h;intro h hh;obtain ⟨rSign,e8,H⟩:=zak H;repeat apply TW.seq
  refine rkc [0,1,2,3,9,11,12,13,14,15,16,17] [] [(.tup [.str rSign.1,.int .i64 rSign.2],stL [.cells true 16 (public_.l.map (T.int .u8)),.cells true 16 (rPublic.1.l.map (T.int .u8)),.cells true 16 (rPublic2.1.l.map (T.int .u8))])] (f2 hh c5) ?_ ?_
  ·exact ⟨zax.call (Pure.clr (zkm ax hx k seed height index message rSign e8 ) (by first|rfl|simp only [c5])),trivial⟩
  clear hh h;intro h hh;obtain ⟨rSign2,e9,H⟩:=zak H;repeat apply TW.seq
  refine rkc [2,3,9,11,12,13,14,15,16,17,18,19] [] [(.tup [.str rSign2.1,.int .i64 rSign2.2],stL [.cells true 16 (public_.l.map (T.int .u8)),.cells true 16 (rPublic.1.l.map (T.int .u8)),.cells true 16 (rPublic2.1.l.map (T.int .u8))])] (f2 hh c5) ?_ ?_
  ·exact ⟨zax.call (Pure.clr (zx7 ax hx k seed height index message rSign2 e9 ) (by first|rfl|simp only [c5])),trivial⟩
  clear hh h;intro h hh;rcases isb H with ⟨c10,H⟩|⟨c10,H⟩;rotate_left
  ·skip;repeat apply TW.seq
   refine dk 27 [10] [] [] [] (f3 hh c10 c5) trivial trivial ?_;clear hh h;intro h hh;cases H;exact rt hh
  rcases isp H with ⟨c11,H⟩|⟨c11,H⟩;rotate_left
  ·skip;repeat apply TW.seq
   refine dk 27 [10] [] [] [] (f3 hh c10 (f3 (decide_eq_false c11) c5 ((aq23 ax rPublic.1 rPublic2.1).1))) trivial trivial ?_;clear hh h;intro h hh;cases H;exact rt hh
  rcases isp H with ⟨c12,H⟩|⟨c12,H⟩;rotate_left
  ·skip;repeat apply TW.seq
   refine dk 27 [10] [] [] [] (f3 hh c10 (f3 (decide_eq_true c11) (decide_eq_false c12) (f2 c5 ((aq23 ax rPublic.1 rPublic2.1).1)))) trivial trivial ?_;clear hh h;intro h hh;cases H;exact rt hh
  rcases isp H with ⟨c13,H⟩|⟨c13,H⟩;rotate_left
  ·skip;repeat apply TW.seq
   refine dk 27 [10] [] [] [] (f3 hh c10 (f3 (decide_eq_true c11) (decide_eq_true c12) (f3 (decide_eq_false c13) c5 ((aq23 ax rPublic.1 rPublic2.1).1)))) trivial trivial ?_;clear hh h;intro h hh;cases H;exact rt hh
  rcases isp H with ⟨c14,H⟩|⟨c14,H⟩;rotate_left
  ·skip;repeat apply TW.seq
   refine dk 27 [10] [] [] [] (f3 hh c10 (f3 (decide_eq_true c11) (decide_eq_true c12) (f3 (decide_eq_true c13) (decide_eq_false c14) (f2 c5 ((aq23 ax rPublic.1 rPublic2.1).1))))) trivial trivial ?_;clear hh h;intro h hh;cases H;exact rt hh
  obtain ⟨rMessage,e15,H⟩:=zak H;obtain ⟨rMessage2,e16,H⟩:=zak H;repeat apply TW.seq
  refine dk 27 [10] [.agg (rMessage.l.map (T.int .u8))] [] [(.agg (rMessage2.l.map (T.int .u8)),stL [.cells true 16 (public_.l.map (T.int .u8)),.cells true 16 (rPublic.1.l.map (T.int .u8)),.cells true 16 (rPublic2.1.l.map (T.int .u8))])] (f3 hh c10 (f3 (decide_eq_true c11) (decide_eq_true c12) (f3 (decide_eq_true c13) (decide_eq_true c14) (f3 c5 ((aq23 ax rPublic.1 rPublic2.1).1) ((aq23 ax rMessage rMessage2).1))))) ?_ ?_ ?_
  ·exact ⟨Pure.clr (zhz ax hx k public_ index message rMessage e15 ) (by first|rfl|simp only [c5,c10]),trivial⟩
  ·exact ⟨zax.call (Pure.clr (zll ax hx k public_ index message rMessage2 e16 ) (by first|rfl|simp only [c5,c10])),trivial⟩
  clear hh h;intro h hh;cases H;exact rt hh
 repeat apply TW.seq
 refine ct (f2 hh c5) ?_;repeat apply TW.seq
 refine rk [10] [] (f2 hh c5) ?_;clear hh h;intro h hh;cases H;exact rt hh
end
section
open Go Go.RowKit
set_option maxRecDepth 100000
end
section
open Go Go.RowKit
end
section
open Go Go.RowKit
set_option maxRecDepth 100000
end
section
open Go Go.RowKit WM
set_option maxRecDepth 100000
theorem ya5 (k:Nat) (seed:ByteArray) (h i:Int) (m:ByteArray) (P:Dg) (hi:-9223372036854775808≤i∧i≤9223372036854775807):zcl (k+100) seed h i m P=some true:=by
  unfold zcl;rw [yir,Option.bind_some];by_cases h1:200<(seed.size:Int)
  · rw [if_pos h1,Option.bind_some,if_pos rfl]
  rw [if_neg h1];by_cases h2:200<(m.size:Int)
  · rw [if_pos h2,Option.bind_some,if_pos rfl]
  rw [if_neg h2];have hs:seed.size≤4000:=by omega
  have hm:m.size≤4000:=by omega
  have hb:=z4x (k+80) P hi.1 hi.2 hm
  have key:∀ (p s:Dg×Int) (t:ByteArray×Int),zb6 (k+100) seed h=some p→zdj (k+100) seed h=some p→zcq (k+100) seed h i m=some t→ze6 (k+100) seed h i m=some t→((zb6 (k+100) seed h).bind fun rPublic=>((zdj (k+100) seed h).bind fun rPublic2=>((zcq (k+100) seed h i m).bind fun rSign=>((ze6 (k+100) seed h i m).bind fun rSign2=>(if true=true then (if rPublic.1=rPublic2.1 then (if rPublic.2=rPublic2.2 then (if rSign.1=rSign2.1 then (if rSign.2=rSign2.2 then ((zb2 (k+100) P i m).bind fun rMessage=>((zd5 (k+100) P i m).bind fun rMessage2=>some (decide (rMessage=rMessage2)))) else some false) else some false) else some false) else some false) else some false)))))=some true:=by
    intro p s t e1 e2 e3 e4;rw [e1,e2,e3,e4];simp only [Option.bind_some,if_true,hb.1,hb.2];simp
  by_cases h3:h<0∨6<h
  · have hk:=key (zA 16,1) (zA 16,1) (⟨#[]⟩,1) (zyz _ seed h3) (zum _ seed h3) (yd2 _ seed m h3) (z9u _ seed m h3);by_cases h4:2<h
    · rw [if_pos h4,Option.bind_some,if_neg (by rw [decide_eq_true_eq];omega)];exact hk
    · rw [if_neg h4,Option.bind_some,if_neg (by simp)];exact hk
  · obtain ⟨H,rfl⟩:∃ H:Nat,h=(H:Int):=⟨h.toNat,by omega⟩;have hh:H≤6:=by omega
    by_cases h4:2<(H:Int)
    · rw [if_pos h4,Option.bind_some,if_pos (by rw [decide_eq_true_eq];omega)]
    rw [if_neg h4,Option.bind_some,if_neg (by simp)];by_cases h5:i<0∨((2 ^ H:Nat):Int)≤i
    · exact key _ (zA 16,1) _ (zsc k hs hh) (zmh k hs hh) (zuc _ seed m hh h5) (z1z k hs m hh h5)
    · obtain ⟨I,rfl⟩:∃ I:Nat,i=(I:Int):=⟨i.toNat,by omega⟩;exact key _ (zA 16,1) _ (zsc k hs hh) (zmh k hs hh) (z84 k hs hm hh (by omega)) (yea k hs hm hh (by omega))
end
end Go.Proofs.YtcgdomhednbdpaaDoor
