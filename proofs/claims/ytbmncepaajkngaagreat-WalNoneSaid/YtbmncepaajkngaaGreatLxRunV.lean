/- The runner of looked-up code. -/
import Derived.Test.YtbmncepaajkngaaGreatLxVal
namespace Go.Lx
set_option linter.unusedVariables false
noncomputable section

structure Fn' where
  rc : RC
  res : List RV
  n : Nat

structure Pg where
  fn : Nat → Option Fn'
  xf : Nat → Option Xf
  me : Nat → String → Option Nat

def Pg.hb (P : Pg) (f : Nat) : Bool := match P.fn f with | some _ => true | none => false

def putK {β : Type} (e : T V) (d : Option Nat) (v : V) (k : T V → β) : β := match d with
  | none => k e
  | some d => fV v fun v => e.setK d (some v) k

inductive RR where
  | ret (v : V) (rec : Bool) (s : St)
  | pan (v : V) (s : St)
  | bad (f : Nat) (why : Nat)

/-- What was read ahead in a region whose order is open. -/
structure Pe where
  i : Nat
  q : VE → St → Option V
  e : T V
  v : V

structure Dr where
  segs : List (List DOp)
  un : List (Nat × Nat × E)
  pe : List Pe

inductive Md where
  | op (ops : List GOp)
  | dr (ops : List DOp) (d : Dr)
  | ret
  | pan (v : V)

def rndArgs {β : Type} (e : T V) : List Nat → List V → (T V → β) → Option β
  | [], [], k => some (k e)
  | p :: ps, v :: vs, k => fV v fun v => e.setK p (some v) fun e => rndArgs e ps vs k
  | _, _, k => none

/-- f: the function; rnd: the loop whose round it is; pv: the panic that it may end. -/
abbrev RunT := Nat → Option Nat → Option V → List Dt → List RI → T V → St → Md → RR

def memN (i : Nat) : List Nat → Bool
  | [] => false
  | j :: l => bif Nat.beq i j then true else memN i l

/-- Blocks are born that an operation may look into. -/
def birthK {β : Type} (ck : List Nat) : List (Nat × Nat × E) → St → (List (Nat × Nat × E) → St → β) → β
  | [], s, k => k [] s
  | (i, b, x) :: un, s, k => bif memN i ck then birthK ck un s fun un s => k ((i, b, x) :: un) s else s.putK b (some x) fun s => birthK ck un s k
def bornK {β : Type} : List (Nat × Nat × E) → St → (St → β) → β
  | [], s, k => k s
  | (_, b, x) :: un, s, k => s.putK b (some x) fun s => bornK un s k
/-- What was read ahead is still so. -/
def chkV (ck : List Nat) (s : St) : List Pe → Bool
  | [] => true
  | p :: pe => bif memN p.i ck then (match p.q (evV p.e) s with | some v => bif eqV p.v v then chkV ck s pe else false | none => false) else chkV ck s pe

def ltAll (x : Option Fn') : List Nat → Bool
  | [] => true
  | t :: l => bif (match x with | some fx => Nat.blt t fx.n | none => false) then ltAll x l else false

section
variable (P : Pg) (ih : RunT) (f : Nat) (rnd : Option Nat) (pv : Option V) (ds : List Dt) (k : List RI) (e : T V)

def mdPv : Md → Option V | .pan v => some v | _ => none

def goOn (nx : V → St → RR) (pe : T V) : RR → RR
  | .ret v _ s => nx v s
  | .pan v s => ih f rnd pv ds k pe s (.pan v)
  | .bad a b => .bad a b
def enterV (g : Nat) (pv : Option V) (args : List V) (s : St) : RR := match P.fn g with
  | none => .bad g 6
  | some fn => bif Nat.ble args.length fn.n then argK .nil 0 args fun e => ih g none pv [] [.code fn.rc] e s (.op []) else .bad g 27
def roundV (l : Nat) (args : List V) (s : St) : RR := match s.h.get l with
  | some (.lp _ _ g tm _ ps asg body _) => match rndArgs tm ps args fun e => ih g (some l) none [] [.code asg, .beginRound, .code body] e s (.op []) with
    | some r => r
    | none => .bad f 7
  | _ => .bad f 7

def nxOp (d : Option Nat) (gs : List GOp) (v : V) (s : St) : RR := putK e d v fun e => ih f rnd pv ds k e s (.op gs)
def nxDr (d : Option Nat) (ck : List Nat) (ops : List DOp) (x : Dr) (v : V) (s : St) : RR :=
  bif chkV ck s x.pe then putK e d v fun e => ih f rnd pv ds k e s (.dr ops x) else .bad f 20

def stepOut (d : Option Nat) (gs : List GOp) (s : St) : OR → RR
  | .v v s' => nxOp ih f rnd pv ds k e d gs v s'
  | .call g args => goOn ih f rnd pv ds k (nxOp ih f rnd pv ds k e d gs) e (enterV P ih g none args s)
  | .round l args => goOn ih f rnd pv ds k (nxOp ih f rnd pv ds k e d gs) e (roundV ih f l args s)
  | .pan v => ih f rnd pv ds k e s (.pan v)
  | .dfr dt => match rnd with
    | none => putK e d undV fun e => ih f none pv (dt :: ds) k e s (.op gs)
    | some _ => .bad f 8
  | .rcv => match rnd with
    | none => match pv with
      | some v => putK e d v fun e => ih f none none ds k e s (.op gs)
      | none => putK e d .ni fun e => ih f none none ds k e s (.op gs)
    | some _ => .bad f 19
def stepOutD (d : Option Nat) (ck : List Nat) (ops : List DOp) (x : Dr) (s : St) : OR → RR
  | .v v s' => nxDr ih f rnd pv ds k e d ck ops x v s'
  | .call g args => goOn ih f rnd pv ds k (nxDr ih f rnd pv ds k e d ck ops x) .nil (enterV P ih g none args s)
  | .round l args => goOn ih f rnd pv ds k (nxDr ih f rnd pv ds k e d ck ops x) .nil (roundV ih f l args s)
  | .pan v => ih f rnd pv ds k .nil s (.pan v)
  | _ => .bad f 21
def stepAct (d : Option Nat) (gs : List GOp) (s : St) : Act' → RR
  | .q q => match q (evV e) s with
    | some v => nxOp ih f rnd pv ds k e d gs v s
    | none => .bad f (1000 + d.getD 999)
  | .a a => match a (evV e) s with
    | some (v, x) => s.newK x fun s => nxOp ih f rnd pv ds k e d gs v s
    | none => .bad f (1000 + d.getD 999)
  | .x x => match x (evV e) s with
    | some o => stepOut P ih f rnd pv ds k e d gs s o
    | none => .bad f (1000 + d.getD 999)
  | .no => .bad f (1000 + d.getD 999)
def stepOp (g : GOp) (gs : List GOp) (s : St) : RR := match guardV e g.g with
  | some true => stepAct P ih f rnd pv ds k e g.d gs s (actV P.hb P.xf P.me g.r)
  | some false => nxOp ih f rnd pv ds k e g.d gs undV s
  | none => .bad f 5
def stepActD (o : DOp) (ops : List DOp) (x : Dr) (s : St) : Act' → RR
  | .q q => match q (evV e) s with
    | some v => fV v fun v => putK e o.g.d v fun e' => ih f rnd pv ds k e' s (.dr ops ⟨x.segs, x.un, bif o.keep then ⟨o.i, q, e, v⟩ :: x.pe else x.pe⟩)
    | none => .bad f (1000 + o.g.d.getD 999)
  | .a a => match a (evV e) s with
    | some (v, y) => putK e o.g.d v fun e => s.keepK fun s' => ih f rnd pv ds k e s' (.dr ops ⟨x.segs, (o.i, s.nb, y) :: x.un, x.pe⟩)
    | none => .bad f (1000 + o.g.d.getD 999)
  | .x y => birthK o.ck x.un s fun un s => match y (evV e) s with
    | some out => stepOutD P ih f rnd pv ds k e o.g.d o.ck ops ⟨x.segs, un, x.pe⟩ s out
    | none => .bad f (1000 + o.g.d.getD 999)
  | .no => .bad f (1000 + o.g.d.getD 999)
def stepOpD (o : DOp) (ops : List DOp) (x : Dr) (s : St) : RR := match guardV e o.g.g with
  | some true => stepActD P ih f rnd pv ds k e o ops x s (actV P.hb P.xf P.me o.g.r)
  | some false => putK e o.g.d undV fun e => ih f rnd pv ds k e s (.dr ops x)
  | none => .bad f 5
/-- A part of a region is done. -/
def segEnd (x : Dr) (s : St) : RR := bornK x.un s fun s => match x.segs with
  | [] => ih f rnd pv ds k e s (.op [])
  | g :: gs => ih f rnd pv ds k e s (.dr g ⟨gs, [], []⟩)

def leaveV (jump : Option RC) (s : St) : RR := match rnd with
  | none => match jump with
    | some (.exit _) => .bad f 23
    | _ => ih f none pv ds k e s .ret
  | some l => match s.h.get l with
    | some (.lp _ _ g tm nn ps asg body df) => match jump with
      | none => s.putK l (some (.lp .ready none g tm nn ps asg body df)) fun s => .ret (.b true) false s
      | some j => s.putK l (some (.lp .done (some j) g tm nn ps asg body df)) fun s => .ret (.b false) false s
    | _ => .bad f 9
def endLoopV (b : Nat) (s : St) : RR := match s.h.get b with
  | some (.lp st pend g tm nn ps asg body df) => match st, pend with
    | .busy, _ => .bad f 13
    | _, none => s.putK b (some (.lp .exhausted none g tm nn ps asg body df)) fun s => ih f none pv ds k e s (.op [])
    | _, some c => s.putK b (some (.lp .exhausted (some c) g tm nn ps asg body df)) fun s => ih f none pv ds (.code c :: k) e s (.op [])
  | _ => .bad f 14
def rangeBack (b : Nat) : RR → RR
  | .ret _ _ s => endLoopV ih f pv ds k e b s
  | .pan v s => ih f none pv ds k e s (.pan v)
  | .bad a b => .bad a b
def rangeV (ps : Array Tmp) (asg body : RC) (s : St) : Option V → RR
  | some (.fn (.func g) a b) => match rnd with
    | some _ => .bad f 12
    | none => bif P.hb g && ltAll (P.fn f) ps.toList then fN s.nb fun b0 => s.newK (.df (some [])) fun s1 => s1.newK (.lp .ready none f e 0 ps.toList asg body b0) fun s2 =>
        rangeBack ih f pv (.coll b0 :: ds) k e (Nat.succ b0) (fN (Nat.succ b0) fun b1 => enterV P ih g none (a ++ .fn (.yield b1) [] [] :: b) s2) else .bad f 24
  | _ => .bad f 15
def condV (a b : RC) (s : St) : Option V → RR
  | some (.b true) => ih f rnd pv ds (.code a :: k) e s (.op [])
  | some (.b false) => ih f rnd pv ds (.code b :: k) e s (.op [])
  | _ => .bad f 10
def exitV (id : Nat) (s : St) : Option (List RI) → RR
  | some k' => ih f rnd pv ds k' e s (.op [])
  | none => leaveV ih f rnd pv ds k e (some (.exit id)) s
def stepRC (s : St) : RC → RR
  | .skip => ih f rnd pv ds k e s (.op [])
  | .label _ => ih f rnd pv ds k e s (.op [])
  | .reg ops => ih f rnd pv ds k e s (.op ops)
  | .draw _ segs => ih f rnd pv ds k e s (.dr [] ⟨segs, [], []⟩)
  | .seq a b => ih f rnd pv ds (.code a :: .code b :: k) e s (.op [])
  | .cond c a b => condV ih f rnd pv ds k e a b s (evV e c)
  | .block id b => ih f rnd pv ds (.code b :: .inBlock id :: k) e s (.op [])
  | .loop b => ih f rnd pv ds (.code b :: .inLoop b :: k) e s (.op [])
  | .scope b => ih f rnd pv ds (.code b :: .inScope :: k) e s (.op [])
  | .exit id => exitV ih f rnd pv ds k e id s (rexit id k)
  | .ret => leaveV ih f rnd pv ds k e (some .ret) s
  | .range fx ps asg body => rangeV P ih f rnd pv ds k e ps asg body s (evV e fx)
def beginV (s : St) : RR := match rnd with
  | some l => match s.h.get l with
    | some (.lp .ready pend g tm nn ps asg body df) => s.putK l (some (.lp .busy pend g tm nn ps asg body df)) fun s => ih f (some l) pv ds k e s (.op [])
    | _ => .bad f 17
  | none => .bad f 18
def stepCode (s : St) : List RI → RR
  | [] => leaveV ih f rnd pv ds [] e none s
  | .code c :: k => stepRC P ih f rnd pv ds k e s c
  | .inBlock _ :: k => ih f rnd pv ds k e s (.op [])
  | .inScope :: k => ih f rnd pv ds k e s (.op [])
  | .inLoop b :: k => ih f rnd pv ds (.code b :: .inLoop b :: k) e s (.op [])
  | .endRange _ :: _ => .bad f 16
  | .beginRound :: k => beginV ih f rnd pv ds k e s

def deferBack (md : Md) : RR → RR
  | .ret _ rec s' => ih f none pv ds k e s' (bif rec then .ret else md)
  | .pan _ _ => .bad f 25
  | .bad a b => .bad a b
def finV (s : St) : Md → RR
  | .pan v => .pan v s
  | _ => match P.fn f with
    | none => .bad f 3
    | some fn => match rvV e s fn.res with
      | some vs => fV (tupVV vs) fun v => .ret v pv.isNone s
      | none => .bad f 4
def stepLeave (md : Md) (s : St) : List Dt → RR
  | .coll b :: ds => match s.h.get b with
    | some (.df (some [])) => s.putK b (some (.df none)) fun s => ih f rnd pv ds k e s md
    | _ => .bad f 1
  | .fn g args :: ds => match rnd with
    | none => deferBack ih f pv ds k e md (enterV P ih g (mdPv md) args s)
    | some _ => .bad f 26
  | [] => finV P f pv e s md
end

def stepV (P : Pg) (ih : RunT) : RunT := fun f rnd pv ds k e s md => match md with
  | .op [] => stepCode P ih f rnd pv ds e s k
  | .op (g :: gs) => stepOp P ih f rnd pv ds k e g gs s
  | .dr [] x => segEnd ih f rnd pv ds k e x s
  | .dr (o :: ops) x => stepOpD P ih f rnd pv ds k e o ops x s
  | .ret => match rnd with
    | none => stepLeave P ih f none pv k e .ret s ds
    | some _ => .bad f 28
  | .pan v => stepLeave P ih f rnd pv k e (.pan v) s ds

def run (P : Pg) (n : Nat) : RunT := Nat.rec (motive := fun _ => RunT) (fun f _ _ _ _ _ _ _ => .bad f 0) (fun _ ih => stepV P ih) n
end
end Go.Lx
